/- Part 2 of the walks of the golf union's program: TailW, M1, L1, Name. -/
import Derived.Test.YtkkkfjinflepmaaGreatDoorB01
import Derived.OrdersHeld
import Derived.Deep.RegionHeld3
import Derived.Test.YtkkkfjinflepmaaGreatDoorProg
import Derived.WalkLawsBesides
import Derived.BigQuiet
import Derived.Deep.QuietTactic
import Derived.StillTailTactics
set_option linter.unusedVariables false
set_option linter.unusedSimpArgs false
set_option linter.unusedSectionVars false
set_option linter.constructorNameAsVariable false
/- A drawn region of three parts: first m operations that have one value in whatever world; quiet operations (loads) that have one value in every world that meets S; loud operations that keep S, in whatever order; then a forced tail. -/
namespace Go.Mem
open Go Go.RowKit
variable {P : Program} {ops : Array Oper} {md : Region.Mode} {S : World → Prop} {Q : Exit → Act → World → Prop}
/-- operations that yield a value and nothing else -/
def plainOp : Op → Bool
  | .move _ | .assign _ | .fieldAddr _ _ _ | .load _ _ | .nilCheck _ | .indexAddr _ _ _ => true
  | .binOp _ _ _ _ _ => true
  | .call { callee := .builtin .len, args := _, argTypes := _ } => true
  | .call { callee := .builtin .max, args := _, argTypes := _ } => true
  | .call { callee := .builtin .min, args := _, argTypes := _ } => true
  | _ => false
def Good (P : Program) (t : Sem Next) : Prop := ∀ w w' n, t.run P w = .ok n w' → ∃ v, n = .value v
theorem Good.pure (x : Value) : Good P (Pure.pure (Next.value x)) := fun w w' n h => by
  simp only [Sem.run_pure, Result.ok.injEq] at h; exact ⟨_, h.1.symm⟩
theorem Good.bind {α : Type} (s : Sem α) (f : α → Sem Next) (h : ∀ x, Good P (f x)) : Good P (s >>= f) := fun w w' n hs => by
  simp only [Sem.run_bind] at hs
  cases hq : s.run P w with
  | ok x w2 => rw [hq] at hs; simp only [Result.andThen_ok] at hs; exact h x _ _ _ hs
  | halt x w2 => rw [hq] at hs; simp [Result.andThen] at hs
theorem Good.nilDeref : Good P (runtimePanic .nilDeref) := fun w w' n h => by
  simp [runtimePanic, goPanic, go_sem] at h
theorem plain_good {o : Oper} (h : plainOp o.op = true) (ρ : Operand → Value) : Good P (execOp ρ o) := by
  unfold execOp
  unfold plainOp at h
  split at h
  · rename_i e; simp only [e]; exact .pure _
  · rename_i e; simp only [e]; exact .pure _
  · rename_i e; simp only [e]; exact .bind _ _ fun x => .pure x
  · rename_i e; simp only [e]; exact .bind _ _ fun x => .pure x
  · rename_i e
    simp only [e]
    split
    · exact .nilDeref
    · exact .nilDeref
    · exact .nilDeref
    · split
      · exact .nilDeref
      · refine .bind _ _ fun x => .bind _ _ fun y => ?_
        split
        · exact .bind _ _ fun _ => .pure _
        · exact .pure _
      · exact .pure _
    · exact .pure _
  · rename_i e; simp only [e]; exact .bind _ _ fun x => .pure x
  · rename_i e; simp only [e]; exact .bind _ _ fun x => .pure x
  · rename_i e
    simp only [e, resolve, invoke, builtin]
    intro w w' n hs
    simp only [Sem.run_bind, Sem.run_pure, Result.andThen_ok] at hs
    exact (Good.bind (Builtin.len_ _ _ _) (fun x => Pure.pure (Next.value x)) fun x => .pure x) _ _ _ (by simpa only [Sem.run_bind, Sem.run_pure] using hs)
  · rename_i e
    simp only [e, resolve, invoke, builtin]
    intro w w' n hs
    simp only [Sem.run_bind, Sem.run_pure, Result.andThen_ok] at hs
    exact (Good.bind (Builtin.max_ _ _ _) (fun x => Pure.pure (Next.value x)) fun x => .pure x) _ _ _ (by simpa only [Sem.run_bind, Sem.run_pure] using hs)
  · rename_i e
    simp only [e, resolve, invoke, builtin]
    intro w w' n hs
    simp only [Sem.run_bind, Sem.run_pure, Result.andThen_ok] at hs
    exact (Good.bind (Builtin.min_ _ _ _) (fun x => Pure.pure (Next.value x)) fun x => .pure x) _ _ _ (by simpa only [Sem.run_bind, Sem.run_pure] using hs)
  · cases h
/-- what a quiet walk shows of a plain operation -/
theorem yieldsIf_of_qOp {i : Nat} {o : Oper} {a : Act} {K : Act → Prop} (hi : ops[i]? = some o) (hp : plainOp o.op = true) (h : qOp P ops S i K a) : ∃ v, YieldsIf P ops S o v a ∧ K (a.put o.dst v) := by
  obtain ⟨v, hy, hk⟩ := yieldsIn_of_qOp hi h
  refine ⟨v, hy.imp (fun ⟨h1, h2⟩ => ⟨h1, fun w hw => ?_⟩) id, hk⟩
  have h3 := h2 w hw
  unfold Oper.quietAt at h3
  generalize hr : (execOp a.eval o).run P w = r at *
  cases r with
  | ok n w' =>
    obtain ⟨u, rfl⟩ := plain_good hp _ _ _ _ hr
    obtain ⟨rfl, rfl⟩ := h3
    rfl
  | halt x w' => simp only [Oper.quietUpon] at h3
/-- the operations of the list, each ready and free when its turn comes -/
def lexIs (md : Region.Mode) (ops : Array Oper) : List Nat → Array Bool → Bool
  | [], _ => true
  | i :: l, ls => (Region.ready md ops ls).contains i && Region.free md ops ls i && ((ops[i]?).map fun o => plainOp o.op).getD false && lexIs md ops l (ls.setIfInBounds i true)
def setAll : List Nat → Array Bool → Array Bool
  | [], ls => ls
  | i :: l, ls => setAll l (ls.setIfInBounds i true)
def pick (ops : Array Oper) (l : List Nat) : List Oper := l.filterMap (ops[·]?)
theorem wpQuiet_mono' {R R' : Act → Prop} (hR : ∀ a, R a → R' a) : ∀ {l : List Oper} {a : Act}, wpQuiet P ops S R l a → wpQuiet P ops S R' l a := by
  intro l
  induction l with
  | nil => intro a h; exact hR _ h
  | cons o l ih =>
    intro a h
    simp only [wpQuiet] at h ⊢
    split
    · rename_i hw; rw [if_pos hw] at h; exact Oper.quiet_mono (fun a => ih) h
    · rename_i hw; rw [if_neg hw] at h; exact ih h
/-- operations that have one value in whatever world may come first in the region -/
theorem wpAny_pre (hsel : Region.noSelect ops = true) (hQ : ∀ c a a' w, Q (.panic c) a' w → Q (.panic c) a w) {g : Nat} {w : World} (pre : List Nat) :
    ∀ (ls : Array Bool) (a : Act), lexIs md ops pre ls = true → wpQuiet P ops (fun _ => True) (fun a' => wpAny P md ops Q g (setAll pre ls) a' w) (pick ops pre) a → wpAny P md ops Q (pre.length + g) ls a w := by
  induction pre with
  | nil => intro ls a _ h; rw [List.length_nil, Nat.zero_add]; exact h
  | cons i l ih =>
    intro ls a hB h
    simp only [lexIs, Bool.and_eq_true] at hB
    obtain ⟨⟨⟨hr, hf⟩, hp⟩, hB⟩ := hB
    cases ho : ops[i]? with
    | none => rw [ho] at hp; cases hp
    | some o =>
      rw [ho] at hp
      have e : pick ops (i :: l) = o :: pick ops l := by simp [pick, ho]
      rw [e] at h
      have hq : qOp P ops (fun _ => True) i (wpQuiet P ops (fun _ => True) (fun a' => wpAny P md ops Q g (setAll (i :: l) ls) a' w) (pick ops l)) a := by unfold qOp; simp only [ho]; exact h
      obtain ⟨v, hy, hk⟩ := yieldsIf_of_qOp ho hp hq
      have e2 : (i :: l).length + g = (l.length + g) + 1 := by simp only [List.length_cons]; omega
      rw [e2]
      exact wpAny_take ho hsel hf hr (fun c a w h => hQ _ _ _ _ h) (hy.imp (fun ⟨h1, h2⟩ => ⟨h1, fun w => h2 w trivial⟩) id) (ih _ _ hB hk)
def sinkFrom (md : Region.Mode) (ops : Array Oper) (m n : Nat) : Bool :=
  (List.range n).all fun i => decide (i < m) || (List.range (n + 1)).any fun j => decide (i < j) && Region.waitsFor md ops j i
theorem tail_waits' {m n : Nat} {listed : Array Bool} (hs : sinkFrom md ops m n = true) (hc : Region.chainB md ops n = true) (hn : n < ops.size) (inv : HeadInv md ops n listed) :
    ∀ (d i : Nat), n - i = d → m ≤ i → i < n → listed.getD i true = false → ∀ t, n ≤ t → t ∉ Region.ready md ops listed := by
  intro d
  induction d using Nat.strongRecOn with
  | _ d ih =>
    intro i hd hmi hi hun t ht hr
    obtain ⟨_, ot, hot, hall⟩ := mem_ready.1 hr
    have htlt : t < ops.size := (Array.getElem?_eq_some_iff.1 hot).1
    by_cases htn : t = n
    · subst htn
      have h1 := List.all_eq_true.1 hs i (List.mem_range.2 hi)
      have h1' : ((List.range (t + 1)).any fun j => decide (i < j) && Region.waitsFor md ops j i) = true := by
        simp only [Bool.or_eq_true, decide_eq_true_eq] at h1
        rcases h1 with h1 | h1
        · omega
        · exact h1
      obtain ⟨j, hj, hj2⟩ := List.any_eq_true.1 h1'
      simp only [Bool.and_eq_true, decide_eq_true_eq] at hj2
      obtain ⟨oj, hoj, e, he, hb, hon⟩ := Region.waitsFor_spec hj2.2
      have hjle : j ≤ t := by have := List.mem_range.1 hj; omega
      by_cases hjt : j = t
      · subst hjt
        have : oj = ot := Option.some.inj (hoj.symm.trans hot)
        subst this
        have h2 := hall e he hb
        rw [hon, getD_both hun] at h2
        cases h2
      · cases hl : listed.getD j false with
        | true =>
          have h2 := inv.closed j oj hoj hl e he hb
          rw [hon, getD_both hun] at h2
          cases h2
        | false =>
          have hjs : j < listed.size := by rw [inv.size]; omega
          exact ih (t - j) (by omega) j rfl (by omega) (by omega) (getD_in hjs hl) t (Nat.le_refl _) hr
    · have h1 := List.all_eq_true.1 hc t (List.mem_range.2 htlt)
      simp only [Bool.or_eq_true, decide_eq_true_eq] at h1
      rcases h1 with h1 | h1
      · omega
      · obtain ⟨o', ho', e, he, hb, hon⟩ := Region.waitsFor_spec h1
        have : o' = ot := Option.some.inj (ho'.symm.trans hot)
        subst this
        have h2 := hall e he hb
        rw [hon, getD_both (inv.tail (t - 1) (by omega) (by omega))] at h2
        cases h2
/-- whatever is picked within the head; S is kept -/
def headW (P : Program) (md : Region.Mode) (ops : Array Oper) (Q : Exit → Act → World → Prop) (S : World → Prop) (n : Nat) (L : Array Bool → Act → World → Prop) : Nat → Array Bool → Act → World → Prop
  | 0, ls, a, w => L ls a w
  | k + 1, ls, a, w => Region.ready md ops ls ≠ [] ∧ ∀ i ∈ Region.ready md ops ls, i < n ∧ wpOp P ops Q i (fun a' w' => S w' ∧ headW P md ops Q S n L k (ls.setIfInBounds i true) a' w') a w
theorem headW_sound {n g : Nat} {L : Array Bool → Act → World → Prop} (hL : ∀ ls a w, L ls a w → wpAny P md ops Q g ls a w) (k : Nat) :
    ∀ (ls : Array Bool) (a : Act) (w : World), headW P md ops Q S n L k ls a w → wpAny P md ops Q (k + g) ls a w := by
  induction k with
  | zero => intro ls a w h; rw [Nat.zero_add]; exact hL ls a w h
  | succ k ih =>
    intro ls a w h
    have e : k + 1 + g = (k + g) + 1 := by omega
    rw [e]
    exact ⟨fun h0 => absurd h0 h.1, fun i hi => wpOp_mono (fun a' w' h' => ih _ a' w' h'.2) (h.2 i hi).2⟩
theorem headW_first {m n i : Nat} {oi : Oper} {v : Value} {L : Array Bool → Act → World → Prop} (hi : ops[i]? = some oi) (hsel : ∀ (j : Nat) (o : Oper) cs b, ops[j]? = some o → o.op ≠ .select cs b)
    (hs : sinkFrom md ops m n = true) (hc : Region.chainB md ops n = true) (hn : n < ops.size) (hin : i < n) (hQ : ∀ c a a' w, Q (.panic c) a' w → Q (.panic c) a w)
    (hend : ∀ ls a w, L ls a w → ∀ j ∈ Region.ready md ops ls, n ≤ j) (k : Nat) :
    ∀ (ls : Array Bool) (a : Act) (w : World), HeadInv md ops n ls → (∀ i < m, ls.getD i true = true) →
      (∀ j oj, ops[j]? = some oj → j ≠ i → ls.getD j true = false → (∀ e ∈ oj.after, Region.binds md e = true → e.on ≠ i) → oi.apart ops oj = true) →
      i ∈ Region.ready md ops ls → YieldsIf P ops S oi v a → S w → headW P md ops Q S n L k (ls.setIfInBounds i true) (a.put oi.dst v) w → headW P md ops Q S n L (k + 1) ls a w := by
  have inHead : ∀ (ls : Array Bool), HeadInv md ops n ls → (∀ i < m, ls.getD i true = true) → i ∈ Region.ready md ops ls → ∀ j ∈ Region.ready md ops ls, j < n := by
    intro ls inv hm hr j hj
    rcases Nat.lt_or_ge j n with h | h
    · exact h
    · have hun := (mem_ready.1 hr).1
      have hmi : m ≤ i := by
        rcases Nat.lt_or_ge i m with h' | h'
        · rw [hm i h'] at hun; cases hun
        · exact h'
      exact absurd hj (tail_waits' hs hc hn inv _ i rfl hmi hin hun j h)
  induction k with
  | zero =>
    intro ls a w inv hm _ hr hy hS H
    refine ⟨fun h => (by rw [h] at hr; cases hr), fun j hj => ⟨inHead ls inv hm hr j hj, ?_⟩⟩
    by_cases e : j = i
    · subst e; exact hy.wpOp hi hS ⟨hS, H⟩
    · have h1 := hend _ _ _ H j (ready_mono hj e)
      have h2 := inHead ls inv hm hr j hj
      omega
  | succ k ih =>
    intro ls a w inv hm hfree hr hy hS H
    refine ⟨fun h => (by rw [h] at hr; cases hr), fun j hj => ⟨inHead ls inv hm hr j hj, ?_⟩⟩
    by_cases e : j = i
    · subst e; exact hy.wpOp hi hS ⟨hS, H⟩
    · obtain ⟨hju, oj, hoj, hall⟩ := mem_ready.1 hj
      have hnot : ∀ d ∈ oj.after, Region.binds md d = true → d.on ≠ i := fun d hd hb hq => by
        have h1 := hall d hd hb
        rw [hq, getD_both (mem_ready.1 hr).1] at h1
        cases h1
      have h1 := wpOp_putIf hoj (hfree j oj hoj e hju hnot) (fun cs b => hsel i oi cs b hi) (fun cs b => hsel j oj cs b hoj) (fun c a w h => hQ c a _ w h) hy (H.2 j (ready_mono hj e)).2
      refine wpOp_mono (fun a' w' h2 => ⟨h2.2.1, ?_⟩) h1
      refine ih (ls.setIfInBounds j true) a' w' (inv.set hj (inHead ls inv hm hr j hj)) (fun x hx => ?_) (fun q om hq hqi hqu hno => ?_) (ready_mono hr (Ne.symm e)) h2.1 h2.2.1 ?_
      · by_cases hjx : j = x
        · subst hjx
          have := (mem_ready.1 hj).1
          rw [hm j hx] at this
          cases this
        · rw [getD_set_ne true hjx]; exact hm x hx
      · refine hfree q om hq hqi ?_ hno
        by_cases hjm : j = q
        · subst hjm; exact hju
        · rw [getD_set_ne true hjm] at hqu; exact hqu
      · rw [Array.setIfInBounds_comm _ _ e]
        exact h2.2.2
theorem HeadInv.setAll {n : Nat} : ∀ (l : List Nat) (ls : Array Bool), HeadInv md ops n ls → lexIs md ops l ls = true → (∀ i ∈ l, i < n) → HeadInv md ops n (setAll l ls)
  | [], _, inv, _, _ => inv
  | i :: l, ls, inv, hB, hl => by
    simp only [lexIs, Bool.and_eq_true] at hB
    exact HeadInv.setAll l _ (inv.set (by simpa using hB.1.1.1) (hl i (List.mem_cons_self ..))) hB.2 fun j hj => hl j (List.mem_cons_of_mem _ hj)
theorem setAll_true : ∀ (l : List Nat) (ls : Array Bool) (x : Nat), ls.getD x true = true → (Go.Mem.setAll l ls).getD x true = true
  | [], _, _, h => h
  | i :: l, ls, x, h => by
    refine setAll_true l _ x ?_
    by_cases hix : i = x
    · subst hix
      rcases Nat.lt_or_ge i ls.size with h' | h'
      · simp [h']
      · simp [h']
    · rw [getD_set_ne true hix]; exact h
theorem setAll_mem : ∀ (l : List Nat) (ls : Array Bool) (x : Nat), x ∈ l → (Go.Mem.setAll l ls).getD x true = true
  | i :: l, ls, x, h => by
    rcases List.mem_cons.1 h with rfl | h
    · refine setAll_true l _ x ?_
      rcases Nat.lt_or_ge x ls.size with h' | h'
      · simp [h']
      · simp [Array.getElem?_eq_none h']
    · exact setAll_mem l _ x h
/-- operations that have one value in every world that meets S may come first in the head -/
theorem headW_qs {m n k : Nat} {L : Array Bool → Act → World → Prop} {w : World} (hsel : Region.noSelect ops = true) (hs : sinkFrom md ops m n = true) (hc : Region.chainB md ops n = true) (hn : n < ops.size)
    (hQ : ∀ c a a' w, Q (.panic c) a' w → Q (.panic c) a w) (hend : ∀ ls a w, L ls a w → ∀ j ∈ Region.ready md ops ls, n ≤ j) (hS : S w) (qs : List Nat) :
    ∀ (ls : Array Bool) (a : Act), HeadInv md ops n ls → (∀ i < m, ls.getD i true = true) → lexIs md ops qs ls = true → (∀ i ∈ qs, i < n) →
      wpQuiet P ops S (fun a' => headW P md ops Q S n L k (setAll qs ls) a' w) (pick ops qs) a → headW P md ops Q S n L (qs.length + k) ls a w := by
  induction qs with
  | nil => intro ls a _ _ _ _ h; rw [List.length_nil, Nat.zero_add]; exact h
  | cons i l ih =>
    intro ls a inv hm hB hl h
    simp only [lexIs, Bool.and_eq_true] at hB
    obtain ⟨⟨⟨hr, hf⟩, hp⟩, hB⟩ := hB
    cases ho : ops[i]? with
    | none => rw [ho] at hp; cases hp
    | some o =>
      rw [ho] at hp
      have e : pick ops (i :: l) = o :: pick ops l := by simp [pick, ho]
      rw [e] at h
      have hq : qOp P ops S i (wpQuiet P ops S (fun a' => headW P md ops Q S n L k (Go.Mem.setAll (i :: l) ls) a' w) (pick ops l)) a := by unfold qOp; simp only [ho]; exact h
      obtain ⟨v, hy, hk⟩ := yieldsIf_of_qOp ho hp hq
      have e2 : (i :: l).length + k = (l.length + k) + 1 := by simp only [List.length_cons]; omega
      have hr' : i ∈ Region.ready md ops ls := by simpa using hr
      have hin := hl i (List.mem_cons_self ..)
      rw [e2]
      refine headW_first ho (Region.noSelect_spec hsel) hs hc hn hin hQ hend _ ls a w inv hm (Region.free_spec ho hf) hr' hy hS ?_
      refine ih _ _ (inv.set hr' hin) (fun x hx => ?_) hB (fun j hj => hl j (List.mem_cons_of_mem _ hj)) hk
      exact setAll_true [i] ls x (hm x hx)
/-- what the numbers of a region must be -/
def headWB (ops : Array Oper) (m n k : Nat) (qs : List Nat) : Bool :=
  let l0 := Array.replicate ops.size false
  let l1 := setAll (List.range m) l0
  Region.noSelect ops && decide (n < ops.size) && decide (m + (qs.length + k) = n) && sinkFrom .any ops m n && Region.chainB .any ops n && lexIs .any ops (List.range m) l0 && lexIs .any ops qs l1 && qs.all (fun i => decide (i < n)) &&
    decide (m ≤ n)
/-- the law -/
theorem wp_head_tail {id : Nat} {a : Act} {w : World} {l : List Oper} (m n k : Nat) (qs : List Nat) (S : World → Prop) (Fin : Act → World → Prop) (hm : P.follows .mixedOrders = true) (hB : headWB l.toArray m n k qs = true) (hS : S w.drew)
    (h1 : wpQuiet P l.toArray (fun _ => True) (fun a1 => wpQuiet P l.toArray S (fun a2 => headW P .any l.toArray (NoPanic Q) S n
        (fun ls a' w' => Region.seqB .any l.toArray (l.toArray.size - n) n ls = true ∧ Fin a' w') k (setAll qs (setAll (List.range m) (Array.replicate l.toArray.size false))) a2 w.drew) (pick l.toArray qs) a1) (pick l.toArray (List.range m)) a)
    (h2 : ∀ a' w', Fin a' w' → wpList P l.toArray (NoPanic Q) (l.drop n) a' w') : (Code.region id l.toArray true).wp P Q a w := by
  simp only [headWB, Bool.and_eq_true, decide_eq_true_eq] at hB
  obtain ⟨⟨⟨⟨⟨⟨⟨⟨hsel, hn⟩, hmk⟩, hs⟩, hc⟩, hpre⟩, hqs⟩, hqn⟩, hmn⟩ := hB
  have hQ : ∀ c a a' w, NoPanic Q (.panic c) a' w → NoPanic Q (.panic c) a w := fun _ _ _ _ h => (h : False).elim
  have inv0 : HeadInv .any l.toArray n (Array.replicate l.toArray.size false) :=
    ⟨by simp, fun j oj _ hl => (by rw [getD_replicate_false] at hl; cases hl), fun t _ ht => getD_in (by simpa using ht) (getD_replicate_false _ _)⟩
  have inv1 := HeadInv.setAll (List.range m) _ inv0 hpre fun i hi => by have := List.mem_range.1 hi; omega
  refine wp_region_noPanic (wp_region_any hm ?_)
  have hdl : (l.drop n).length = l.toArray.size - n := by simp
  have hsz : l.toArray.size = (List.range m).length + ((qs.length + k) + (l.toArray.size - n)) := by rw [List.length_range]; omega
  have hfu : wpAny P .any l.toArray (NoPanic Q) ((List.range m).length + ((qs.length + k) + (l.toArray.size - n))) (Array.replicate l.toArray.size false) a w.drew := by
    refine wpAny_pre hsel hQ (List.range m) _ _ hpre ?_
    refine wpQuiet_mono' (fun a1 h3 => ?_) h1
    refine headW_sound (n := n) (S := S) (fun ls a' w' hL => ?_) (qs.length + k) _ a1 w.drew ?_ (L := fun ls a' w' => Region.seqB .any l.toArray (l.toArray.size - n) n ls = true ∧ Fin a' w')
    · have := wpAny_of_seq (P := P) (md := .any) (Q' := NoPanic Q) (l.drop n) n ls a' w' (fun j => by simp [List.getElem?_drop]) (by rw [hdl]; exact hL.1) (h2 a' w' hL.2)
      rwa [hdl] at this
    · exact headW_qs hsel hs hc hn hQ (fun ls a w hL => seqB_ready hL.1) hS qs _ a1 inv1 (fun i hi => setAll_mem _ _ i (List.mem_range.2 hi)) hqs (fun i hi => by simpa using List.all_eq_true.1 hqn i hi) h3
  rw [← hsz] at hfu
  exact hfu
/-- whichever comes up -/
theorem headW_all {n k : Nat} {L : Array Bool → Act → World → Prop} {rs : List Nat} {ls : Array Bool} {a : Act} {w : World} (hr : Region.ready md ops ls = rs) (hne : rs ≠ []) (hn : rs.all (fun i => decide (i < n)) = true)
    (h : ∀ i ∈ rs, wpOp P ops Q i (fun a' w' => S w' ∧ headW P md ops Q S n L k (ls.setIfInBounds i true) a' w') a w) : headW P md ops Q S n L (k + 1) ls a w :=
  ⟨fun h0 => hne (hr ▸ h0), fun i hi => ⟨by have := List.all_eq_true.1 hn i (hr ▸ hi); simpa using this, h i (hr ▸ hi)⟩⟩
/-- one operation, walked like a list of one -/
theorem wpOp_list {i : Nat} {o : Oper} {K : Act → World → Prop} {a : Act} {w : World} (ho : ops[i]? = some o) (h : ∀ Q' : Exit → Act → World → Prop, (∀ a w, K a w → Q' .normal a w) → wpList P ops Q' [o] a w) : wpOp P ops Q i K a w := by
  have h1 := h (fun e a w => match e with | .normal => K a w | _ => False) (fun _ _ h => h)
  unfold wpOp
  simp only [ho]
  simp only [wpList] at h1
  split
  · rename_i hw
    rw [if_pos hw] at h1
    rcases h1 with h1 | ⟨_, h1⟩
    · refine .inl ?_
      unfold Oper.wp at *
      generalize (execOp a.eval o).run P w = r at *
      cases r with
      | ok n w' =>
        cases n <;> simp only [Oper.upon] at h1 ⊢ <;>
          first
            | exact h1
            | exact Calls.mono h1 (fun e w'' he => by cases e <;> first | exact he | exact False.elim he | exact (let ⟨_, _, h⟩ := he; False.elim h))
            | exact Rows.mono h1 (fun _ _ he => he)
      | halt x w' => cases x <;> simp only [Oper.upon] at h1 ⊢
    · obtain ⟨_, _, h1⟩ := h1
      exact h1.elim
  · rename_i hw; rw [if_neg hw] at h1; exact h1
/-- the law, with what follows in the place of its predicate -/
theorem wp_head_tail' {id : Nat} {a : Act} {w : World} {l : List Oper} (m n k : Nat) (pre qs : List Nat) (hpre : List.range m = pre) (K : World → Prop) (hm : P.follows .mixedOrders = true) (hB : headWB l.toArray m n k qs = true) (hK : K w.drew)
    (h1 : wpQuiet P l.toArray (fun _ => True) (fun a1 => wpQuiet P l.toArray (fun w' => ∃ y : Wd K, w' = y.w) (fun a2 => headW P .any l.toArray (NoPanic Q) K n
        (fun ls a' w' => Region.seqB .any l.toArray (l.toArray.size - n) n ls = true ∧ wpList P l.toArray (NoPanic Q) (l.drop n) a' w') k (setAll qs (setAll pre (Array.replicate l.toArray.size false))) a2 w.drew) (pick l.toArray qs) a1) (pick l.toArray pre) a) :
    (Code.region id l.toArray true).wp P Q a w := by
  subst hpre
  have e : (fun w' => ∃ y : Wd K, w' = y.w) = K := by
    funext w'
    exact propext ⟨fun ⟨y, hy⟩ => hy ▸ y.h, fun h => ⟨⟨w', h⟩, rfl⟩⟩
  rw [e] at h1
  exact wp_head_tail m n k qs K (fun a' w' => wpList P l.toArray (NoPanic Q) (l.drop n) a' w') hm hB hK h1 (fun _ _ h => h)
theorem headW_mono {n : Nat} {L L' : Array Bool → Act → World → Prop} (hL : ∀ ls a w, L ls a w → L' ls a w) (k : Nat) :
    ∀ (ls : Array Bool) (a : Act) (w : World), headW P md ops Q S n L k ls a w → headW P md ops Q S n L' k ls a w := by
  induction k with
  | zero => exact hL
  | succ k ih => exact fun ls a w h => ⟨h.1, fun i hi => ⟨(h.2 i hi).1, wpOp_mono (fun a' w' h' => ⟨h'.1, ih _ a' w' h'.2⟩) (h.2 i hi).2⟩⟩
/-- the law, with a predicate between the loud operations and the tail -/
theorem wp_head_tail3 {id : Nat} {a : Act} {w : World} {l : List Oper} (m n k : Nat) (pre qs : List Nat) (hpre : List.range m = pre) (K : World → Prop) (Fin : Act → Act → World → Prop) (hm : P.follows .mixedOrders = true) (hB : headWB l.toArray m n k qs = true) (hK : K w.drew)
    (h1 : wpQuiet P l.toArray (fun _ => True) (fun a1 => wpQuiet P l.toArray (fun w' => ∃ y : Wd K, w' = y.w) (fun a2 => headW P .any l.toArray (NoPanic Q) K n
        (fun ls a' w' => Region.seqB .any l.toArray (l.toArray.size - n) n ls = true ∧ Fin a2 a' w') k (setAll qs (setAll pre (Array.replicate l.toArray.size false))) a2 w.drew ∧
        ∀ a' w', Fin a2 a' w' → wpList P l.toArray (NoPanic Q) (l.drop n) a' w') (pick l.toArray qs) a1) (pick l.toArray pre) a) :
    (Code.region id l.toArray true).wp P Q a w :=
  wp_head_tail' m n k pre qs hpre K hm hB hK (wpQuiet_mono' (fun _ h => wpQuiet_mono' (fun _ h' => headW_mono (fun _ _ _ hl => ⟨hl.1, h'.2 _ _ hl.2⟩) _ _ _ _ h'.1) h) h1)
end Go.Mem
/- TopAdjusted: what the law says, in plain numbers. -/
namespace Go.Adj
/-- a hole, an entry, as they lie in memory -/
structure HI where
  par : Int
  idx : Int
structure EI where
  s : Int
  m : ByteArray
def HI.cells (x : HI) : List Value := [.int .i64 x.par, .int .i64 x.idx]
def EI.cells (x : EI) : List Value := [.int .i64 x.s, .string x.m]
def bx : ByteArray := ⟨#[120]⟩
def bc : ByteArray := ⟨#[99]⟩
def bd : ByteArray := ⟨#[45]⟩
def be : ByteArray := ⟨#[]⟩
instance : Inhabited HI := ⟨⟨0, 0⟩⟩
instance : Inhabited EI := ⟨⟨0, be⟩⟩
def hAt (hs : List HI) (i : Nat) : HI := hs.getD i default
def eAt (es : List EI) (i : Nat) : EI := es.getD i default
theorem hAt_eq {hs : List HI} {i : Nat} {x : HI} (h : hs[i]? = some x) : hAt hs i = x := by unfold hAt; simp [List.getD, h]
theorem eAt_eq {hs : List EI} {i : Nat} {x : EI} (h : hs[i]? = some x) : eAt hs i = x := by unfold eAt; simp [List.getD, h]
/-- holes without an error -/
structure GoodH (hs : List HI) : Prop where
  len : 1 ≤ hs.length ∧ hs.length ≤ 36
  par : ∀ i, i < hs.length → 3 ≤ (hAt hs i).par ∧ (hAt hs i).par ≤ 6
  idx : ∀ i, i < hs.length → 1 ≤ (hAt hs i).idx ∧ (hAt hs i).idx ≤ hs.length
  two : ∀ i k, i < hs.length → k < i → (hAt hs k).idx ≠ (hAt hs i).idx
/-- an entry without an error -/
def GoodE (x : EI) : Prop := ((x.m = be ∨ x.m = bc) ∧ 1 ≤ x.s ∧ x.s ≤ 99) ∨ ((x.m = bx ∨ x.m = bd) ∧ x.s = 0)
/-- an entry that is not '-' -/
def PlayE (x : EI) : Prop := ((x.m = be ∨ x.m = bc) ∧ 1 ≤ x.s ∧ x.s ≤ 99) ∨ (x.m = bx ∧ x.s = 0)
def sumTo (f : Nat → Int) : Nat → Int
  | 0 => 0
  | k + 1 => sumTo f k + f k
theorem sumTo_add (f g : Nat → Int) : ∀ n, sumTo (fun i => f i + g i) n = sumTo f n + sumTo g n
  | 0 => rfl
  | n + 1 => by simp only [sumTo, sumTo_add f g n]; omega
theorem sumTo_sub (f g : Nat → Int) : ∀ n, sumTo (fun i => f i - g i) n = sumTo f n - sumTo g n
  | 0 => rfl
  | n + 1 => by simp only [sumTo, sumTo_sub f g n]; omega
theorem sumTo_const (c : Int) : ∀ n : Nat, sumTo (fun _ => c) n = c * n
  | 0 => by simp [sumTo]
  | n + 1 => by simp only [sumTo, sumTo_const c n]; rw [Int.natCast_succ, Int.mul_add]; omega
theorem sumTo_congr {f g : Nat → Int} : ∀ {n : Nat}, (∀ i, i < n → f i = g i) → sumTo f n = sumTo g n
  | 0, _ => rfl
  | n + 1, h => by simp only [sumTo]; rw [sumTo_congr (fun i hi => h i (by omega)), h n (by omega)]
theorem sumTo_le {f g : Nat → Int} : ∀ {n : Nat}, (∀ i, i < n → f i ≤ g i) → sumTo f n ≤ sumTo g n
  | 0, _ => Int.le_refl _
  | n + 1, h => by simp only [sumTo]; have := sumTo_le (n := n) (fun i hi => h i (by omega)); have := h n (by omega); omega
theorem sumTo_bd {f : Nat → Int} {a b : Int} : ∀ {n : Nat}, (∀ i, i < n → a ≤ f i ∧ f i ≤ b) → a * n ≤ sumTo f n ∧ sumTo f n ≤ b * n
  | 0, _ => by simp [sumTo]
  | n + 1, h => by
    have h1 := sumTo_bd (n := n) (fun i hi => h i (by omega))
    have h2 := h n (by omega)
    simp only [sumTo]
    rw [Int.natCast_succ, Int.mul_add, Int.mul_add]
    omega
theorem sumTo_eq_of_le {f g : Nat → Int} : ∀ {n : Nat}, (∀ i, i < n → f i ≤ g i) → sumTo f n = sumTo g n → ∀ i, i < n → f i = g i
  | 0, _, _ => fun i hi => absurd hi (by omega)
  | n + 1, h, e => fun i hi => by
    simp only [sumTo] at e
    have h1 := sumTo_le (n := n) (fun i hi => h i (by omega))
    have h2 := h n (by omega)
    have e1 : sumTo f n = sumTo g n := by omega
    by_cases hin : i = n
    · subst hin; omega
    · exact sumTo_eq_of_le (n := n) (fun i hi => h i (by omega)) e1 i (by omega)
/-- how many indexes are at most r -/
def cnt (hs : List HI) (r : Int) (n : Nat) : Int := sumTo (fun i => if (hAt hs i).idx ≤ r then 1 else 0) n
def eqs (hs : List HI) (r : Int) (n : Nat) : Int := sumTo (fun i => if (hAt hs i).idx = r then 1 else 0) n
theorem cnt_succ (hs : List HI) (r : Int) (n : Nat) : cnt hs (r + 1) n = cnt hs r n + eqs hs (r + 1) n := by
  unfold cnt eqs
  rw [← sumTo_add]
  refine sumTo_congr fun i _ => ?_
  split <;> split <;> split <;> omega
theorem eqs_zero (hs : List HI) (r : Int) : ∀ {n : Nat}, (∀ i, i < n → (hAt hs i).idx ≠ r) → eqs hs r n = 0
  | 0, _ => rfl
  | n + 1, h => by
    show eqs hs r n + (if (hAt hs n).idx = r then 1 else 0) = 0
    rw [eqs_zero hs r fun i hi => h i (by omega), if_neg (h n (by omega))]; rfl
theorem eqs_le (hs : List HI) (r : Int) : ∀ {n : Nat}, (∀ i k, i < n → k < i → (hAt hs k).idx ≠ (hAt hs i).idx) → 0 ≤ eqs hs r n ∧ eqs hs r n ≤ 1
  | 0, _ => by simp [eqs, sumTo]
  | n + 1, h => by
    show 0 ≤ eqs hs r n + (if (hAt hs n).idx = r then 1 else 0) ∧ eqs hs r n + (if (hAt hs n).idx = r then 1 else 0) ≤ 1
    have ih := eqs_le hs r (n := n) (fun i k hi hk => h i k (by omega) hk)
    by_cases e : (hAt hs n).idx = r
    · have hz : eqs hs r n = 0 := eqs_zero hs r fun i hi => by rw [← e]; exact h n i (by omega) hi
      rw [hz, if_pos e]; omega
    · rw [if_neg e]; omega
theorem cnt_eq {hs : List HI} (h : GoodH hs) : ∀ r : Nat, r ≤ hs.length → cnt hs r hs.length = r := by
  have hstep : ∀ r : Int, cnt hs r hs.length ≤ cnt hs (r + 1) hs.length ∧ cnt hs (r + 1) hs.length ≤ cnt hs r hs.length + 1 := fun r => by
    rw [cnt_succ]
    have := eqs_le hs (r + 1) h.two
    omega
  have h0 : cnt hs 0 hs.length = 0 := by
    unfold cnt
    rw [sumTo_congr (g := fun _ => 0) fun i hi => if_neg (by have := h.idx i hi; omega), sumTo_const]; omega
  have hn : cnt hs hs.length hs.length = hs.length := by
    unfold cnt
    rw [sumTo_congr (g := fun _ => 1) fun i hi => if_pos (by have := h.idx i hi; omega), sumTo_const]; omega
  have hup : ∀ r : Nat, cnt hs r hs.length ≤ r := by
    intro r
    induction r with
    | zero => rw [Int.natCast_zero, h0]; exact Int.le_refl _
    | succ r ih => have := hstep r; rw [Int.natCast_succ]; omega
  have hdn : ∀ d : Nat, d ≤ hs.length → ((hs.length - d : Nat) : Int) ≤ cnt hs ((hs.length - d : Nat) : Int) hs.length := by
    intro d
    induction d with
    | zero => intro _; rw [Nat.sub_zero, hn]; exact Int.le_refl _
    | succ d ih =>
      intro hd
      have h1 := ih (by omega)
      have h2 := hstep ((hs.length - (d + 1) : Nat) : Int)
      have e : (((hs.length - (d + 1) : Nat) : Int) + 1) = ((hs.length - d : Nat) : Int) := by omega
      rw [e] at h2
      omega
  intro r hr
  have h1 := hup r
  have h2 := hdn (hs.length - r) (by omega)
  rw [show hs.length - (hs.length - r) = r by omega] at h2
  omega
/-- rounded down, as the program does it -/
def floorF (a b : Int) : Int := if a.tmod b < 0 then a.tdiv b - 1 else a.tdiv b
def qF (hs : List HI) (c : Int) : Int := floorF c hs.length
def restF (hs : List HI) (c : Int) : Int := c - qF hs c * hs.length
def givF (hs : List HI) (c : Int) (i : Nat) : Int := if (hAt hs i).idx ≤ restF hs c then qF hs c + 1 else qF hs c
theorem rest_bd {hs : List HI} (h : 1 ≤ hs.length) (c : Int) : 0 ≤ restF hs c ∧ restF hs c < hs.length := by
  unfold restF qF floorF
  have e := Int.mul_tdiv_add_tmod c hs.length
  have hn : (0 : Int) < hs.length := by omega
  have hlt := Int.tmod_lt_of_pos c hn
  have hgt : -(hs.length : Int) < c.tmod hs.length := by
    by_cases hc : 0 ≤ c
    · have := Int.tmod_nonneg (hs.length : Int) hc; omega
    · have := Int.tmod_lt_of_pos (-c) hn
      rw [Int.neg_tmod] at this; omega
  rw [Int.mul_comm] at e
  split
  · rw [Int.sub_mul]; omega
  · omega
theorem q_bd {hs : List HI} (h : 1 ≤ hs.length ∧ hs.length ≤ 36) {c : Int} (hc : -99 ≤ c ∧ c ≤ 99) : -100 ≤ qF hs c ∧ qF hs c ≤ 99 := by
  have h1 := rest_bd h.1 c
  have e : restF hs c = c - qF hs c * hs.length := rfl
  have hn : (1 : Int) ≤ hs.length := by omega
  have hn2 : (hs.length : Int) ≤ 36 := by omega
  generalize qF hs c = q at *
  generalize (hs.length : Int) = n at *
  constructor
  · apply Int.not_lt.1
    intro hq
    have : q * n ≤ -101 * n := Int.mul_le_mul_of_nonneg_right (by omega) (by omega)
    omega
  · apply Int.not_lt.1
    intro hq
    have : 100 * n ≤ q * n := Int.mul_le_mul_of_nonneg_right (by omega) (by omega)
    omega
theorem giv_bd {hs : List HI} (h : 1 ≤ hs.length ∧ hs.length ≤ 36) {c : Int} (hc : -99 ≤ c ∧ c ≤ 99) (i : Nat) : -100 ≤ givF hs c i ∧ givF hs c i ≤ 100 := by
  have := q_bd h hc
  unfold givF
  split <;> omega
theorem giv_sum {hs : List HI} (h : GoodH hs) (c : Int) : sumTo (givF hs c) hs.length = c := by
  have hr := rest_bd h.len.1 c
  have hc := cnt_eq h (restF hs c).toNat (by omega)
  rw [Int.toNat_of_nonneg hr.1] at hc
  have e : sumTo (givF hs c) hs.length = qF hs c * hs.length + cnt hs (restF hs c) hs.length := by
    unfold cnt
    rw [← sumTo_const, ← sumTo_add]
    refine sumTo_congr fun i _ => ?_
    unfold givF
    split <;> omega
  rw [e, hc]
  unfold restF
  omega
def limF (hs : List HI) (c : Int) (i : Nat) : Int := (hAt hs i).par + 2 + givF hs c i
def adjF (hs : List HI) (es : List EI) (c : Int) (i : Nat) : Int := if (eAt es i).m = bx then limF hs c i else min (eAt es i).s (limF hs c i)
def ptsF (hs : List HI) (es : List EI) (c : Int) (i : Nat) : Int := if (eAt es i).m = bx then 0 else max 0 (2 + (hAt hs i).par - ((eAt es i).s - givF hs c i))
theorem adj_pts (hs : List HI) (es : List EI) (c : Int) (h : GoodH hs) : sumTo (adjF hs es c) hs.length + sumTo (ptsF hs es c) hs.length = sumTo (fun i => (hAt hs i).par) hs.length + 2 * hs.length + c := by
  rw [← sumTo_add, ← sumTo_const, ← sumTo_add]
  conv => rhs; rhs; rw [← giv_sum h c]
  rw [← sumTo_add]
  refine sumTo_congr fun i _ => ?_
  unfold adjF ptsF limF
  split <;> omega
theorem net_sum (hs : List HI) (es : List EI) (c : Int) (h : GoodH hs) : sumTo (fun i => (eAt es i).s - givF hs c i) hs.length = sumTo (fun i => (eAt es i).s) hs.length - c := by
  rw [sumTo_sub, giv_sum h]
theorem adj_le (hs : List HI) (es : List EI) (c : Int) (n : Nat) (hx : ∀ i, i < n → (eAt es i).m ≠ bx) : sumTo (adjF hs es c) n ≤ sumTo (fun i => (eAt es i).s) n :=
  sumTo_le fun i hi => by unfold adjF; rw [if_neg (hx i hi)]; omega
/-- a hole is worse than two above its net par -/
def worseF (hs : List HI) (es : List EI) (c : Int) : Nat → Bool
  | 0 => false
  | k + 1 => worseF hs es c k || decide ((hAt hs k).par + 2 < (eAt es k).s - givF hs c k)
theorem worse_iff (hs : List HI) (es : List EI) (c : Int) : ∀ n, worseF hs es c n = true ↔ ∃ i, i < n ∧ (hAt hs i).par + 2 < (eAt es i).s - givF hs c i
  | 0 => by simp [worseF]
  | n + 1 => by
    rw [worseF, Bool.or_eq_true, worse_iff hs es c n, decide_eq_true_iff]
    constructor
    · rintro (⟨i, h1, h2⟩ | h)
      · exact ⟨i, by omega, h2⟩
      · exact ⟨n, by omega, h⟩
    · rintro ⟨i, h1, h2⟩
      by_cases e : i = n
      · subst e; exact .inr h2
      · exact .inl ⟨i, by omega, h2⟩
theorem adj_eq_iff (hs : List HI) (es : List EI) (c : Int) (n : Nat) (hx : ∀ i, i < n → (eAt es i).m ≠ bx) : (sumTo (adjF hs es c) n = sumTo (fun i => (eAt es i).s) n) ↔ worseF hs es c n = false := by
  constructor
  · intro e
    rw [Bool.eq_false_iff]
    intro hw
    obtain ⟨i, hi, h⟩ := (worse_iff hs es c n).1 hw
    have := sumTo_eq_of_le (fun i hi => by unfold adjF; rw [if_neg (hx i hi)]; omega) e i hi
    unfold adjF limF at this
    rw [if_neg (hx i hi)] at this
    omega
  · intro hw
    refine sumTo_congr fun i hi => ?_
    have : ¬ ((hAt hs i).par + 2 < (eAt es i).s - givF hs c i) := fun h => by
      have := (worse_iff hs es c n).2 ⟨i, hi, h⟩
      rw [hw] at this; cases this
    unfold adjF limF
    rw [if_neg (hx i hi)]
    omega
theorem tmod_bd (a b : Int) (ha : -1000 ≤ a ∧ a ≤ 1000) (hb : 1 ≤ b ∧ b ≤ 1000) : -1000 ≤ a.tmod b ∧ a.tmod b ≤ 1000 := by
  have hn : 0 < b := by omega
  have hlt := Int.tmod_lt_of_pos a hn
  by_cases hc : 0 ≤ a
  · have := Int.tmod_nonneg b hc; omega
  · have := Int.tmod_lt_of_pos (-a) hn
    rw [Int.neg_tmod] at this; omega
theorem tdiv_bd (a b : Int) (ha : -1000 ≤ a ∧ a ≤ 1000) (hb : 1 ≤ b ∧ b ≤ 1000) : -2000 ≤ a.tdiv b ∧ a.tdiv b ≤ 2000 := by
  have e := Int.mul_tdiv_add_tmod a b
  have hm := tmod_bd a b ha hb
  generalize a.tdiv b = q at *
  constructor
  · apply Int.not_lt.1
    intro hq
    have : b * q ≤ b * (-2001) := Int.mul_le_mul_of_nonneg_left (by omega) (by omega)
    omega
  · apply Int.not_lt.1
    intro hq
    have : b * 2001 ≤ b * q := Int.mul_le_mul_of_nonneg_left (by omega) (by omega)
    omega
end Go.Adj
/- Chapter 5: the small functions of card, format, handicap. -/
namespace Go.Proofs.YtkkkfjinflepmaaGreatDoor
open Go.RowKit Go.Mem Go.Sheet Go.Adj
theorem eltI : Elt Tryz.prog 43 3 (.int .i64 0) 1 8 := ⟨Tryz.underlying43, by kernel_rfl, rfl, by decide⟩
theorem ret_i64 {a b : Int} (h : a = b) : Ending.returned (.int .i64 a) = .returned (.int .i64 b) := by rw [h]
theorem ret_bool {a b : Bool} (h : a = b) : Ending.returned (.bool a) = .returned (.bool b) := by rw [h]
def intsI (l : List Int) : List Value := l.map (Value.int .i64)
theorem cardWhen_any (b : Bool) (e : Int) (w : World) : Calls Tryz.prog 42 #[.bool b, .int .i64 e] w fun r w' => r = .returned (.int .i64 (whenE b e)) ∧ w = w' := by
  go_enter Tryz.func42, Tryz.ntmps42
  cases b
  all_goals
    go_wp2
    go_ret
    exact ⟨rfl, rfl⟩
set_option maxHeartbeats 400000 in
theorem cardFirst_any (w : World) (F : Nat → Prop) (v : Value) (n : Nat) (es : List Int) (h : Rd w F 1 v n (es.map (Value.int .i64))) :
    Calls Tryz.prog 41 #[v] w fun r w' => r = .returned (.int .i64 (fst es)) ∧ w = w' := by
  have HL := Lib.hid h.count1
  have hn := h.le
  obtain ⟨A, c, rfl, _, _, h⟩ := h.open_
  go_enter Tryz.func41, Tryz.ntmps41
  go_wp2
  go_loop [7] (fun i => ∃ k : Nat, k ≤ n ∧ i = .int .i64 k ∧ Hid (fst (es.drop k) = fst es)) (fun i => n - (intOf i).toNat)
  case atStart => exact ⟨0, Nat.zero_le _, rfl, rfl⟩
  case round =>
    obtain ⟨k, hk, rfl, he⟩ := hrel
    by_cases hlt : k < n
    · obtain ⟨b, o, x, rfl, hx, hc⟩ := h.int hlt
      have HX := Lib.hid hx
      clear hx
      go_wp2
      · go_ret
        exact ⟨ret_i64 (fst_stop HX.out (by simpa using ‹(x != 0) = true›) he.out), rfl⟩
      · go_round
        case rel => exact ⟨k + 1, by omega, by go_num, fst_go HX.out (by simpa using ‹(x != 0) = false›) he.out⟩
        case measure => simp [intOf]; omega
    · go_wp2
      go_ret
      obtain rfl : k = n := by omega
      exact ⟨ret_i64 (fst_end (Nat.le_of_eq HL.out.symm) he.out).symm, rfl⟩
theorem cardFirst2 (w : World) (g : Nat) (a b : Int) (hg : g < w.heap.size) (h0 : w.cell? ⟨g, 0, none⟩ = some (.int .i64 a)) (h1 : w.cell? ⟨g, 1, none⟩ = some (.int .i64 b)) :
    Calls Tryz.prog 41 #[.slice (some ⟨g, 0, none⟩) 2 2] w fun r w' => r = .returned (.int .i64 (fst [a, b])) ∧ w = w' :=
  cardFirst_any w (fun _ => True) _ 2 [a, b] (rd_cells hg (by simp) fun j u hu => by
    match j, hu with
    | 0, hu => cases hu; exact h0
    | 1, hu => cases hu; exact h1)
theorem formatWhen_any (b : Bool) (e : Int) (w : World) : Calls Tryz.prog 62 #[.bool b, .int .i64 e] w fun r w' => r = .returned (.int .i64 (whenE b e)) ∧ w = w' := by
  go_enter Tryz.func62, Tryz.ntmps62
  cases b
  all_goals
    go_wp2
    go_ret
    exact ⟨rfl, rfl⟩
set_option maxHeartbeats 400000 in
theorem formatFirst_any (w : World) (F : Nat → Prop) (v : Value) (n : Nat) (es : List Int) (h : Rd w F 1 v n (es.map (Value.int .i64))) :
    Calls Tryz.prog 61 #[v] w fun r w' => r = .returned (.int .i64 (fst es)) ∧ w = w' := by
  have HL := Lib.hid h.count1
  have hn := h.le
  obtain ⟨A, c, rfl, _, _, h⟩ := h.open_
  go_enter Tryz.func61, Tryz.ntmps61
  go_wp2
  go_loop [7] (fun i => ∃ k : Nat, k ≤ n ∧ i = .int .i64 k ∧ Hid (fst (es.drop k) = fst es)) (fun i => n - (intOf i).toNat)
  case atStart => exact ⟨0, Nat.zero_le _, rfl, rfl⟩
  case round =>
    obtain ⟨k, hk, rfl, he⟩ := hrel
    by_cases hlt : k < n
    · obtain ⟨b, o, x, rfl, hx, hc⟩ := h.int hlt
      have HX := Lib.hid hx
      clear hx
      go_wp2
      · go_ret
        exact ⟨ret_i64 (fst_stop HX.out (by simpa using ‹(x != 0) = true›) he.out), rfl⟩
      · go_round
        case rel => exact ⟨k + 1, by omega, by go_num, fst_go HX.out (by simpa using ‹(x != 0) = false›) he.out⟩
        case measure => simp [intOf]; omega
    · go_wp2
      go_ret
      obtain rfl : k = n := by omega
      exact ⟨ret_i64 (fst_end (Nat.le_of_eq HL.out.symm) he.out).symm, rfl⟩
theorem formatFirst2 (w : World) (g : Nat) (a b : Int) (hg : g < w.heap.size) (h0 : w.cell? ⟨g, 0, none⟩ = some (.int .i64 a)) (h1 : w.cell? ⟨g, 1, none⟩ = some (.int .i64 b)) :
    Calls Tryz.prog 61 #[.slice (some ⟨g, 0, none⟩) 2 2] w fun r w' => r = .returned (.int .i64 (fst [a, b])) ∧ w = w' :=
  formatFirst_any w (fun _ => True) _ 2 [a, b] (rd_cells hg (by simp) fun j u hu => by
    match j, hu with
    | 0, hu => cases hu; exact h0
    | 1, hu => cases hu; exact h1)
theorem cardFirst4 (w : World) (g : Nat) (a b c d : Int) (hg : g < w.heap.size) (h0 : w.cell? ⟨g, 0, none⟩ = some (.int .i64 a)) (h1 : w.cell? ⟨g, 1, none⟩ = some (.int .i64 b)) (h2 : w.cell? ⟨g, 2, none⟩ = some (.int .i64 c)) (h3 : w.cell? ⟨g, 3, none⟩ = some (.int .i64 d)) :
    Calls Tryz.prog 41 #[.slice (some ⟨g, 0, none⟩) 4 4] w fun r w' => r = .returned (.int .i64 (fst [a, b, c, d])) ∧ w = w' :=
  cardFirst_any w (fun _ => True) _ 4 [a, b, c, d] (rd_cells hg (by simp) fun j u hu => by
    match j, hu with
    | 0, hu => cases hu; exact h0
    | 1, hu => cases hu; exact h1
    | 2, hu => cases hu; exact h2
    | 3, hu => cases hu; exact h3)
theorem outside_no (n : Int) (w : World) (h : -99 ≤ n ∧ n ≤ 99) : Calls Tryz.prog 100 #[.int .i64 n, .int .i64 99] w fun r w' => r = .returned (.bool false) ∧ w = w' := by
  have h1 : decide (n < -99) = false := by simp; omega
  have h2 : decide (99 < n) = false := by simp; omega
  go_enter Tryz.func100, Tryz.ntmps100
  go_wp2
  go_ret
  exact ⟨rfl, rfl⟩
theorem played_ok (n : Int) (w : World) (h : 1 ≤ n ∧ n ≤ 99) : Calls Tryz.prog 167 #[.int .i64 n] w fun r w' => r = .returned (.bool true) ∧ w = w' := by
  have h1 : decide (1 ≤ n) = true := by simp; omega
  have h2 : decide (n ≤ 99) = true := by simp; omega
  go_enter Tryz.func167, Tryz.ntmps167
  go_wp2
  go_ret
  exact ⟨rfl, rfl⟩
theorem none_ok (w : World) : Calls Tryz.prog 168 #[.int .i64 0] w fun r w' => r = .returned (.bool true) ∧ w = w' := by
  go_enter Tryz.func168, Tryz.ntmps168
  go_wp2
  go_ret
  exact ⟨rfl, rfl⟩
theorem floor_any (a b : Int) (w : World) (ha : -1000 ≤ a ∧ a ≤ 1000) (hb : 1 ≤ b ∧ b ≤ 1000) : Calls Tryz.prog 138 #[.int .i64 a, .int .i64 b] w fun r w' => r = .returned (.int .i64 (floorF a b)) ∧ w = w' := by
  have hq := tdiv_bd a b ha hb
  have hr := tmod_bd a b ha hb
  by_cases h0 : a.tmod b < 0
  · have e : floorF a b = a.tdiv b - 1 := by unfold floorF; rw [if_pos h0]
    rw [e]
    go_enter Tryz.func138, Tryz.ntmps138
    go_wp2
    go_ret
    exact ⟨rfl, rfl⟩
  · have e : floorF a b = a.tdiv b := by unfold floorF; rw [if_neg h0]
    rw [e]
    go_enter Tryz.func138, Tryz.ntmps138
    go_wp2
    go_ret
    exact ⟨rfl, rfl⟩
/-- net strokes of a hole, as they lie in memory: strokes, or picked up -/
inductive MK where
  | o
  | x
  | d
  deriving DecidableEq
structure NI where
  s : Int
  x : MK
instance : Inhabited NI := ⟨⟨0, .o⟩⟩
def mkN : MK → ByteArray
  | .o => ⟨#[]⟩
  | .x => ⟨#[120]⟩
  | .d => ⟨#[45]⟩
def isO : MK → Bool
  | .o => true
  | _ => false
def NI.cells (x : NI) : List Value := [.int .i64 x.s, .string (mkN x.x)]
def NI.val (x : NI) : Value := .agg #[.int .i64 x.s, .string (mkN x.x)]
theorem counts_any (s : Int) (b : MK) (w : World) : Calls Tryz.prog 134 #[.agg #[.int .i64 s, .string (mkN b)]] w fun r w' => r = .returned (.bool (isO b)) ∧ Below w.heap.size w w' := by
  cases b
  all_goals
    simp only [mkN]
    have hb := (Below.refl w.heap.size w).alloc (Nat.le_refl _)
    go_enter Tryz.func134, Tryz.ntmps134
    go_wp2
    go_ret
    exact ⟨rfl, hb _⟩
theorem all1_any (s : Int) (b : MK) (w : World) : Calls Tryz.prog 133 #[.agg #[.int .i64 s, .string (mkN b)]] w fun r w' => r = .returned (.bool (!isO b)) ∧ Below w.heap.size w w' := by
  have hb := (Below.refl w.heap.size w).alloc (Nat.le_refl _) (.cells #[.int .i64 s, .string (mkN b)] 143)
  have HC : ∀ w, Calls Tryz.prog 134 #[.agg #[.int .i64 s, .string (mkN b)]] w fun r w' => r = .returned (.bool (isO b)) ∧ Below w.heap.size w w' := fun w => counts_any s b w
  generalize mkN b = m at *
  cases b
  all_goals
    go_enter Tryz.func133, Tryz.ntmps133
    go_wp2_with (go_at_call 134; refine (HC _).mono ?_; rintro e w' ⟨rfl, hb2⟩)
    go_ret
    exact ⟨rfl, hb.trans (hb2.mono hb.size)⟩
theorem netStrokes_any (s : Int) (m : ByteArray) (w : World) : Calls Tryz.prog 82 #[.agg #[.int .i64 s, .string m]] w fun r w' => r = .returned (.int .i64 s) ∧ Below w.heap.size w w' := by
  have hb := (Below.refl w.heap.size w).alloc (Nat.le_refl _) (.cells #[.int .i64 s, .string m] 143)
  go_enter Tryz.func82, Tryz.ntmps82
  go_wp2
  go_ret
  exact ⟨rfl, hb⟩
end Go.Proofs.YtkkkfjinflepmaaGreatDoor
/- Names, on bytes. -/
namespace Go.Sheet
def letterI (c : Int) : Bool := (decide (97 ≤ c) && decide (c ≤ 122)) || (decide (65 ≤ c) && decide (c ≤ 90))
def goodI (i : Nat) (c : Int) : Bool := letterI c || (!decide (i = 0) && (decide (c = 95) || (decide (48 ≤ c) && decide (c ≤ 57))))
def goodAt : Nat → List UInt8 → Bool
  | _, [] => true
  | i, b :: r => goodI i b.toNat && goodAt (i + 1) r
def nameB (s : ByteArray) : Bool := decide (0 < s.size) && decide (s.size ≤ 24) && goodAt 0 s.data.toList
theorem byte_at (s : ByteArray) (k : Nat) (h : k < s.size) : s.data.toList[k]? = some s[k] := by
  have : k < s.data.toList.length := by simpa using h
  rw [List.getElem?_eq_getElem this]; rfl
theorem good_stop (s : ByteArray) (k : Nat) (h : k < s.size) (h0 : goodI k (s[k].toNat : Int) = false) (e : goodAt k (s.data.toList.drop k) = goodAt 0 s.data.toList) : goodAt 0 s.data.toList = false := by
  rw [← e, drop_at (byte_at s k h), goodAt, h0]; rfl
theorem good_go (s : ByteArray) (k : Nat) (h : k < s.size) (h0 : goodI k (s[k].toNat : Int) = true) (e : goodAt k (s.data.toList.drop k) = goodAt 0 s.data.toList) : goodAt (k + 1) (s.data.toList.drop (k + 1)) = goodAt 0 s.data.toList := by
  rw [← e, drop_at (byte_at s k h), goodAt, h0]; rfl
theorem good_end (s : ByteArray) (k : Nat) (h : s.size ≤ k) (e : goodAt k (s.data.toList.drop k) = goodAt 0 s.data.toList) : goodAt 0 s.data.toList = true := by
  rw [← e, List.drop_of_length_le (by simpa using h)]; rfl
def nameL (l : List UInt8) : Bool := decide (0 < l.length) && decide (l.length ≤ 24) && goodAt 0 l
theorem nameB_eq (s : ByteArray) : nameB s = nameL s.data.toList := by
  have h : s.data.toList.length = s.size := by simp
  rw [nameB, nameL, h]
end Go.Sheet
