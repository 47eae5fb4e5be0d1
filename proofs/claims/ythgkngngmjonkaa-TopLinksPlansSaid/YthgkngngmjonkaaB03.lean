/- Part 3 of the walks of the golf union's program: TailW, TailQ, KC, J5, MapA, ShelfP. -/
import Derived.Test.YthgkngngmjonkaaB01
import Derived.OrdersHeld
import Derived.Deep.RegionHeld3
import Derived.Test.YthgkngngmjonkaaB02
import Derived.Maps.OwnOps
import Derived.Maps.Views
import Derived.Shelf.Slices.Reverse
import Derived.Ground.Names2Prog
import Derived.Shelf.Slices.Clone
import Derived.Shelf.Slices.Cells
import Derived.Test.YthgkngngmjonkaaProg
set_option linter.unusedVariables false
set_option linter.unusedSimpArgs false
set_option linter.unusedSectionVars false
set_option linter.constructorNameAsVariable false
/- A drawn region of three parts: first m operations that have one value in whatever world; quiet operations (loads) that have one value in every world that meets S; loud operations that keep S, in whatever order; then a forced tail. -/
namespace Go.Mem
open Go Go.RowKit
variable {P : Program} {ops : Array Oper} {md : Region.Mode} {S : World → Prop} {Q : Exit → Act → World → Prop}
/-- operations that yield a value and nothing else -/
def plainOp : Op → Bool
  | .move _ | .assign _ | .fieldAddr _ _ _ | .load _ _ | .nilCheck _ | .indexAddr _ _ _ => true
  | .binOp _ _ _ _ _ => true
  | .call { callee := .builtin .len, args := _, argTypes := _ } => true
  | .call { callee := .builtin .max, args := _, argTypes := _ } => true
  | .call { callee := .builtin .min, args := _, argTypes := _ } => true
  | _ => false
def Good (P : Program) (t : Sem Next) : Prop := ∀ w w' n, t.run P w = .ok n w' → ∃ v, n = .value v
theorem Good.pure (x : Value) : Good P (Pure.pure (Next.value x)) := fun w w' n h => by
  simp only [Sem.run_pure, Result.ok.injEq] at h; exact ⟨_, h.1.symm⟩
theorem Good.bind {α : Type} (s : Sem α) (f : α → Sem Next) (h : ∀ x, Good P (f x)) : Good P (s >>= f) := fun w w' n hs => by
  simp only [Sem.run_bind] at hs
  cases hq : s.run P w with
  | ok x w2 => rw [hq] at hs; simp only [Result.andThen_ok] at hs; exact h x _ _ _ hs
  | halt x w2 => rw [hq] at hs; simp [Result.andThen] at hs
theorem Good.nilDeref : Good P (runtimePanic .nilDeref) := fun w w' n h => by
  simp [runtimePanic, goPanic, go_sem] at h
theorem plain_good {o : Oper} (h : plainOp o.op = true) (ρ : Operand → Value) : Good P (execOp ρ o) := by
  unfold execOp
  unfold plainOp at h
  split at h
  · rename_i e; simp only [e]; exact .pure _
  · rename_i e; simp only [e]; exact .pure _
  · rename_i e; simp only [e]; exact .bind _ _ fun x => .pure x
  · rename_i e; simp only [e]; exact .bind _ _ fun x => .pure x
  · rename_i e
    simp only [e]
    split
    · exact .nilDeref
    · exact .nilDeref
    · exact .nilDeref
    · split
      · exact .nilDeref
      · refine .bind _ _ fun x => .bind _ _ fun y => ?_
        split
        · exact .bind _ _ fun _ => .pure _
        · exact .pure _
      · exact .pure _
    · exact .pure _
  · rename_i e; simp only [e]; exact .bind _ _ fun x => .pure x
  · rename_i e; simp only [e]; exact .bind _ _ fun x => .pure x
  · rename_i e
    simp only [e, resolve, invoke, builtin]
    intro w w' n hs
    simp only [Sem.run_bind, Sem.run_pure, Result.andThen_ok] at hs
    exact (Good.bind (Builtin.len_ _ _ _) (fun x => Pure.pure (Next.value x)) fun x => .pure x) _ _ _ (by simpa only [Sem.run_bind, Sem.run_pure] using hs)
  · rename_i e
    simp only [e, resolve, invoke, builtin]
    intro w w' n hs
    simp only [Sem.run_bind, Sem.run_pure, Result.andThen_ok] at hs
    exact (Good.bind (Builtin.max_ _ _ _) (fun x => Pure.pure (Next.value x)) fun x => .pure x) _ _ _ (by simpa only [Sem.run_bind, Sem.run_pure] using hs)
  · rename_i e
    simp only [e, resolve, invoke, builtin]
    intro w w' n hs
    simp only [Sem.run_bind, Sem.run_pure, Result.andThen_ok] at hs
    exact (Good.bind (Builtin.min_ _ _ _) (fun x => Pure.pure (Next.value x)) fun x => .pure x) _ _ _ (by simpa only [Sem.run_bind, Sem.run_pure] using hs)
  · cases h
/-- what a quiet walk shows of a plain operation -/
theorem yieldsIf_of_qOp {i : Nat} {o : Oper} {a : Act} {K : Act → Prop} (hi : ops[i]? = some o) (hp : plainOp o.op = true) (h : qOp P ops S i K a) : ∃ v, YieldsIf P ops S o v a ∧ K (a.put o.dst v) := by
  obtain ⟨v, hy, hk⟩ := yieldsIn_of_qOp hi h
  refine ⟨v, hy.imp (fun ⟨h1, h2⟩ => ⟨h1, fun w hw => ?_⟩) id, hk⟩
  have h3 := h2 w hw
  unfold Oper.quietAt at h3
  generalize hr : (execOp a.eval o).run P w = r at *
  cases r with
  | ok n w' =>
    obtain ⟨u, rfl⟩ := plain_good hp _ _ _ _ hr
    obtain ⟨rfl, rfl⟩ := h3
    rfl
  | halt x w' => simp only [Oper.quietUpon] at h3
/-- the operations of the list, each ready and free when its turn comes -/
def lexIs (md : Region.Mode) (ops : Array Oper) : List Nat → Array Bool → Bool
  | [], _ => true
  | i :: l, ls => (Region.ready md ops ls).contains i && Region.free md ops ls i && ((ops[i]?).map fun o => plainOp o.op).getD false && lexIs md ops l (ls.setIfInBounds i true)
def setAll : List Nat → Array Bool → Array Bool
  | [], ls => ls
  | i :: l, ls => setAll l (ls.setIfInBounds i true)
def pick (ops : Array Oper) (l : List Nat) : List Oper := l.filterMap (ops[·]?)
theorem wpQuiet_mono' {R R' : Act → Prop} (hR : ∀ a, R a → R' a) : ∀ {l : List Oper} {a : Act}, wpQuiet P ops S R l a → wpQuiet P ops S R' l a := by
  intro l
  induction l with
  | nil => intro a h; exact hR _ h
  | cons o l ih =>
    intro a h
    simp only [wpQuiet] at h ⊢
    split
    · rename_i hw; rw [if_pos hw] at h; exact Oper.quiet_mono (fun a => ih) h
    · rename_i hw; rw [if_neg hw] at h; exact ih h
/-- operations that have one value in whatever world may come first in the region -/
theorem wpAny_pre (hsel : Region.noSelect ops = true) (hQ : ∀ c a a' w, Q (.panic c) a' w → Q (.panic c) a w) {g : Nat} {w : World} (pre : List Nat) :
    ∀ (ls : Array Bool) (a : Act), lexIs md ops pre ls = true → wpQuiet P ops (fun _ => True) (fun a' => wpAny P md ops Q g (setAll pre ls) a' w) (pick ops pre) a → wpAny P md ops Q (pre.length + g) ls a w := by
  induction pre with
  | nil => intro ls a _ h; rw [List.length_nil, Nat.zero_add]; exact h
  | cons i l ih =>
    intro ls a hB h
    simp only [lexIs, Bool.and_eq_true] at hB
    obtain ⟨⟨⟨hr, hf⟩, hp⟩, hB⟩ := hB
    cases ho : ops[i]? with
    | none => rw [ho] at hp; cases hp
    | some o =>
      rw [ho] at hp
      have e : pick ops (i :: l) = o :: pick ops l := by simp [pick, ho]
      rw [e] at h
      have hq : qOp P ops (fun _ => True) i (wpQuiet P ops (fun _ => True) (fun a' => wpAny P md ops Q g (setAll (i :: l) ls) a' w) (pick ops l)) a := by unfold qOp; simp only [ho]; exact h
      obtain ⟨v, hy, hk⟩ := yieldsIf_of_qOp ho hp hq
      have e2 : (i :: l).length + g = (l.length + g) + 1 := by simp only [List.length_cons]; omega
      rw [e2]
      exact wpAny_take ho hsel hf hr (fun c a w h => hQ _ _ _ _ h) (hy.imp (fun ⟨h1, h2⟩ => ⟨h1, fun w => h2 w trivial⟩) id) (ih _ _ hB hk)
def sinkFrom (md : Region.Mode) (ops : Array Oper) (m n : Nat) : Bool :=
  (List.range n).all fun i => decide (i < m) || (List.range (n + 1)).any fun j => decide (i < j) && Region.waitsFor md ops j i
theorem tail_waits' {m n : Nat} {listed : Array Bool} (hs : sinkFrom md ops m n = true) (hc : Region.chainB md ops n = true) (hn : n < ops.size) (inv : HeadInv md ops n listed) :
    ∀ (d i : Nat), n - i = d → m ≤ i → i < n → listed.getD i true = false → ∀ t, n ≤ t → t ∉ Region.ready md ops listed := by
  intro d
  induction d using Nat.strongRecOn with
  | _ d ih =>
    intro i hd hmi hi hun t ht hr
    obtain ⟨_, ot, hot, hall⟩ := mem_ready.1 hr
    have htlt : t < ops.size := (Array.getElem?_eq_some_iff.1 hot).1
    by_cases htn : t = n
    · subst htn
      have h1 := List.all_eq_true.1 hs i (List.mem_range.2 hi)
      have h1' : ((List.range (t + 1)).any fun j => decide (i < j) && Region.waitsFor md ops j i) = true := by
        simp only [Bool.or_eq_true, decide_eq_true_eq] at h1
        rcases h1 with h1 | h1
        · omega
        · exact h1
      obtain ⟨j, hj, hj2⟩ := List.any_eq_true.1 h1'
      simp only [Bool.and_eq_true, decide_eq_true_eq] at hj2
      obtain ⟨oj, hoj, e, he, hb, hon⟩ := Region.waitsFor_spec hj2.2
      have hjle : j ≤ t := by have := List.mem_range.1 hj; omega
      by_cases hjt : j = t
      · subst hjt
        have : oj = ot := Option.some.inj (hoj.symm.trans hot)
        subst this
        have h2 := hall e he hb
        rw [hon, getD_both hun] at h2
        cases h2
      · cases hl : listed.getD j false with
        | true =>
          have h2 := inv.closed j oj hoj hl e he hb
          rw [hon, getD_both hun] at h2
          cases h2
        | false =>
          have hjs : j < listed.size := by rw [inv.size]; omega
          exact ih (t - j) (by omega) j rfl (by omega) (by omega) (getD_in hjs hl) t (Nat.le_refl _) hr
    · have h1 := List.all_eq_true.1 hc t (List.mem_range.2 htlt)
      simp only [Bool.or_eq_true, decide_eq_true_eq] at h1
      rcases h1 with h1 | h1
      · omega
      · obtain ⟨o', ho', e, he, hb, hon⟩ := Region.waitsFor_spec h1
        have : o' = ot := Option.some.inj (ho'.symm.trans hot)
        subst this
        have h2 := hall e he hb
        rw [hon, getD_both (inv.tail (t - 1) (by omega) (by omega))] at h2
        cases h2
/-- whatever is picked within the head; S is kept -/
def headW (P : Program) (md : Region.Mode) (ops : Array Oper) (Q : Exit → Act → World → Prop) (S : World → Prop) (n : Nat) (L : Array Bool → Act → World → Prop) : Nat → Array Bool → Act → World → Prop
  | 0, ls, a, w => L ls a w
  | k + 1, ls, a, w => Region.ready md ops ls ≠ [] ∧ ∀ i ∈ Region.ready md ops ls, i < n ∧ wpOp P ops Q i (fun a' w' => S w' ∧ headW P md ops Q S n L k (ls.setIfInBounds i true) a' w') a w
theorem headW_sound {n g : Nat} {L : Array Bool → Act → World → Prop} (hL : ∀ ls a w, L ls a w → wpAny P md ops Q g ls a w) (k : Nat) :
    ∀ (ls : Array Bool) (a : Act) (w : World), headW P md ops Q S n L k ls a w → wpAny P md ops Q (k + g) ls a w := by
  induction k with
  | zero => intro ls a w h; rw [Nat.zero_add]; exact hL ls a w h
  | succ k ih =>
    intro ls a w h
    have e : k + 1 + g = (k + g) + 1 := by omega
    rw [e]
    exact ⟨fun h0 => absurd h0 h.1, fun i hi => wpOp_mono (fun a' w' h' => ih _ a' w' h'.2) (h.2 i hi).2⟩
theorem headW_first {m n i : Nat} {oi : Oper} {v : Value} {L : Array Bool → Act → World → Prop} (hi : ops[i]? = some oi) (hsel : ∀ (j : Nat) (o : Oper) cs b, ops[j]? = some o → o.op ≠ .select cs b)
    (hs : sinkFrom md ops m n = true) (hc : Region.chainB md ops n = true) (hn : n < ops.size) (hin : i < n) (hQ : ∀ c a a' w, Q (.panic c) a' w → Q (.panic c) a w)
    (hend : ∀ ls a w, L ls a w → ∀ j ∈ Region.ready md ops ls, n ≤ j) (k : Nat) :
    ∀ (ls : Array Bool) (a : Act) (w : World), HeadInv md ops n ls → (∀ i < m, ls.getD i true = true) →
      (∀ j oj, ops[j]? = some oj → j ≠ i → ls.getD j true = false → (∀ e ∈ oj.after, Region.binds md e = true → e.on ≠ i) → oi.apart ops oj = true) →
      i ∈ Region.ready md ops ls → YieldsIf P ops S oi v a → S w → headW P md ops Q S n L k (ls.setIfInBounds i true) (a.put oi.dst v) w → headW P md ops Q S n L (k + 1) ls a w := by
  have inHead : ∀ (ls : Array Bool), HeadInv md ops n ls → (∀ i < m, ls.getD i true = true) → i ∈ Region.ready md ops ls → ∀ j ∈ Region.ready md ops ls, j < n := by
    intro ls inv hm hr j hj
    rcases Nat.lt_or_ge j n with h | h
    · exact h
    · have hun := (mem_ready.1 hr).1
      have hmi : m ≤ i := by
        rcases Nat.lt_or_ge i m with h' | h'
        · rw [hm i h'] at hun; cases hun
        · exact h'
      exact absurd hj (tail_waits' hs hc hn inv _ i rfl hmi hin hun j h)
  induction k with
  | zero =>
    intro ls a w inv hm _ hr hy hS H
    refine ⟨fun h => (by rw [h] at hr; cases hr), fun j hj => ⟨inHead ls inv hm hr j hj, ?_⟩⟩
    by_cases e : j = i
    · subst e; exact hy.wpOp hi hS ⟨hS, H⟩
    · have h1 := hend _ _ _ H j (ready_mono hj e)
      have h2 := inHead ls inv hm hr j hj
      omega
  | succ k ih =>
    intro ls a w inv hm hfree hr hy hS H
    refine ⟨fun h => (by rw [h] at hr; cases hr), fun j hj => ⟨inHead ls inv hm hr j hj, ?_⟩⟩
    by_cases e : j = i
    · subst e; exact hy.wpOp hi hS ⟨hS, H⟩
    · obtain ⟨hju, oj, hoj, hall⟩ := mem_ready.1 hj
      have hnot : ∀ d ∈ oj.after, Region.binds md d = true → d.on ≠ i := fun d hd hb hq => by
        have h1 := hall d hd hb
        rw [hq, getD_both (mem_ready.1 hr).1] at h1
        cases h1
      have h1 := wpOp_putIf hoj (hfree j oj hoj e hju hnot) (fun cs b => hsel i oi cs b hi) (fun cs b => hsel j oj cs b hoj) (fun c a w h => hQ c a _ w h) hy (H.2 j (ready_mono hj e)).2
      refine wpOp_mono (fun a' w' h2 => ⟨h2.2.1, ?_⟩) h1
      refine ih (ls.setIfInBounds j true) a' w' (inv.set hj (inHead ls inv hm hr j hj)) (fun x hx => ?_) (fun q om hq hqi hqu hno => ?_) (ready_mono hr (Ne.symm e)) h2.1 h2.2.1 ?_
      · by_cases hjx : j = x
        · subst hjx
          have := (mem_ready.1 hj).1
          rw [hm j hx] at this
          cases this
        · rw [getD_set_ne true hjx]; exact hm x hx
      · refine hfree q om hq hqi ?_ hno
        by_cases hjm : j = q
        · subst hjm; exact hju
        · rw [getD_set_ne true hjm] at hqu; exact hqu
      · rw [Array.setIfInBounds_comm _ _ e]
        exact h2.2.2
theorem HeadInv.setAll {n : Nat} : ∀ (l : List Nat) (ls : Array Bool), HeadInv md ops n ls → lexIs md ops l ls = true → (∀ i ∈ l, i < n) → HeadInv md ops n (setAll l ls)
  | [], _, inv, _, _ => inv
  | i :: l, ls, inv, hB, hl => by
    simp only [lexIs, Bool.and_eq_true] at hB
    exact HeadInv.setAll l _ (inv.set (by simpa using hB.1.1.1) (hl i (List.mem_cons_self ..))) hB.2 fun j hj => hl j (List.mem_cons_of_mem _ hj)
theorem setAll_true : ∀ (l : List Nat) (ls : Array Bool) (x : Nat), ls.getD x true = true → (Go.Mem.setAll l ls).getD x true = true
  | [], _, _, h => h
  | i :: l, ls, x, h => by
    refine setAll_true l _ x ?_
    by_cases hix : i = x
    · subst hix
      rcases Nat.lt_or_ge i ls.size with h' | h'
      · simp [h']
      · simp [h']
    · rw [getD_set_ne true hix]; exact h
theorem setAll_mem : ∀ (l : List Nat) (ls : Array Bool) (x : Nat), x ∈ l → (Go.Mem.setAll l ls).getD x true = true
  | i :: l, ls, x, h => by
    rcases List.mem_cons.1 h with rfl | h
    · refine setAll_true l _ x ?_
      rcases Nat.lt_or_ge x ls.size with h' | h'
      · simp [h']
      · simp [Array.getElem?_eq_none h']
    · exact setAll_mem l _ x h
/-- operations that have one value in every world that meets S may come first in the head -/
theorem headW_qs {m n k : Nat} {L : Array Bool → Act → World → Prop} {w : World} (hsel : Region.noSelect ops = true) (hs : sinkFrom md ops m n = true) (hc : Region.chainB md ops n = true) (hn : n < ops.size)
    (hQ : ∀ c a a' w, Q (.panic c) a' w → Q (.panic c) a w) (hend : ∀ ls a w, L ls a w → ∀ j ∈ Region.ready md ops ls, n ≤ j) (hS : S w) (qs : List Nat) :
    ∀ (ls : Array Bool) (a : Act), HeadInv md ops n ls → (∀ i < m, ls.getD i true = true) → lexIs md ops qs ls = true → (∀ i ∈ qs, i < n) →
      wpQuiet P ops S (fun a' => headW P md ops Q S n L k (setAll qs ls) a' w) (pick ops qs) a → headW P md ops Q S n L (qs.length + k) ls a w := by
  induction qs with
  | nil => intro ls a _ _ _ _ h; rw [List.length_nil, Nat.zero_add]; exact h
  | cons i l ih =>
    intro ls a inv hm hB hl h
    simp only [lexIs, Bool.and_eq_true] at hB
    obtain ⟨⟨⟨hr, hf⟩, hp⟩, hB⟩ := hB
    cases ho : ops[i]? with
    | none => rw [ho] at hp; cases hp
    | some o =>
      rw [ho] at hp
      have e : pick ops (i :: l) = o :: pick ops l := by simp [pick, ho]
      rw [e] at h
      have hq : qOp P ops S i (wpQuiet P ops S (fun a' => headW P md ops Q S n L k (Go.Mem.setAll (i :: l) ls) a' w) (pick ops l)) a := by unfold qOp; simp only [ho]; exact h
      obtain ⟨v, hy, hk⟩ := yieldsIf_of_qOp ho hp hq
      have e2 : (i :: l).length + k = (l.length + k) + 1 := by simp only [List.length_cons]; omega
      have hr' : i ∈ Region.ready md ops ls := by simpa using hr
      have hin := hl i (List.mem_cons_self ..)
      rw [e2]
      refine headW_first ho (Region.noSelect_spec hsel) hs hc hn hin hQ hend _ ls a w inv hm (Region.free_spec ho hf) hr' hy hS ?_
      refine ih _ _ (inv.set hr' hin) (fun x hx => ?_) hB (fun j hj => hl j (List.mem_cons_of_mem _ hj)) hk
      exact setAll_true [i] ls x (hm x hx)
/-- what the numbers of a region must be -/
def headWB (ops : Array Oper) (m n k : Nat) (qs : List Nat) : Bool :=
  let l0 := Array.replicate ops.size false
  let l1 := setAll (List.range m) l0
  Region.noSelect ops && decide (n < ops.size) && decide (m + (qs.length + k) = n) && sinkFrom .any ops m n && Region.chainB .any ops n && lexIs .any ops (List.range m) l0 && lexIs .any ops qs l1 && qs.all (fun i => decide (i < n)) &&
    decide (m ≤ n)
/-- the law -/
theorem wp_head_tail {id : Nat} {a : Act} {w : World} {l : List Oper} (m n k : Nat) (qs : List Nat) (S : World → Prop) (Fin : Act → World → Prop) (hm : P.follows .mixedOrders = true) (hB : headWB l.toArray m n k qs = true) (hS : S w.drew)
    (h1 : wpQuiet P l.toArray (fun _ => True) (fun a1 => wpQuiet P l.toArray S (fun a2 => headW P .any l.toArray (NoPanic Q) S n
        (fun ls a' w' => Region.seqB .any l.toArray (l.toArray.size - n) n ls = true ∧ Fin a' w') k (setAll qs (setAll (List.range m) (Array.replicate l.toArray.size false))) a2 w.drew) (pick l.toArray qs) a1) (pick l.toArray (List.range m)) a)
    (h2 : ∀ a' w', Fin a' w' → wpList P l.toArray (NoPanic Q) (l.drop n) a' w') : (Code.region id l.toArray true).wp P Q a w := by
  simp only [headWB, Bool.and_eq_true, decide_eq_true_eq] at hB
  obtain ⟨⟨⟨⟨⟨⟨⟨⟨hsel, hn⟩, hmk⟩, hs⟩, hc⟩, hpre⟩, hqs⟩, hqn⟩, hmn⟩ := hB
  have hQ : ∀ c a a' w, NoPanic Q (.panic c) a' w → NoPanic Q (.panic c) a w := fun _ _ _ _ h => (h : False).elim
  have inv0 : HeadInv .any l.toArray n (Array.replicate l.toArray.size false) :=
    ⟨by simp, fun j oj _ hl => (by rw [getD_replicate_false] at hl; cases hl), fun t _ ht => getD_in (by simpa using ht) (getD_replicate_false _ _)⟩
  have inv1 := HeadInv.setAll (List.range m) _ inv0 hpre fun i hi => by have := List.mem_range.1 hi; omega
  refine wp_region_noPanic (wp_region_any hm ?_)
  have hdl : (l.drop n).length = l.toArray.size - n := by simp
  have hsz : l.toArray.size = (List.range m).length + ((qs.length + k) + (l.toArray.size - n)) := by rw [List.length_range]; omega
  have hfu : wpAny P .any l.toArray (NoPanic Q) ((List.range m).length + ((qs.length + k) + (l.toArray.size - n))) (Array.replicate l.toArray.size false) a w.drew := by
    refine wpAny_pre hsel hQ (List.range m) _ _ hpre ?_
    refine wpQuiet_mono' (fun a1 h3 => ?_) h1
    refine headW_sound (n := n) (S := S) (fun ls a' w' hL => ?_) (qs.length + k) _ a1 w.drew ?_ (L := fun ls a' w' => Region.seqB .any l.toArray (l.toArray.size - n) n ls = true ∧ Fin a' w')
    · have := wpAny_of_seq (P := P) (md := .any) (Q' := NoPanic Q) (l.drop n) n ls a' w' (fun j => by simp [List.getElem?_drop]) (by rw [hdl]; exact hL.1) (h2 a' w' hL.2)
      rwa [hdl] at this
    · exact headW_qs hsel hs hc hn hQ (fun ls a w hL => seqB_ready hL.1) hS qs _ a1 inv1 (fun i hi => setAll_mem _ _ i (List.mem_range.2 hi)) hqs (fun i hi => by simpa using List.all_eq_true.1 hqn i hi) h3
  rw [← hsz] at hfu
  exact hfu
/-- whichever comes up -/
theorem headW_all {n k : Nat} {L : Array Bool → Act → World → Prop} {rs : List Nat} {ls : Array Bool} {a : Act} {w : World} (hr : Region.ready md ops ls = rs) (hne : rs ≠ []) (hn : rs.all (fun i => decide (i < n)) = true)
    (h : ∀ i ∈ rs, wpOp P ops Q i (fun a' w' => S w' ∧ headW P md ops Q S n L k (ls.setIfInBounds i true) a' w') a w) : headW P md ops Q S n L (k + 1) ls a w :=
  ⟨fun h0 => hne (hr ▸ h0), fun i hi => ⟨by have := List.all_eq_true.1 hn i (hr ▸ hi); simpa using this, h i (hr ▸ hi)⟩⟩
/-- one operation, walked like a list of one -/
theorem wpOp_list {i : Nat} {o : Oper} {K : Act → World → Prop} {a : Act} {w : World} (ho : ops[i]? = some o) (h : ∀ Q' : Exit → Act → World → Prop, (∀ a w, K a w → Q' .normal a w) → wpList P ops Q' [o] a w) : wpOp P ops Q i K a w := by
  have h1 := h (fun e a w => match e with | .normal => K a w | _ => False) (fun _ _ h => h)
  unfold wpOp
  simp only [ho]
  simp only [wpList] at h1
  split
  · rename_i hw
    rw [if_pos hw] at h1
    rcases h1 with h1 | ⟨_, h1⟩
    · refine .inl ?_
      unfold Oper.wp at *
      generalize (execOp a.eval o).run P w = r at *
      cases r with
      | ok n w' =>
        cases n <;> simp only [Oper.upon] at h1 ⊢ <;>
          first
            | exact h1
            | exact Calls.mono h1 (fun e w'' he => by cases e <;> first | exact he | exact False.elim he | exact (let ⟨_, _, h⟩ := he; False.elim h))
            | exact Rows.mono h1 (fun _ _ he => he)
      | halt x w' => cases x <;> simp only [Oper.upon] at h1 ⊢
    · obtain ⟨_, _, h1⟩ := h1
      exact h1.elim
  · rename_i hw; rw [if_neg hw] at h1; exact h1
/-- the law, with what follows in the place of its predicate -/
theorem wp_head_tail' {id : Nat} {a : Act} {w : World} {l : List Oper} (m n k : Nat) (pre qs : List Nat) (hpre : List.range m = pre) (K : World → Prop) (hm : P.follows .mixedOrders = true) (hB : headWB l.toArray m n k qs = true) (hK : K w.drew)
    (h1 : wpQuiet P l.toArray (fun _ => True) (fun a1 => wpQuiet P l.toArray (fun w' => ∃ y : Wd K, w' = y.w) (fun a2 => headW P .any l.toArray (NoPanic Q) K n
        (fun ls a' w' => Region.seqB .any l.toArray (l.toArray.size - n) n ls = true ∧ wpList P l.toArray (NoPanic Q) (l.drop n) a' w') k (setAll qs (setAll pre (Array.replicate l.toArray.size false))) a2 w.drew) (pick l.toArray qs) a1) (pick l.toArray pre) a) :
    (Code.region id l.toArray true).wp P Q a w := by
  subst hpre
  have e : (fun w' => ∃ y : Wd K, w' = y.w) = K := by
    funext w'
    exact propext ⟨fun ⟨y, hy⟩ => hy ▸ y.h, fun h => ⟨⟨w', h⟩, rfl⟩⟩
  rw [e] at h1
  exact wp_head_tail m n k qs K (fun a' w' => wpList P l.toArray (NoPanic Q) (l.drop n) a' w') hm hB hK h1 (fun _ _ h => h)
theorem headW_mono {n : Nat} {L L' : Array Bool → Act → World → Prop} (hL : ∀ ls a w, L ls a w → L' ls a w) (k : Nat) :
    ∀ (ls : Array Bool) (a : Act) (w : World), headW P md ops Q S n L k ls a w → headW P md ops Q S n L' k ls a w := by
  induction k with
  | zero => exact hL
  | succ k ih => exact fun ls a w h => ⟨h.1, fun i hi => ⟨(h.2 i hi).1, wpOp_mono (fun a' w' h' => ⟨h'.1, ih _ a' w' h'.2⟩) (h.2 i hi).2⟩⟩
/-- the law, with a predicate between the loud operations and the tail -/
theorem wp_head_tail3 {id : Nat} {a : Act} {w : World} {l : List Oper} (m n k : Nat) (pre qs : List Nat) (hpre : List.range m = pre) (K : World → Prop) (Fin : Act → Act → World → Prop) (hm : P.follows .mixedOrders = true) (hB : headWB l.toArray m n k qs = true) (hK : K w.drew)
    (h1 : wpQuiet P l.toArray (fun _ => True) (fun a1 => wpQuiet P l.toArray (fun w' => ∃ y : Wd K, w' = y.w) (fun a2 => headW P .any l.toArray (NoPanic Q) K n
        (fun ls a' w' => Region.seqB .any l.toArray (l.toArray.size - n) n ls = true ∧ Fin a2 a' w') k (setAll qs (setAll pre (Array.replicate l.toArray.size false))) a2 w.drew ∧
        ∀ a' w', Fin a2 a' w' → wpList P l.toArray (NoPanic Q) (l.drop n) a' w') (pick l.toArray qs) a1) (pick l.toArray pre) a) :
    (Code.region id l.toArray true).wp P Q a w :=
  wp_head_tail' m n k pre qs hpre K hm hB hK (wpQuiet_mono' (fun _ h => wpQuiet_mono' (fun _ h' => headW_mono (fun _ _ _ hl => ⟨hl.1, h'.2 _ _ hl.2⟩) _ _ _ _ h'.1) h) h1)
end Go.Mem
/- The lexical order of a long drawn region whose operations number their slots one by one: a check of each operation by itself (the pairwise check of 100 operations runs the kernel out of memory). -/
namespace Go.MemQ
def seqOp (md : Region.Mode) (ops : Array Oper) (b k : Nat) (o : Oper) : Bool :=
  (o.dst == some (b + k)) && o.after.all (fun e => !Region.binds md e || decide (e.on < k)) &&
  (o.looksAt ops).all (fun t => decide (t < b) || (decide (t < b + k) && o.after.any (fun e => Region.binds md e && e.on == t - b)))
def seqOk (md : Region.Mode) (ops : Array Oper) (b : Nat) : Nat → List Oper → Bool
  | _, [] => true
  | k, o :: l => seqOp md ops b k o && seqOk md ops b (k + 1) l
theorem seqOk_at {md : Region.Mode} {ops : Array Oper} {b : Nat} : ∀ (l : List Oper) (k j : Nat) (o : Oper), seqOk md ops b k l = true → l[j]? = some o → seqOp md ops b (k + j) o = true
  | [], _, _, _ => fun _ h => by simp at h
  | x :: l, k, j, o => fun hs h => by
    rw [seqOk, Bool.and_eq_true] at hs
    cases j with
    | zero => simp at h; subst h; exact hs.1
    | succ j =>
      have := seqOk_at l (k + 1) j o hs.2 (by simpa using h)
      rwa [show k + 1 + j = k + (j + 1) by omega] at this
theorem seqOp_spec {md : Region.Mode} {ops : Array Oper} {b k : Nat} {o : Oper} (h : seqOp md ops b k o = true) :
    o.dst = some (b + k) ∧ (∀ e ∈ o.after, Region.binds md e = true → e.on < k) ∧ (∀ t ∈ o.looksAt ops, t < b + k) ∧ (∀ i, i < k → b + i ∈ o.looksAt ops → o.after.any (fun e => Region.binds md e && e.on == i) = true) := by
  simp only [seqOp, Bool.and_eq_true, beq_iff_eq] at h
  obtain ⟨⟨h1, h2⟩, h3⟩ := h
  refine ⟨h1, fun e he hb => ?_, fun t ht => ?_, fun i hi ht => ?_⟩
  · have := Array.all_eq_true_iff_forall_mem.1 h2 e he
    simp only [hb, Bool.not_true, Bool.false_or, decide_eq_true_eq] at this
    exact this
  · have := List.all_eq_true.1 h3 t ht
    simp only [Bool.or_eq_true, Bool.and_eq_true, decide_eq_true_eq] at this
    rcases this with h | h
    · exact Nat.lt_of_lt_of_le h (Nat.le_add_right b k)
    · exact h.1
  · have := List.all_eq_true.1 h3 _ ht
    simp only [Bool.or_eq_true, Bool.and_eq_true, decide_eq_true_eq] at this
    rcases this with h | h
    · exact absurd h (Nat.not_lt.2 (Nat.le_add_right b i))
    · have h4 := h.2
      rwa [show b + i - b = i from Nat.add_sub_cancel_left b i] at h4
theorem seq_apart {md : Region.Mode} {ops : Array Oper} {b k j : Nat} {x y : Oper} (hx : seqOp md ops b k x = true) (hy : seqOp md ops b j y = true) (hkj : k < j) (hno : y.after.any (fun e => Region.binds md e && e.on == k) = false) : x.apart ops y = true := by
  obtain ⟨x1, x2, x3, x4⟩ := seqOp_spec hx
  obtain ⟨y1, y2, y3, y4⟩ := seqOp_spec hy
  have h1 : b + k ∉ y.looksAt ops := fun h => by rw [y4 k hkj h] at hno; cases hno
  have h2 : b + j ∉ x.looksAt ops := fun h => absurd (Nat.lt_of_add_lt_add_left (x3 _ h)) (Nat.not_lt.2 (Nat.le_of_lt hkj))
  simp only [Oper.apart, x1, y1, Bool.and_eq_true, Bool.not_eq_true', bne_iff_ne, ne_eq, Option.some.injEq]
  exact ⟨⟨by simpa using h1, fun h => absurd (Nat.add_left_cancel h) (by omega)⟩, by simpa using h2⟩
theorem lexFrom_seq {md : Region.Mode} {l : List Oper} {b : Nat} (hs : seqOk md l.toArray b 0 l = true) : ∀ (n k : Nat) (listed : Array Bool), k + n = l.length → listed.size = l.length → (∀ j, j < k → listed.getD j false = true) → (∀ j, k ≤ j → j < l.length → listed.getD j true = false) →
    Region.lexFrom md l.toArray n k listed = true := by
  have hat : ∀ (j : Nat) (o : Oper), l.toArray[j]? = some o → seqOp md l.toArray b j o = true := fun j o h => by
    have := seqOk_at l 0 j o hs (by simpa using h)
    rwa [Nat.zero_add] at this
  intro n
  induction n with
  | zero =>
    intro k listed hk hz h1 h2
    rw [Region.lexFrom, List.isEmpty_iff, List.eq_nil_iff_forall_not_mem]
    intro j hj
    obtain ⟨h3, o, ho, _⟩ := mem_ready.1 hj
    have hjl : j < l.length := by have := (Array.getElem?_eq_some_iff.1 ho).1; simpa using this
    have h4 := h1 j (by omega)
    simp [hz, hjl] at h3 h4
    rw [h3] at h4
    cases h4
  | succ n ih =>
    intro k listed hk hz h1 h2
    have hkl : k < l.length := by omega
    have hok : l.toArray[k]? = some l[k] := by simp [hkl]
    have hsk := hat k _ hok
    rw [Region.lexFrom, Bool.and_eq_true, Bool.and_eq_true]
    refine ⟨⟨?_, ?_⟩, ih (k + 1) _ (by omega) (by simpa using hz) (fun j hj => ?_) (fun j hj hl => ?_)⟩
    · rw [List.contains_iff_mem, mem_ready]
      exact ⟨h2 k (Nat.le_refl _) hkl, _, hok, fun e he hb => h1 _ ((seqOp_spec hsk).2.1 e he hb)⟩
    · simp only [Region.free, hok, List.all_eq_true, List.mem_range]
      intro j hj
      have hjl : j < l.length := by simpa using hj
      have hoj : l.toArray[j]? = some l[j] := by simp [hjl]
      rcases Nat.lt_trichotomy j k with h | h | h
      · have h4 := h1 j h
        have h5 : listed.getD j true = true := by simp [hz, hjl] at h4 ⊢; exact h4
        rw [h5]; simp
      · subst h; simp
      · simp only [hoj]
        cases hb : (l[j]).after.any (fun e => Region.binds md e && e.on == k) with
        | true => simp
        | false => rw [seq_apart hsk (hat j _ hoj) h hb]; simp
    · by_cases hjk : k = j
      · subst hjk; simp [hz, hkl]
      · rw [getD_set_ne false hjk]; exact h1 j (by omega)
    · rw [getD_set_ne true (by omega)]; exact h2 j (by omega) hl
theorem lexB_seq {md : Region.Mode} {l : List Oper} (b : Nat) (hn : Region.noSelect l.toArray = true) (hs : seqOk md l.toArray b 0 l = true) : Region.lexB md l.toArray = true := by
  rw [Region.lexB, Bool.and_eq_true]
  refine ⟨hn, lexFrom_seq hs _ 0 _ (by simp) (by simp) (fun j hj => absurd hj (Nat.not_lt_zero j)) (fun j _ hj => ?_)⟩
  simp [hj]
end Go.MemQ
/- TopLinksPlans: the program's check of conditions. -/
namespace Go.Proofs.Ythgkngngmjonkaa
open Go.RowKit Go.Mem Go.Sheet Go.Plan
theorem rules_head (jobs : Int) (l : List RI) : rulesE jobs l = if fst [whenE (decide (jobs < 1) || decide (24 < jobs)) 3, whenE (decide (256 < (l.length : Int))) 5] = 0 then eachF (fun _ r => ruleE jobs r) 0 l else fst [whenE (decide (jobs < 1) || decide (24 < jobs)) 3, whenE (decide (256 < (l.length : Int))) 5] := by
  unfold rulesE
  by_cases h1 : jobs < 1 ∨ 24 < jobs
  · rw [if_pos h1, show (decide (jobs < 1) || decide (24 < jobs)) = true by simpa using h1]; rfl
  · have e1 : (decide (jobs < 1) || decide (24 < jobs)) = false := by simp; omega
    rw [if_neg h1, e1]
    by_cases h2 : 256 < l.length
    · rw [if_pos h2, show decide (256 < (l.length : Int)) = true by simp; omega]; rfl
    · rw [if_neg h2, show decide (256 < (l.length : Int)) = false by simp; omega]; rfl
theorem rule_fst (jobs : Int) (r : RI) : fst [whenE ((decide (r.fr < 0) || decide (jobs - 1 < r.fr)) || (decide (r.to < 0) || decide (jobs - 1 < r.to))) 10, whenE (decide (r.le < -10000) || decide (10000 < r.le)) 3] = ruleE jobs r := by
  unfold ruleE
  by_cases h1 : (r.fr < 0 ∨ jobs ≤ r.fr) ∨ r.to < 0 ∨ jobs ≤ r.to
  · rw [if_pos h1, show ((decide (r.fr < 0) || decide (jobs - 1 < r.fr)) || (decide (r.to < 0) || decide (jobs - 1 < r.to))) = true by simp; omega]; rfl
  · rw [if_neg h1, show ((decide (r.fr < 0) || decide (jobs - 1 < r.fr)) || (decide (r.to < 0) || decide (jobs - 1 < r.to))) = false by simp; omega]
    by_cases h2 : r.le < -10000 ∨ 10000 < r.le
    · rw [if_pos h2, show (decide (r.le < -10000) || decide (10000 < r.le)) = true by simpa using h2]; rfl
    · rw [if_neg h2, show (decide (r.le < -10000) || decide (10000 < r.le)) = false by simp; omega]; rfl
set_option maxRecDepth 100000 in
set_option maxHeartbeats 4000000 in
theorem checkRules_any (W : World) (jobs : Int) (hj : -1000000 ≤ jobs ∧ jobs ≤ 1000000) (v : Value) (n : Nat) (l : List RI) (h : Rd W (· < W.heap.size) 3 v n (l.flatMap RI.cells)) :
    Calls Try.prog 14 #[.int .i64 jobs, v] W fun e w' => e = .returned (.int .i64 (rulesE jobs l)) ∧ Below W.heap.size W w' := by
  have HL := Lib.hid (h.count (f := RI.cells) (size := 3) (fun _ => rfl) (by decide))
  have HR := Lib.hid h
  have hn := h.le
  obtain ⟨A, c, rfl, _, _, _⟩ := h.open_
  clear h
  have HH := Lib.hid (rules_head jobs l)
  rw [← HL.out] at HH
  have HRF := Lib.hid (rule_fst jobs)
  generalize hB : (decide (jobs < 1) || decide (24 < jobs)) = B1 at *
  have HB := Lib.hid hB
  obtain ⟨E, hE⟩ : ∃ E, fst [whenE B1 3, whenE (decide (256 < (n : Int))) 5] = E := ⟨_, rfl⟩
  have HE := Lib.hid hE
  rw [hE] at HH
  clear hE hB
  go_enter Try.func14, Try.ntmps14
  have hb0 : ∀ o, Below W.heap.size W (W.alloc o) := fun o => (Below.refl _ _).alloc (Nat.le_refl _) o
  by_cases h0 : E = 0
  case neg =>
    have hE' : (E != 0) = true := by simpa using h0
    rw [if_neg h0] at HH
    clear h0
    go_wp2_with (first | (go_at_call 19; refine (outside_any _ _ _ _).mono ?_; rintro e w' ⟨rfl, rfl⟩; rw [HB.out]) | (go_at_call 16; refine (when_any _ _ _).mono ?_; rintro e w' ⟨rfl, rfl⟩) | (go_at_call 20; refine (first2 _ _ (whenE B1 3) (whenE (decide (256 < (n : Int))) 5) (by simp) (by simp) (by simp)).mono ?_; rw [HE.out]; rintro e w' ⟨rfl, rfl⟩))
    go_ret
    exact ⟨ret_i64 HH.out.symm, hb0 _⟩
  case pos =>
    rw [if_pos h0] at HH
    subst h0
    go_wp2_with (first | (go_at_call 19; refine (outside_any _ _ _ _).mono ?_; rintro e w' ⟨rfl, rfl⟩; rw [HB.out]) | (go_at_call 16; refine (when_any _ _ _).mono ?_; rintro e w' ⟨rfl, rfl⟩) | (go_at_call 20; refine (first2 _ _ (whenE B1 3) (whenE (decide (256 < (n : Int))) 5) (by simp) (by simp) (by simp)).mono ?_; rw [HE.out]; rintro e w' ⟨rfl, rfl⟩))
    go_loopw [23] (fun i w' => ∃ k : Nat, k ≤ n ∧ i = .int .i64 k ∧ Below W.heap.size W w' ∧ Hid (eachF (fun _ r => ruleE jobs r) k (l.drop k) = eachF (fun _ r => ruleE jobs r) 0 l)) (fun i _ => n - (intOf i).toNat)
    case atStart => exact ⟨0, Nat.zero_le _, rfl, hb0 _, rfl⟩
    case round =>
      obtain ⟨k, hk, rfl, hbw, he⟩ := hrel
      clear hb0
      by_cases hlt : k < n
      · obtain ⟨b, o, x, hA, hx, c0, c1, c2⟩ := (HR.out.below hbw).elem3 (k := k) (fun s : RI => .int .i64 s.fr) (fun s : RI => .int .i64 s.to) (fun s : RI => .int .i64 s.le) (fun _ => rfl) hlt
        subst hA
        have HX := Lib.hid hx
        have HBW := Lib.hid hbw
        clear hx hbw
        go_wp2_with fail
        have HBAD : Hid (ruleE jobs x ≠ 0 → rulesE jobs l = ruleE jobs x) := fun h0 => by
          rw [HH.out, ← eachF_stop (f := fun _ r => ruleE jobs r) HX.out h0 he.out]
        have HGO : Hid (ruleE jobs x = 0 → eachF (fun _ r => ruleE jobs r) (k + 1) (l.drop (k + 1)) = eachF (fun _ r => ruleE jobs r) 0 l) := fun h0 => eachF_go (f := fun _ r => ruleE jobs r) HX.out (by simpa using h0) he.out
        obtain ⟨T1, hT1⟩ : ∃ T, (decide (x.fr < 0) || decide (jobs - 1 < x.fr)) = T := ⟨_, rfl⟩
        obtain ⟨T2, hT2⟩ : ∃ T, (decide (x.to < 0) || decide (jobs - 1 < x.to)) = T := ⟨_, rfl⟩
        obtain ⟨T3, hT3⟩ : ∃ T, (decide (x.le < -10000) || decide (10000 < x.le)) = T := ⟨_, rfl⟩
        have HF := HRF.out x
        rw [hT1, hT2, hT3] at HF
        have HF := Lib.hid HF
        have HO1 : Hid (∀ w, Calls Try.prog 19 #[.int .i64 x.fr, .int .i64 0, .int .i64 (jobs - 1)] w fun r w' => r = .returned (.bool T1) ∧ w = w') := fun w => by rw [← hT1]; exact outside_any _ _ _ w
        have HO2 : Hid (∀ w, Calls Try.prog 19 #[.int .i64 x.to, .int .i64 0, .int .i64 (jobs - 1)] w fun r w' => r = .returned (.bool T2) ∧ w = w') := fun w => by rw [← hT2]; exact outside_any _ _ _ w
        have HO3 : Hid (∀ w, Calls Try.prog 19 #[.int .i64 x.le, .int .i64 (-10000), .int .i64 10000] w fun r w' => r = .returned (.bool T3) ∧ w = w') := fun w => by rw [← hT3]; exact outside_any _ _ _ w
        clear hT1 hT2 hT3 HRF c0 c1 c2 he
        refine wp_cls 17 (fun w' => Below W.heap.size W w' ∧ w'.cell? ⟨wr.heap.size, 0, none⟩ = some (.int .i64 x.fr) ∧ w'.cell? ⟨wr.heap.size, 1, none⟩ = some (.int .i64 x.to) ∧ w'.cell? ⟨wr.heap.size, 2, none⟩ = some (.int .i64 x.le)) (by kernel_rfl) (by kernel_rfl)
          ⟨(HBW.out.alloc HBW.out.size _).drew, by simp, by simp, by simp⟩ ?_
        simp only [List.take_succ_cons, List.take_zero, List.drop_succ_cons, List.drop_zero]
        generalize hK : (fun w' => Below W.heap.size W w' ∧ w'.cell? ⟨wr.heap.size, 0, none⟩ = some (.int .i64 x.fr) ∧ w'.cell? ⟨wr.heap.size, 1, none⟩ = some (.int .i64 x.to) ∧ w'.cell? ⟨wr.heap.size, 2, none⟩ = some (.int .i64 x.le)) = K
        intro hne
        have kb : ∀ y : Wd K, Below W.heap.size W y.w := by subst hK; exact fun y => y.h.1
        have k0 : ∀ y : Wd K, y.w.cell? ⟨wr.heap.size, 0, none⟩ = some (.int .i64 x.fr) := by subst hK; exact fun y => y.h.2.1
        have k1 : ∀ y : Wd K, y.w.cell? ⟨wr.heap.size, 1, none⟩ = some (.int .i64 x.to) := by subst hK; exact fun y => y.h.2.2.1
        have k2 : ∀ y : Wd K, y.w.cell? ⟨wr.heap.size, 2, none⟩ = some (.int .i64 x.le) := by subst hK; exact fun y => y.h.2.2.2
        clear hK
        generalize ruleE jobs x = E2 at *
        cases T1
        all_goals
          iterate 4 (go_big_quiet_step ((fail)))
          go_big_quiet_step ((go_at_call 19; exact cls_same (HO1.out _)))
          iterate 5 (go_big_quiet_step ((fail)))
          go_big_quiet_step ((go_at_call 19; exact cls_same (HO2.out _)))
          iterate 1 (go_big_quiet_step ((fail)))
          go_big_quiet_step ((go_at_call 16; exact cls_same (when_any _ _ _)))
          iterate 2 (go_big_quiet_step ((fail)))
          go_big_quiet_step ((go_at_call 19; exact cls_same (HO3.out _)))
          go_big_quiet_step ((go_at_call 16; exact cls_same (when_any _ _ _)))
          refine wpQuiet_nil ?_
          intro y
          have hb := kb y
          have HHB := Lib.hid hb
          clear k0 k1 k2 kb hb
          simp only [Bool.true_or, Bool.false_or] at HF
        · by_cases hz : E2 = 0
          · subst hz
            have HG := Lib.hid (HGO.out rfl)
            clear HGO HBAD
            go_wp2_with (go_at_call 20; refine (first2 _ _ (whenE T2 10) (whenE T3 3) (by simp) (by simp) (by simp)).mono ?_; rw [HF.out]; rintro e w' ⟨rfl, rfl⟩)
            go_roundw
            case rel => exact ⟨k + 1, by omega, by go_num, HHB.out.alloc HHB.out.size _, HG.out⟩
            case measure => simp [intOf]; omega
          · have hz' : (E2 != 0) = true := by simpa using hz
            have HB2 := Lib.hid (HBAD.out hz)
            clear HGO HBAD hz
            go_wp2_with (go_at_call 20; refine (first2 _ _ (whenE T2 10) (whenE T3 3) (by simp) (by simp) (by simp)).mono ?_; rw [HF.out]; rintro e w' ⟨rfl, rfl⟩)
            go_ret
            exact ⟨ret_i64 HB2.out.symm, HHB.out.alloc HHB.out.size _⟩
        · by_cases hz : E2 = 0
          · subst hz
            have HG := Lib.hid (HGO.out rfl)
            clear HGO HBAD
            go_wp2_with (go_at_call 20; refine (first2 _ _ (whenE true 10) (whenE T3 3) (by simp) (by simp) (by simp)).mono ?_; rw [HF.out]; rintro e w' ⟨rfl, rfl⟩)
            go_roundw
            case rel => exact ⟨k + 1, by omega, by go_num, HHB.out.alloc HHB.out.size _, HG.out⟩
            case measure => simp [intOf]; omega
          · have hz' : (E2 != 0) = true := by simpa using hz
            have HB2 := Lib.hid (HBAD.out hz)
            clear HGO HBAD hz
            go_wp2_with (go_at_call 20; refine (first2 _ _ (whenE true 10) (whenE T3 3) (by simp) (by simp) (by simp)).mono ?_; rw [HF.out]; rintro e w' ⟨rfl, rfl⟩)
            go_ret
            exact ⟨ret_i64 HB2.out.symm, HHB.out.alloc HHB.out.size _⟩
      · go_wp2
        go_ret
        have e : k = n := by omega
        refine ⟨ret_i64 ?_, hbw⟩
        have := he.out
        rw [List.drop_eq_nil_of_le (by rw [← HL.out]; omega)] at this
        rw [HH.out, ← this]; rfl
end Go.Proofs.Ythgkngngmjonkaa
/- Least days of jobs (plain): what stands in memory while passes run. -/
namespace Go.Plan
/-- m: steps done so far -/
structure RSok (n len : Nat) (m : Nat) (s : RS) : Prop where
  d0 : ∀ x, 0 ≤ s.days x
  d1 : ∀ x, s.days x ≤ 10000 * m
  last : ∀ k, s.last = some k → k < n
  by_ : ∀ x q, s.by_ x = some q → q < len
theorem rsok_start (n len : Nat) : RSok n len 0 start := ⟨fun _ => Int.le_refl _, fun _ => Int.le_refl _, (fun _ h => by cases h), (fun _ _ h => by cases h)⟩
theorem RSok.none_ {n len m : Nat} {s : RS} (h : RSok n len m s) : RSok n len m ⟨s.days, s.by_, none⟩ := ⟨h.d0, h.d1, (fun _ h => by cases h), h.by_⟩
theorem RSok.step {n len m i : Nat} {s : RS} {r : RL} (h : RSok n len m s) (hr : r.fr < n ∧ r.to < n) (hi : i < len) (hle : r.le ≤ 10000) : RSok n len (m + 1) (stepR i r s) := by
  unfold stepR
  have h1 := h.d1
  have h0 := h.d0
  split
  · rename_i hc
    refine ⟨fun x => ?_, fun x => ?_, fun k hk => by cases hk; exact hr.2, fun x q hq => ?_⟩
    · show 0 ≤ upd _ _ _ x
      unfold upd; split
      · have := h0 r.to; omega
      · exact h0 x
    · show upd _ _ _ x ≤ _
      unfold upd; split
      · have := h1 r.fr; omega
      · have := h1 x; omega
    · have hq' : updO s.by_ r.to i x = some q := hq
      unfold updO at hq'; split at hq'
      · cases hq'; exact hi
      · exact h.by_ x q hq'
  · exact ⟨h0, fun x => by have := h1 x; omega, h.last, h.by_⟩
/-- the way back, the first steps: each job was raised by a rule -/
theorem back_first {n : Nat} {l : List RL} (hi : In n l) {s : RS} {T : Nat → Nat} {i k : Nat} (h : Inv l (n + 1) i s T) (hk : s.last = some k) (hkn : k < n) :
    ∀ j, j ≤ n → backN l s j k < n ∧ ∃ q r, s.by_ (backN l s j k) = some q ∧ l[q]? = some r := by
  have hT : T k = n + 1 := h.last k hk
  have hT1 : ∀ j, j ≤ n → 1 ≤ T (backN l s j k) := fun j hj => by have := backN_T h j k (by omega); omega
  intro j hj
  refine ⟨?_, ?_⟩
  · cases j with
    | zero => exact hkn
    | succ j =>
      rw [backN_add l s j 1]
      obtain ⟨q, r, h1, h2, _, _⟩ := h.by_ _ (hT1 j (by omega))
      show backR l s (backN l s j k) < n
      rw [backR, h1, Option.getD_some, List.getD_eq_getElem?_getD, h2, Option.getD_some]
      exact (hi r (List.mem_of_getElem? h2)).1
  · obtain ⟨q, r, h1, h2, _, _⟩ := h.by_ _ (hT1 j hj)
    exact ⟨q, r, h1, h2⟩
theorem backR_at {l : List RL} {s : RS} {x q : Nat} {r : RL} (h1 : s.by_ x = some q) (h2 : l[q]? = some r) : backR l s x = r.fr := by
  rw [backR, h1, Option.getD_some, List.getD_eq_getElem?_getD, h2, Option.getD_some]
theorem backN_succ (l : List RL) (s : RS) (j x : Nat) : backN l s (j + 1) x = backR l s (backN l s j x) := by
  rw [backN_add l s j 1]; rfl
def byF (s : RS) (x : Nat) : Int := ((s.by_ x).getD 0 : Nat)
def lastI (s : RS) : Int := match s.last with
  | none => -1
  | some k => (k : Int)
theorem lastI_neg (s : RS) : lastI s < 0 ↔ s.last = none := by
  unfold lastI
  cases s.last with
  | none => simp
  | some k => simp
def daysV (n : Nat) (d : Nat → Int) : List Value := (List.range n).map fun x => Value.int .i64 (d x)
theorem daysV_len (n : Nat) (d : Nat → Int) : (daysV n d).length = n := by simp [daysV]
theorem daysV_at {n : Nat} {d : Nat → Int} {k : Nat} (h : k < n) : (daysV n d)[k]? = some (.int .i64 (d k)) := by
  rw [daysV, List.getElem?_map, List.getElem?_range h]; rfl
theorem daysV_set {n : Nat} {d : Nat → Int} {k : Nat} (h : k < n) (v : Int) : (daysV n d).set k (.int .i64 v) = daysV n (upd d k v) := by
  refine List.ext_getElem? fun j => ?_
  by_cases hj : j < n
  · rw [daysV_at hj]
    by_cases e : k = j
    · subst e; rw [List.getElem?_set_self (by rw [daysV_len]; exact h), upd, if_pos rfl]
    · rw [List.getElem?_set_ne e, daysV_at hj, upd, if_neg (by omega)]
  · rw [List.getElem?_eq_none (by simp [daysV_len]; omega), List.getElem?_eq_none (by simp [daysV_len]; omega)]
theorem daysV_zero (n : Nat) : List.replicate n (Value.int .i64 0) = daysV n (fun _ => 0) := by
  refine List.ext_getElem? fun j => ?_
  by_cases hj : j < n
  · rw [daysV_at hj, List.getElem?_replicate, if_pos hj]
  · rw [List.getElem?_eq_none (by simp; omega), List.getElem?_eq_none (by simp [daysV_len]; omega)]
theorem daysV_ext {n : Nat} {d e : Nat → Int} (h : ∀ x, x < n → d x = e x) : daysV n d = daysV n e := by
  refine List.ext_getElem? fun j => ?_
  by_cases hj : j < n
  · rw [daysV_at hj, daysV_at hj, h j hj]
  · rw [List.getElem?_eq_none (by simp [daysV_len]; omega), List.getElem?_eq_none (by simp [daysV_len]; omega)]
def RL.cells (r : RL) : List Value := [.int .i64 r.fr, .int .i64 r.to, .int .i64 r.le]
def RI.rl (r : RI) : RL := ⟨r.fr.toNat, r.to.toNat, r.le⟩
theorem eachF_all {α : Type} {f : α → Int} : ∀ {l : List α} {k : Nat}, Go.Sheet.eachF (fun _ r => f r) k l = 0 → ∀ r ∈ l, f r = 0
  | [], _, _ => fun _ h => by cases h
  | x :: l, k, h => fun r hr => by
    rw [Go.Sheet.eachF] at h
    by_cases h0 : f x ≠ 0
    · rw [if_pos h0] at h; exact absurd h h0
    · rw [if_neg h0] at h
      rcases List.mem_cons.1 hr with rfl | hr
      · simpa using h0
      · exact eachF_all h r hr
theorem rules_ok {n : Nat} {l : List RI} (h : rulesE n l = 0) : (1 ≤ n ∧ n ≤ 24) ∧ l.length ≤ 256 ∧ (∀ r ∈ l, (0 ≤ r.fr ∧ r.fr < n) ∧ (0 ≤ r.to ∧ r.to < n) ∧ -10000 ≤ r.le ∧ r.le ≤ 10000) := by
  unfold rulesE at h
  split at h
  · cases h
  · rename_i h1
    split at h
    · cases h
    · rename_i h2
      refine ⟨by omega, by omega, fun r hr => ?_⟩
      have := eachF_all h r hr
      unfold ruleE at this
      split at this
      · cases this
      · rename_i h3
        split at this
        · cases this
        · omega
theorem rules_in {n : Nat} {l : List RI} (h : rulesE n l = 0) : In n (l.map RI.rl) := fun r hr => by
  obtain ⟨q, hq, rfl⟩ := List.mem_map.1 hr
  have := (rules_ok h).2.2 q hq
  show q.fr.toNat < n ∧ q.to.toNat < n
  omega
theorem rules_le {n : Nat} {l : List RI} (h : rulesE n l = 0) : ∀ r ∈ l.map RI.rl, -10000 ≤ r.le ∧ r.le ≤ 10000 := fun r hr => by
  obtain ⟨q, hq, rfl⟩ := List.mem_map.1 hr
  exact ((rules_ok h).2.2 q hq).2.2
theorem flatMap_same {α β : Type} {f : α → List Value} {g : β → List Value} {h : α → β} : ∀ {l : List α}, (∀ q ∈ l, f q = g (h q)) → l.flatMap f = (l.map h).flatMap g
  | [], _ => rfl
  | x :: l, hs => by
    rw [List.flatMap_cons, List.map_cons, List.flatMap_cons, hs x (List.mem_cons_self ..), flatMap_same (fun q hq => hs q (List.mem_cons_of_mem _ hq))]
theorem rules_cells {n : Nat} {l : List RI} (h : rulesE n l = 0) : l.flatMap RI.cells = (l.map RI.rl).flatMap RL.cells := by
  have := (rules_ok h).2.2
  refine flatMap_same fun q hq => ?_
  have h1 := this q hq
  show [_, _, _] = [_, _, _]
  rw [show ((q.rl.fr : Nat) : Int) = q.fr from by show ((q.fr.toNat : Nat) : Int) = _; omega, show ((q.rl.to : Nat) : Int) = q.to from by show ((q.to.toNat : Nat) : Int) = _; omega]
  rfl
end Go.Plan
/- A map of ints to ints that the call has made, as an assertion. -/
namespace Go.Mem
open Go.RowKit Go.Maps
/-- block b is a map from ints to ints of at most m entries; at x lies f x (0 where nothing was stored) -/
def mapA (P : Program) (K E : TypeId) (b m : Nat) (f : Nat → Int) : Asr where
  holds w F := (∃ D : DataW Unit, w.ownsMap P K (plainElem P E) b m D ∧ IsMap D ∧ ∀ x : Nat, D.atKey (.int .i64 x) (.lit (.int .i64 0)) = .lit (.int .i64 (f x))) ∧ F b
  loc := by
    rintro w w' F ⟨⟨D, ⟨es, clock, hb, h2⟩, h3, h4⟩, hF⟩ hs hk
    exact ⟨⟨D, ⟨es, clock, (hk b hF).trans hb, h2⟩, h3, h4⟩, hF⟩
  mono := fun ⟨h, hF⟩ hh => ⟨h, hh _ hF⟩
theorem St.map_new {W w : World} {L : List Asr} (h : St W w L) (P : Program) (K E : TypeId) : St W (w.alloc (.map #[] 0)) (L ++ [mapA P K E w.heap.size 0 (fun _ => 0)]) :=
  h.push (F := fun b => b = w.heap.size) ((Below.refl _ _).alloc (Nat.le_refl _) _) ⟨⟨.map [], World.ownsMap_made _ _ _ _, isMap_empty, fun _ => rfl⟩, rfl⟩ (fun b hb => by subst hb; simp)
theorem wpList_lookup_st {P : Program} {W w : World} {L : List Asr} {i : Nat} {ops : Array Oper} {rest : List Oper} {o : Oper} {a : Act} {Q : Exit → Act → World → Prop}
    (hg : o.guard = none) (m x : Operand) (t : TypeId) (hop : o.op = Op.lookup t m x false)
    (k e : TypeId) (hk : P.underlying k = some (.int .i64)) (ht : P.underlying t = some (.map k e)) (he : P.underlying e = some (.int .i64)) (hz : ∀ w, (zeroValue e).run P w = .ok (.int .i64 0) w)
    {b c : Nat} {f : Nat → Int} (S : St W w L) (hi : L[i]? = some (mapA P k e b c f)) (hm : a.eval m = .map (some b)) (key : Nat) (hx : a.eval x = .int .i64 (key : Int)) (h63 : key ≤ 1000000)
    (hK : wpList P ops Q rest (a.put o.dst (.int .i64 (f key))) w) : wpList P ops Q (o :: rest) a w := by
  obtain ⟨F, h1, ⟨⟨D, hown, hM, hat⟩, hF⟩⟩ := S.get hi
  refine wpList_lookup_own_int _ hg m x t hop k e .i64 (int_keyed hk) ht he (hz _) b c D hm hown _ _ hx (keyOf_int_mk hk (WalkArith.wf_i64 (by omega))) ?_
  intro c' hc' _
  have := (hat key).symm.trans hc'
  simp only [DataW.lit.injEq, Lit.int.injEq, true_and] at this
  rw [← this]; exact hK
theorem wpList_mapUpdate_st {P : Program} {W w : World} {L : List Asr} {i : Nat} {ops : Array Oper} {rest : List Oper} {o : Oper} {a : Act} {Q : Exit → Act → World → Prop}
    (hg : o.guard = none) (m x v : Operand) (t : TypeId) (hop : o.op = Op.mapUpdate t m x v)
    (k e : TypeId) (hk : P.underlying k = some (.int .i64)) (ht : P.underlying t = some (.map k e)) (he : P.underlying e = some (.int .i64))
    {b c : Nat} {f : Nat → Int} (S : St W w L) (hi : L[i]? = some (mapA P k e b c f)) (hm : a.eval m = .map (some b)) (hc : c ≤ 1000000) (key : Nat) (hx : a.eval x = .int .i64 (key : Int)) (h63 : key ≤ 1000000)
    (val : Int) (hv : a.eval v = .int .i64 val) (hb : -1000000000 ≤ val ∧ val ≤ 1000000000)
    (hK : ∀ w', St W w' (L.set i (mapA P k e b (c + 1) (fun j => if j = key then val else f j))) → wpList P ops Q rest (a.put o.dst undef) w') : wpList P ops Q (o :: rest) a w := by
  obtain ⟨F1, h1, ⟨⟨D, hown, hM, hat⟩, hF⟩, h3⟩ := S.upd hi
  have hwf : (Lit.int .i64 (key : Int)).wf = true := WalkArith.wf_i64 (by omega)
  refine wpList_mapUpdate_own _ hg m x v t hop k e (int_keyed hk) ht _ b c D hm hown (by unfold maxLen; omega) _ _ _ hx hv (keyOf_int_mk hk hwf) _ [] (plainElem_int he (WalkArith.wf_i64 (by omega))) ?_
  intro w' hown' hg'
  refine hK w' (h3 w' _ F1 (some b) ⟨⟨_, hown', hM.put _ _, fun y => ?_⟩, hF⟩ hg' (fun g hg => by cases hg; exact hF) (fun b hb => .inl hb))
  show _ = DataW.lit (.int .i64 (if y = key then val else f y))
  by_cases hy : y = key
  · subst hy
    rw [if_pos rfl]
    exact atKey_put_same hM (by trivial) _ _
  · rw [if_neg hy, atKey_put_other (by intro e; simp only [Lit.int.injEq, true_and] at e; omega)]
    exact hat y
end Go.Mem
/-
  DERIVED: THE SHELF's CONTRACTS AT THIS DUMP, IN PLAIN WORDS (tools/lay-plain.mjs out of 'TryShelf.lean', which tools/lay-shelf.mjs wrote): THE SAME DECLARATIONS UNDER THE SAME NAMES: 'import', 'namespace', 'open', 'def', 'theorem' AND NOTHING ELSE: no command of the shelf's: FOR A HAND-IN. Each laying: the table of numbers ('.._ren') and one theorem, a field a fact of the dump's own or the kernel's comparison; each contract: ONE APPLICATION.
-/
namespace Go.Proofs
open Go.Shelf
def Try.lays112_ren : Go.Shelf.Ren := ⟨fun | 112 => 29 | n => n, fun | 28 => 23 | 3 => 3 | 4 => 4 | 0 => 0 | n => n, fun | n => n⟩
theorem Try.lays112 : Go.Proofs.Lays.n112 Try.prog Try.lays112_ren := {
  mixed := by kernel_rfl
  f112 := Try.func29.trans (congrArg some (by kernel_rfl))
  t0 := Try.underlying0
  a0 := Try.isAgg0
  z0 := Try.sizeOf0
  v0 := Try.zeroValue0
  t3 := Try.underlying3
  a3 := Try.isAgg3
  z3 := Try.sizeOf3
  v3 := Try.zeroValue3
  t4 := Try.underlying4
  a4 := Try.isAgg4
  z4 := Try.sizeOf4
  v4 := Try.zeroValue4
  t28 := Try.underlying23
  a28 := Try.isAgg23
  z28 := Try.sizeOf23
  v28 := Try.zeroValue23 }
open Go.RowKit Go.Lib Go.Sort in
/-- slices.Reverse at []int, over an array: Go's loop from the two ends inward is walked; it makes 'Sort.reverseLoop 0 (len - 1)', which is 'Array.reverse' (Derived/Lib/SlicesMore.lean). (LAID: no walk: one application.) -/
theorem Try.slices_Reverse_int_arr (blk off cap : Nat) (d : Array Int) (w : World) (hH : Holds encI w blk off d) (hsz : d.size ≤ 9223372036854775807) :
    Calls Try.prog 29 #[.slice (some ⟨blk, off, none⟩) d.size cap] w fun e w' => e = .returned (.tuple #[]) ∧ ∃ n, w' = putRow encI (Sort.ahead w n) blk off d.reverse := Any.slices_Reverse_int_arr Try.lays112 blk off cap d w hH hsz
open Go.RowKit Go.Lib Go.Sort in
/-- slices.Reverse at []int: "Reverse reverses the elements of the slice in place.": THE SLICE's CELLS HOLD 'zs.reverse' BEHIND THE CALL; all else is as it was, but for the count of draws (the exchange 's[i], s[j] = s[j], s[i]' draws its order, once a round). IN THE WORDS OF slices.Sort's CONTRACT: 'Holds': the cells hold zs and none is frozen; 'putRow': the world with those cells holding another array. A slice of length 0 that is not nil is among them ('zs = []'); nil: '.._nil'. (LAID: no walk: one application.) -/
theorem Try.slices_Reverse_int (blk off cap : Nat) (zs : List Int) (w : World) (hH : Holds (Value.int .i64) w blk off zs.toArray) (hsz : zs.length ≤ 9223372036854775807) :
    Calls Try.prog 29 #[.slice (some ⟨blk, off, none⟩) zs.length cap] w fun e w' => e = .returned (.tuple #[]) ∧ ∃ n, w' = putRow (Value.int .i64) (Sort.ahead w n) blk off zs.reverse.toArray := Any.slices_Reverse_int Try.lays112 blk off cap zs w hH hsz
open Go.RowKit Go.Lib Go.Sort in
/-- The same at a slice of length 0, a nil one too: nothing is read, nothing written, nothing drawn. (LAID: no walk: one application.) -/
theorem Try.slices_Reverse_int_empty (a : Option Addr) (cap : Nat) (w : World) :
    Calls Try.prog 29 #[.slice a 0 cap] w fun e w' => e = .returned (.tuple #[]) ∧ w' = w := Any.slices_Reverse_int_empty Try.lays112 a cap w
def Try.laysNm215_ren : Go.Shelf.Ren := ⟨fun | 15 => 31 | n => n, fun | 22 => 23 | 3 => 3 | 4 => 4 | n => n, fun | n => n⟩
theorem Try.laysNm215 : Go.Proofs.Lays2.n15 Try.prog Try.laysNm215_ren := {
  mixed := by kernel_rfl
  f15 := Try.func31.trans (congrArg some (by kernel_rfl))
  t3 := Try.underlying3
  a3 := Try.isAgg3
  z3 := Try.sizeOf3
  v3 := Try.zeroValue3
  t4 := Try.underlying4
  a4 := Try.isAgg4
  z4 := Try.sizeOf4
  v4 := Try.zeroValue4
  t22 := Try.underlying23
  a22 := Try.isAgg23
  z22 := Try.sizeOf23
  v22 := Try.zeroValue23
  i3 := by kernel_rfl }
open Go.RowKit Go.Lib in
/-- slices.Clone at []int: "Clone returns a copy of the slice. The elements are copied using assignment, so this is a shallow clone. The result may have additional unused capacity. The result preserves the nilness of s.": OF A SLICE THAT IS NOT nil IT RETURNS A SLICE THAT IS NOT nil, OF THE SAME ELEMENTS, IN MEMORY OF THE CALL's OWN: in the how-to's words (6f): 'w'.ownsRow B e 1 v' n cells': v' begins at the head of a row among the blocks from B on (B: the heap's size at the call), not frozen, whose first cells are the elements · 'Below B w w'': below B all is as it was. The capacity is whatever the run-time gives. 'zs': what the cells behind the slice's address hold; 'zs.take n': its elements. (LAID: no walk: one application.) -/
theorem Try.slices_Clone_int (b off n c : Nat) (zs : List Int) (w : World) (hz : n ≤ zs.length) (hbig : n * 8 ≤ 140737488355328) (hc : ∀ j, j < zs.length → w.cell? ⟨b, off + j, none⟩ = some (.int .i64 (zs.getD j 0))) :
    Calls Try.prog 31 #[.slice (some ⟨b, off, none⟩) n c] w fun e w' => ∃ v', e = .returned v' ∧ w'.ownsRow w.heap.size 3 1 v' n ((zs.take n).map (Value.int .i64)) ∧ v' ≠ .slice none 0 0 ∧ Below w.heap.size w w' := Any.slices_Clone_int Try.laysNm215 b off n c zs w hz hbig hc
open Go.RowKit Go.Lib in
/-- The same at nil: nil comes back; the world is as it was. (LAID: no walk: one application.) -/
theorem Try.slices_Clone_int_nil (n c : Nat) (w : World) :
    Calls Try.prog 31 #[.slice none n c] w fun e w' => e = .returned (.slice none 0 0) ∧ w' = w := Any.slices_Clone_int_nil Try.laysNm215 n c w
open Go.RowKit Go.Lib in
/-- The same at a slice of length 0 that is not nil, WHATEVER ITS ADDRESS (no cell is asked for): a slice that is not nil and owns nothing comes back. (LAID: no walk: one application.) -/
theorem Try.slices_Clone_int_zero (a : Addr) (c : Nat) (w : World) :
    Calls Try.prog 31 #[.slice (some a) 0 c] w fun e w' => ∃ v', e = .returned v' ∧ w'.ownsRow w.heap.size 3 1 v' 0 [] ∧ v' ≠ .slice none 0 0 ∧ Below w.heap.size w w' := Any.slices_Clone_int_zero Try.laysNm215 a c w
open Go.RowKit Go.Lib Go.Sort in
/-- slices.Reverse at []int, of an argument: the n cells hold the elements in reverse. (LAID: no walk: one application.) -/
theorem Try.slices_Reverse_int_cells (b off n c : Nat) (zs : List Int) (w : World) (hz : n ≤ zs.length) (hbig : n ≤ 9223372036854775807) (hc : ∀ j, j < zs.length → w.cell? ⟨b, off + j, none⟩ = some (.int .i64 (zs.getD j 0))) (hf : ∀ j, j < n → w.frozen? ⟨b, off + j, none⟩ = false) :
    Calls Try.prog 29 #[.slice (some ⟨b, off, none⟩) n c] w fun e w' => e = .returned (.tuple #[]) ∧ ∃ q, w' = (w.drewN q).setCells b off ((zs.take n).reverse.map (Value.int .i64)) := Any.slices_Reverse_int_cells Try.lays112 b off n c zs w hz hbig hc hf
end Go.Proofs
