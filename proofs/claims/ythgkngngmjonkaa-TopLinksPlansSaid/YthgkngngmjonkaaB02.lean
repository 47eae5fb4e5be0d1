/- Part 2 of the walks of the golf union's program: J2, J3, J4, KB. -/
import Derived.Test.YthgkngngmjonkaaB01
set_option linter.unusedVariables false
set_option linter.unusedSimpArgs false
set_option linter.unusedSectionVars false
set_option linter.constructorNameAsVariable false
/- Least days of jobs (plain): if any days fit, as many passes as jobs find the least ones. -/
namespace Go.Plan
def roundR (l : List RL) (s : RS) : RS := passR 0 l ⟨s.days, s.by_, none⟩
def itR (l : List RL) : Nat → RS → RS
  | 0, s => s
  | t + 1, s => itR l t (roundR l s)
theorem itR_succ (l : List RL) : ∀ (t : Nat) (s : RS), itR l (t + 1) s = roundR l (itR l t s)
  | 0, _ => rfl
  | t + 1, s => by rw [itR, itR_succ l t (roundR l s)]; rfl
theorem pass_rise {n : Nat} : ∀ (l : List RL) (i : Nat) (s : RS), In n l → s.last = none → (passR i l s).last ≠ none → ∃ x, x < n ∧ s.days x < (passR i l s).days x
  | [], _, _ => fun _ h0 h => absurd h0 h
  | r :: l, i, s => fun hi h0 h => by
    by_cases hc : s.days r.to < s.days r.fr + r.le
    · refine ⟨r.to, (hi r (List.mem_cons_self ..)).2, ?_⟩
      have h1 := pass_ge l (i + 1) (stepR i r s) r.to
      have h2 : s.days r.to < (stepR i r s).days r.to := by
        simp only [stepR, if_pos hc]; show _ < upd _ _ _ _; unfold upd; rw [if_pos rfl]; exact hc
      rw [passR]; omega
    · have e : stepR i r s = s := by simp only [stepR, if_neg hc]
      rw [passR, e] at h ⊢
      exact pass_rise l (i + 1) s (fun q hq => hi q (List.mem_cons_of_mem _ hq)) h0 h
theorem pass_fits {n : Nat} : ∀ (l : List RL) (i : Nat) (s : RS), In n l → Fits n l s.days → passR i l s = s
  | [], _, _ => fun _ _ => rfl
  | r :: l, i, s => fun hi hf => by
    have hr := hi r (List.mem_cons_self ..)
    have e : stepR i r s = s := by
      have := hf r (List.mem_cons_self ..) hr.1 hr.2
      unfold stepR
      rw [if_neg (by omega)]
    rw [passR, e]
    exact pass_fits l (i + 1) s (fun q hq => hi q (List.mem_cons_of_mem _ hq)) (fun q hq => hf q (List.mem_cons_of_mem _ hq))
theorem round_le {n : Nat} {l : List RL} {d : Nat → Int} (hi : In n l) (hf : Fits n l d) {s : RS} (h : ∀ x, x < n → s.days x ≤ d x) : ∀ x, x < n → (roundR l s).days x ≤ d x := pass_le l 0 _ hi hf h
theorem round_ge (l : List RL) (s : RS) (x : Nat) : s.days x ≤ (roundR l s).days x := pass_ge l 0 ⟨s.days, s.by_, none⟩ x
theorem it_le {n : Nat} {l : List RL} {d : Nat → Int} (hi : In n l) (hf : Fits n l d) : ∀ (t : Nat) (s : RS), (∀ x, x < n → s.days x ≤ d x) → ∀ x, x < n → (itR l t s).days x ≤ d x
  | 0, _ => fun h => h
  | t + 1, s => fun h => it_le hi hf t (roundR l s) (round_le hi hf h)
theorem it_ge (l : List RL) : ∀ (t : Nat) (s : RS) (x : Nat), s.days x ≤ (itR l t s).days x
  | 0, _, _ => Int.le_refl _
  | t + 1, s, x => Int.le_trans (round_ge l s x) (it_ge l t (roundR l s) x)
/-- what is left between the days and others -/
def gapL (d e : Nat → Int) : List Nat → Nat
  | [] => 0
  | x :: l => (d x - e x).toNat + gapL d e l
theorem gapL_mono {d e e' : Nat → Int} : ∀ (l : List Nat), (∀ x ∈ l, e x ≤ e' x) → gapL d e' l ≤ gapL d e l
  | [], _ => Nat.le_refl _
  | x :: l, h => by
    have h1 := h x (List.mem_cons_self ..)
    have h2 := gapL_mono (d := d) l (fun y hy => h y (List.mem_cons_of_mem _ hy))
    simp only [gapL]; omega
theorem gapL_lt {d e e' : Nat → Int} {k : Nat} (hk : e k < e' k) (hd : e' k ≤ d k) : ∀ (l : List Nat), k ∈ l → (∀ x ∈ l, e x ≤ e' x) → gapL d e' l < gapL d e l
  | [], hm, _ => by cases hm
  | x :: l, hm, h => by
    have h1 := h x (List.mem_cons_self ..)
    have h2 := gapL_mono (d := d) l (fun y hy => h y (List.mem_cons_of_mem _ hy))
    rcases List.mem_cons.1 hm with rfl | hm
    · simp only [gapL]; omega
    · have h3 := gapL_lt hk hd l hm (fun y hy => h y (List.mem_cons_of_mem _ hy))
      simp only [gapL]; omega
/-- where any days fit, some count of passes comes to an end -/
theorem it_stops {n : Nat} {l : List RL} {d : Nat → Int} (hi : In n l) (hf : Fits n l d) : ∀ (m : Nat) (s : RS), (∀ x, x < n → s.days x ≤ d x) → gapL d s.days (List.range n) ≤ m → ∃ t, (roundR l (itR l t s)).last = none := by
  intro m
  induction m with
  | zero =>
    intro s h hg
    refine ⟨0, Classical.byContradiction fun hn => ?_⟩
    obtain ⟨x, hx, hlt⟩ := pass_rise (n := n) l 0 ⟨s.days, s.by_, none⟩ hi rfl hn
    have := gapL_lt (d := d) hlt (round_le hi hf h x hx) (List.range n) (List.mem_range.2 hx) (fun y _ => round_ge l s y)
    have h0 : gapL d s.days (List.range n) = 0 := by omega
    change gapL d _ _ < gapL d s.days _ at this
    omega
  | succ m ih =>
    intro s h hg
    by_cases hn : (roundR l s).last = none
    · exact ⟨0, hn⟩
    · obtain ⟨x, hx, hlt⟩ := pass_rise (n := n) l 0 ⟨s.days, s.by_, none⟩ hi rfl hn
      have := gapL_lt (d := d) hlt (round_le hi hf h x hx) (List.range n) (List.mem_range.2 hx) (fun y _ => round_ge l s y)
      change gapL d _ _ < gapL d s.days _ at this
      obtain ⟨t, ht⟩ := ih (roundR l s) (round_le hi hf h) (by change gapL d (roundR l s).days _ < _ at this; omega)
      exact ⟨t + 1, ht⟩
/-- the least days -/
structure Least (n : Nat) (l : List RL) (D : Nat → Int) : Prop where
  fits : Fits n l D
  nonneg : ∀ x, x < n → 0 ≤ D x
  least : ∀ d : Nat → Int, Fits n l d → (∀ x, x < n → 0 ≤ d x) → ∀ x, x < n → D x ≤ d x
def start : RS := ⟨fun _ => 0, fun _ => none, none⟩
theorem least_of {n : Nat} {l : List RL} (hi : In n l) {t : Nat} (h : (roundR l (itR l t start)).last = none) : Least n l (itR l t start).days := by
  obtain ⟨_, h2⟩ := pass_still (n := n) l 0 ⟨(itR l t start).days, (itR l t start).by_, none⟩ rfl h
  exact ⟨h2, fun x _ => it_ge l t start x, fun d hd h0 x hx => it_le hi hd t start h0 x hx⟩
theorem least_ex {n : Nat} {l : List RL} {d : Nat → Int} (hi : In n l) (hf : Fits n l d) (h0 : ∀ x, x < n → 0 ≤ d x) : ∃ D, Least n l D := by
  obtain ⟨t, ht⟩ := it_stops hi hf _ start h0 (Nat.le_refl _)
  exact ⟨_, least_of hi ht⟩
/-- how many jobs stand at the least days -/
def cntL (p : Nat → Bool) : List Nat → Nat
  | [] => 0
  | x :: l => (if p x then 1 else 0) + cntL p l
theorem cntL_le (p : Nat → Bool) : ∀ l : List Nat, cntL p l ≤ l.length
  | [] => Nat.le_refl _
  | x :: l => by have := cntL_le p l; simp only [cntL, List.length_cons]; split <;> omega
theorem cntL_mono {p q : Nat → Bool} : ∀ l : List Nat, (∀ x ∈ l, p x = true → q x = true) → cntL p l ≤ cntL q l
  | [], _ => Nat.le_refl _
  | x :: l, h => by
    have h1 := cntL_mono l (fun y hy => h y (List.mem_cons_of_mem _ hy))
    have h2 := h x (List.mem_cons_self ..)
    simp only [cntL]
    by_cases hp : p x = true
    · rw [if_pos hp, if_pos (h2 hp)]; omega
    · rw [if_neg hp]; split <;> omega
theorem cntL_lt {p q : Nat → Bool} {k : Nat} (hp : p k = false) (hq : q k = true) : ∀ l : List Nat, k ∈ l → (∀ x ∈ l, p x = true → q x = true) → cntL p l < cntL q l
  | [], hm, _ => by cases hm
  | x :: l, hm, h => by
    have h1 := cntL_mono l (fun y hy => h y (List.mem_cons_of_mem _ hy))
    have h2 := h x (List.mem_cons_self ..)
    rcases List.mem_cons.1 hm with rfl | hm
    · simp only [cntL, hp, hq, if_true]; simp; omega
    · have h3 := cntL_lt hp hq l hm (fun y hy => h y (List.mem_cons_of_mem _ hy))
      simp only [cntL]
      by_cases hp : p x = true
      · rw [if_pos hp, if_pos (h2 hp)]; omega
      · rw [if_neg hp]; split <;> omega
theorem cntL_all {p : Nat → Bool} : ∀ l : List Nat, l.length ≤ cntL p l → ∀ x ∈ l, p x = true
  | [], _, _, hx => by cases hx
  | y :: l, h, x, hx => by
    have h1 := cntL_le p l
    simp only [cntL, List.length_cons] at h
    by_cases hp : p y = true
    · rcases List.mem_cons.1 hx with rfl | hx
      · exact hp
      · rw [if_pos hp] at h; exact cntL_all l (by omega) x hx
    · rw [if_neg hp] at h; omega
/-- each pass brings one more job to its least day -/
theorem it_settles {n : Nat} {l : List RL} {D : Nat → Int} (hi : In n l) (hD : Least n l D) : ∀ t, (∀ x, x < n → (itR l t start).days x = D x) ∨ t ≤ cntL (fun x => decide ((itR l t start).days x = D x)) (List.range n)
  | 0 => .inr (Nat.zero_le _)
  | t + 1 => by
    have hle : ∀ t x, x < n → (itR l t start).days x ≤ D x := fun t => it_le hi hD.fits t start hD.nonneg
    have hge := fun x => round_ge l (itR l t start) x
    rcases it_settles hi hD t with h | h
    · refine .inl fun x hx => ?_
      have h1 := hle (t + 1) x hx
      have h2 := hge x
      rw [itR_succ] at h1 ⊢
      have h3 := h x hx
      omega
    · by_cases ha : ∃ x, x < n ∧ ¬ (itR l t start).days x = D x
      · have hm : ∀ x ∈ List.range n, (decide ((itR l t start).days x = D x)) = true → (decide ((itR l (t + 1) start).days x = D x)) = true := fun x hx h => by
          have h1 := hle (t + 1) x (List.mem_range.1 hx)
          have h2 := hge x
          simp only [decide_eq_true_eq] at h ⊢
          rw [itR_succ] at h1 ⊢
          omega
        have hk : ∃ k, k < n ∧ ¬ (itR l t start).days k = D k ∧ (itR l (t + 1) start).days k = D k := by
          rcases tight_of hi hD.fits hD.nonneg hD.least (fun x => (itR l t start).days x = D x) ha with ⟨x, hx, hs, h0⟩ | ⟨r, hr, hs, ht, he⟩
          · have h1 := hle t x hx
            have h2 := it_ge l t start x
            change 0 ≤ _ at h2
            omega
          · refine ⟨r.to, (hi r hr).2, ht, ?_⟩
            have h1 := hle (t + 1) r.to (hi r hr).2
            have h2 := pass_relaxed l 0 ⟨(itR l t start).days, (itR l t start).by_, none⟩ r hr
            rw [itR_succ] at h1 ⊢
            change (itR l t start).days r.fr + r.le ≤ (roundR l (itR l t start)).days r.to at h2
            omega
        obtain ⟨k, hk, k1, k2⟩ := hk
        have := cntL_lt (p := fun x => decide ((itR l t start).days x = D x)) (q := fun x => decide ((itR l (t + 1) start).days x = D x)) (k := k) (by simpa using k1) (by simpa using k2) (List.range n) (List.mem_range.2 hk) hm
        exact .inr (by omega)
      · refine .inl fun x hx => ?_
        have h3 : (itR l t start).days x = D x := Classical.byContradiction fun hn => ha ⟨x, hx, hn⟩
        have h1 := hle (t + 1) x hx
        have h2 := hge x
        rw [itR_succ] at h1 ⊢
        omega
/-- if any days fit, the pass behind as many as there are jobs raises none -/
theorem fits_stops {n : Nat} {l : List RL} {d : Nat → Int} (hi : In n l) (hf : Fits n l d) (h0 : ∀ x, x < n → 0 ≤ d x) : (roundR l (itR l n start)).last = none := by
  obtain ⟨D, hD⟩ := least_ex hi hf h0
  have hall : ∀ x, x < n → (itR l n start).days x = D x := by
    rcases it_settles hi hD n with h | h
    · exact h
    · intro x hx
      have := cntL_all (List.range n) (by simpa using h) x (List.mem_range.2 hx)
      simpa using this
  have hF : Fits n l (itR l n start).days := fun r hr a b => by rw [hall _ a, hall _ b]; exact hD.fits r hr a b
  rw [roundR, pass_fits (n := n) l 0 ⟨(itR l n start).days, (itR l n start).by_, none⟩ hi hF]
/-- below a day above 0 stands another one, no more than the greatest rule below it -/
theorem least_step {n : Nat} {l : List RL} {D : Nat → Int} {m : Int} (hi : In n l) (hD : Least n l D) (hm : ∀ r ∈ l, r.le ≤ m) {x : Nat} (hx : x < n) (h0 : 0 < D x) : ∃ y, y < n ∧ D y < D x ∧ D x ≤ D y + m := by
  rcases tight_of hi hD.fits hD.nonneg hD.least (fun i => D i < D x) ⟨x, hx, by omega⟩ with ⟨z, hz, hs, he⟩ | ⟨r, hr, hs, ht, he⟩
  · omega
  · have := hm r hr
    exact ⟨r.fr, (hi r hr).1, hs, by omega⟩
theorem least_bound {n : Nat} {l : List RL} {D : Nat → Int} {m : Int} (hi : In n l) (hD : Least n l D) (h0 : 0 ≤ m) (hm : ∀ r ∈ l, r.le ≤ m) : ∀ (k x : Nat), x < n → cntL (fun y => decide (D y < D x)) (List.range n) ≤ k → D x ≤ m * k := by
  intro k
  induction k with
  | zero =>
    intro x hx hk
    rcases Int.lt_or_le 0 (D x) with h | h
    · obtain ⟨y, hy, h1, h2⟩ := least_step hi hD hm hx h
      have := cntL_lt (p := fun _ => false) (q := fun y => decide (D y < D x)) (k := y) rfl (by simpa using h1) (List.range n) (List.mem_range.2 hy) (fun _ _ h => by cases h)
      omega
    · simpa using h
  | succ k ih =>
    intro x hx hk
    have e : m * ((k + 1 : Nat) : Int) = m * k + m := by rw [Int.natCast_add, Int.mul_add]; simp
    rcases Int.lt_or_le 0 (D x) with h | h
    · obtain ⟨y, hy, h1, h2⟩ := least_step hi hD hm hx h
      have := cntL_lt (p := fun z => decide (D z < D y)) (q := fun z => decide (D z < D x)) (k := y) (by simp) (by simpa using h1) (List.range n) (List.mem_range.2 hy) (fun z _ h => by simp only [decide_eq_true_eq] at h ⊢; omega)
      have := ih y hy (by omega)
      omega
    · have : 0 ≤ m * ((k + 1 : Nat) : Int) := Int.mul_nonneg h0 (by omega)
      omega
theorem least_le {n : Nat} {l : List RL} {D : Nat → Int} {m : Int} (hi : In n l) (hD : Least n l D) (h0 : 0 ≤ m) (hm : ∀ r ∈ l, r.le ≤ m) {x : Nat} (hx : x < n) : D x ≤ m * n :=
  least_bound hi hD h0 hm n x hx (by have := cntL_le (fun y => decide (D y < D x)) (List.range n); simpa using this)
end Go.Plan
/- Least days of jobs (plain): the way back along the rules that raised a job last comes back to itself. -/
namespace Go.Plan
/-- i: the rules ahead of it are done in pass t; T: the pass in which a job was raised last (0: in none) -/
structure Inv (l : List RL) (t i : Nat) (s : RS) (T : Nat → Nat) : Prop where
  le : ∀ x, T x ≤ t
  by_ : ∀ x, 1 ≤ T x → ∃ j r, s.by_ x = some j ∧ l[j]? = some r ∧ r.to = x ∧ T x ≤ T r.fr + 1
  rel : ∀ j r, l[j]? = some r → s.days r.fr + r.le ≤ s.days r.to ∨ (if j < i then t else t - 1) ≤ T r.fr
  last : ∀ k, s.last = some k → T k = t
theorem inv_start (l : List RL) : Inv l 1 0 start (fun _ => 0) :=
  ⟨fun _ => Nat.zero_le _, fun _ h => absurd h (by decide), fun j r _ => .inr (by simp), fun k h => by cases h⟩
theorem inv_step {l : List RL} {t i : Nat} {s : RS} {T : Nat → Nat} {r : RL} (h : Inv l t i s T) (ht : 1 ≤ t) (hr : l[i]? = some r) : ∃ T', Inv l t (i + 1) (stepR i r s) T' := by
  by_cases hc : s.days r.to < s.days r.fr + r.le
  · have e : stepR i r s = ⟨upd s.days r.to (s.days r.fr + r.le), updO s.by_ r.to i, some r.to⟩ := by unfold stepR; rw [if_pos hc]
    have hT : t - 1 ≤ T r.fr := by
      rcases h.rel i r hr with h1 | h1
      · omega
      · rwa [if_neg (by omega)] at h1
    rw [e]
    refine ⟨fun x => if x = r.to then t else T x, fun x => ?_, fun x hx => ?_, fun j q hq => ?_, fun k hk => ?_⟩
    · have := h.le x
      show (if x = r.to then t else T x) ≤ t
      split <;> omega
    · show ∃ j q, updO s.by_ r.to i x = some j ∧ l[j]? = some q ∧ q.to = x ∧ (if x = r.to then t else T x) ≤ (if q.fr = r.to then t else T q.fr) + 1
      by_cases hx2 : x = r.to
      · refine ⟨i, r, by unfold updO; rw [if_pos hx2], hr, hx2.symm, ?_⟩
        rw [if_pos hx2]; split <;> omega
      · have hx' : 1 ≤ T x := by have := hx; simp only [if_neg hx2] at this; exact this
        obtain ⟨j, q, h1, h2, h3, h4⟩ := h.by_ x hx'
        refine ⟨j, q, by unfold updO; rw [if_neg hx2]; exact h1, h2, h3, ?_⟩
        have := h.le x
        rw [if_neg hx2]; split <;> omega
    · show upd s.days r.to (s.days r.fr + r.le) q.fr + q.le ≤ upd s.days r.to (s.days r.fr + r.le) q.to ∨ (if j < i + 1 then t else t - 1) ≤ (if q.fr = r.to then t else T q.fr)
      by_cases hf : q.fr = r.to
      · refine .inr ?_
        rw [if_pos hf]; split <;> omega
      · rw [if_neg hf]
        unfold upd
        rw [if_neg hf]
        by_cases hji : j = i
        · subst hji
          obtain rfl : r = q := Option.some.inj (hr.symm.trans hq)
          rw [if_pos rfl]
          exact .inl (Int.le_refl _)
        · rcases h.rel j q hq with h1 | h1
          · refine .inl ?_
            split
            · rename_i e; rw [e] at h1; omega
            · exact h1
          · refine .inr ?_
            by_cases hj : j < i
            · rw [if_pos hj] at h1; rw [if_pos (by omega)]; exact h1
            · rw [if_neg hj] at h1; rw [if_neg (by omega)]; exact h1
    · show (if k = r.to then t else T k) = t
      have : k = r.to := (Option.some.inj hk).symm
      rw [if_pos this]
  · have e : stepR i r s = s := by unfold stepR; rw [if_neg hc]
    rw [e]
    refine ⟨T, h.le, h.by_, fun j q hq => ?_, h.last⟩
    by_cases hji : j = i
    · subst hji
      obtain rfl : r = q := Option.some.inj (hr.symm.trans hq)
      exact .inl (by omega)
    · rcases h.rel j q hq with h1 | h1
      · exact .inl h1
      · refine .inr ?_
        by_cases hj : j < i
        · rw [if_pos hj] at h1; rw [if_pos (by omega)]; exact h1
        · rw [if_neg hj] at h1; rw [if_neg (by omega)]; exact h1
theorem inv_pass {l : List RL} {t : Nat} (ht : 1 ≤ t) : ∀ (m : List RL) (i : Nat) (s : RS) (T : Nat → Nat), l.drop i = m → Inv l t i s T → ∃ T', Inv l t (i + m.length) (passR i m s) T'
  | [], i, s, T, _, h => ⟨T, h⟩
  | r :: m, i, s, T, hd, h => by
    have hr : l[i]? = some r := by
      have := List.getElem?_drop (xs := l) (i := i) (j := 0)
      rw [hd] at this
      simpa using this.symm
    have hd' : l.drop (i + 1) = m := by rw [← List.drop_drop, hd]; rfl
    obtain ⟨T1, h1⟩ := inv_step h ht hr
    obtain ⟨T2, h2⟩ := inv_pass ht m (i + 1) (stepR i r s) T1 hd' h1
    refine ⟨T2, ?_⟩
    rw [passR, List.length_cons, show i + (m.length + 1) = i + 1 + m.length by omega]
    exact h2
theorem inv_next {l : List RL} {t : Nat} {s : RS} {T : Nat → Nat} (h : Inv l t (0 + l.length) s T) : Inv l (t + 1) 0 ⟨s.days, s.by_, none⟩ T := by
  refine ⟨fun x => Nat.le_succ_of_le (h.le x), h.by_, fun j r hr => ?_, fun k hk => by cases hk⟩
  have hj : j < l.length := (List.getElem?_eq_some_iff.1 hr).1
  rcases h.rel j r hr with h1 | h1
  · exact .inl h1
  · refine .inr ?_
    rw [if_pos (by omega)] at h1
    rw [if_neg (by omega)]
    exact h1
theorem inv_it {l : List RL} : ∀ t, ∃ T, Inv l (t + 1) (0 + l.length) (roundR l (itR l t start)) T
  | 0 => inv_pass (by omega) l 0 _ _ rfl (inv_start l)
  | t + 1 => by
    obtain ⟨T, h⟩ := inv_it (l := l) t
    rw [itR_succ]
    exact inv_pass (by omega) l 0 _ _ rfl (inv_next h)
/-- the job behind a job: where the rule that raised it last begins (0: as a map answers for what it does not hold) -/
def backR (l : List RL) (s : RS) (x : Nat) : Nat := (l.getD ((s.by_ x).getD 0) ⟨0, 0, 0⟩).fr
def backN (l : List RL) (s : RS) : Nat → Nat → Nat
  | 0, x => x
  | k + 1, x => backN l s k (backR l s x)
theorem backN_add (l : List RL) (s : RS) : ∀ (a b x : Nat), backN l s (a + b) x = backN l s b (backN l s a x)
  | 0, b, x => by rw [Nat.zero_add]; rfl
  | a + 1, b, x => by rw [show a + 1 + b = (a + b) + 1 by omega, backN, backN, backN_add l s a b]
theorem back_T {l : List RL} {t i : Nat} {s : RS} {T : Nat → Nat} (h : Inv l t i s T) {x : Nat} (hx : 1 ≤ T x) : T x ≤ T (backR l s x) + 1 := by
  obtain ⟨j, r, h1, h2, _, h4⟩ := h.by_ x hx
  rw [backR, h1, Option.getD_some, List.getD_eq_getElem?_getD, h2, Option.getD_some]
  exact h4
theorem backN_T {l : List RL} {t i : Nat} {s : RS} {T : Nat → Nat} (h : Inv l t i s T) : ∀ (k x : Nat), k < T x → T x ≤ T (backN l s k x) + k
  | 0, x, _ => Nat.le_refl _
  | k + 1, x, hk => by
    have h1 := back_T h (x := x) (by omega)
    have h2 := backN_T h k (backR l s x) (by omega)
    rw [backN]; omega
theorem pigeon : ∀ (n : Nat) (f : Nat → Nat), (∀ j, j ≤ n → f j < n) → ∃ a b, a < b ∧ b ≤ n ∧ f a = f b
  | 0, f, h => absurd (h 0 (Nat.le_refl _)) (by omega)
  | n + 1, f, h => by
    by_cases hc : ∃ j, j < n + 1 ∧ f j = f (n + 1)
    · obtain ⟨j, hj, e⟩ := hc
      exact ⟨j, n + 1, hj, Nat.le_refl _, e⟩
    · have hne : ∀ j, j < n + 1 → f j ≠ f (n + 1) := fun j hj e => hc ⟨j, hj, e⟩
      have hn := h (n + 1) (Nat.le_refl _)
      obtain ⟨a, b, hab, hb, e⟩ := pigeon n (fun j => if f j < f (n + 1) then f j else f j - 1) (fun j hj => by
        have h1 := h j (by omega)
        have h2 := hne j (by omega)
        show (if f j < f (n + 1) then f j else f j - 1) < n
        split <;> omega)
      refine ⟨a, b, hab, by omega, ?_⟩
      have h1 := hne a (by omega)
      have h2 := hne b (by omega)
      have e' : (if f a < f (n + 1) then f a else f a - 1) = (if f b < f (n + 1) then f b else f b - 1) := e
      split at e' <;> split at e' <;> omega
/-- behind as many steps back as there are jobs, the way comes round -/
theorem back_round {n : Nat} {l : List RL} (hi : In n l) {s : RS} {T : Nat → Nat} {i k : Nat} (h : Inv l (n + 1) i s T) (hk : s.last = some k) (hkn : k < n) :
    ∃ p, 1 ≤ p ∧ p ≤ n ∧ backN l s p (backN l s n k) = backN l s n k ∧ (∀ j, backN l s j (backN l s n k) < n) ∧ ∀ j, ∃ q r, s.by_ (backN l s j (backN l s n k)) = some q ∧ l[q]? = some r := by
  have hT : T k = n + 1 := h.last k hk
  have hT1 : ∀ j, j ≤ n → 1 ≤ T (backN l s j k) := fun j hj => by have := backN_T h j k (by omega); omega
  have hlt : ∀ j, j ≤ n → backN l s j k < n := fun j hj => by
    cases j with
    | zero => exact hkn
    | succ j =>
      rw [backN_add l s j 1]
      obtain ⟨q, r, h1, h2, _, _⟩ := h.by_ _ (hT1 j (by omega))
      show backR l s (backN l s j k) < n
      rw [backR, h1, Option.getD_some, List.getD_eq_getElem?_getD, h2, Option.getD_some]
      exact (hi r (List.mem_of_getElem? h2)).1
  obtain ⟨a, b, hab, hb, e⟩ := pigeon n (fun j => backN l s j k) hlt
  have e' : backN l s a k = backN l s b k := e
  have hp : backN l s (b - a) (backN l s a k) = backN l s a k := by rw [← backN_add, show a + (b - a) = b by omega]; exact e'.symm
  have hcyc : backN l s (b - a) (backN l s n k) = backN l s n k := by
    have e1 : backN l s n k = backN l s (n - a) (backN l s a k) := by rw [← backN_add, show a + (n - a) = n by omega]
    rw [e1, ← backN_add, show n - a + (b - a) = (b - a) + (n - a) by omega, backN_add, hp]
  have hall : ∀ m j, j ≤ m → ∃ c, c ≤ n ∧ backN l s j (backN l s n k) = backN l s c k := by
    intro m
    induction m with
    | zero => intro j hj; exact ⟨n, Nat.le_refl _, by rw [show j = 0 by omega]; rfl⟩
    | succ m ih =>
      intro j hj
      by_cases hjp : b - a ≤ j
      · obtain ⟨c, hc, e⟩ := ih (j - (b - a)) (by omega)
        refine ⟨c, hc, ?_⟩
        rw [← e, show j = (b - a) + (j - (b - a)) by omega, backN_add, hcyc]
        simp
      · refine ⟨a + (j + n - a) - (b - a), by omega, ?_⟩
        rw [← backN_add]
        have : backN l s (n + j) k = backN l s ((n + j - a)) (backN l s a k) := by rw [← backN_add, show a + (n + j - a) = n + j by omega]
        rw [this]
        have h3 : n + j - a = (b - a) + (n + j - a - (b - a)) := by omega
        rw [h3, backN_add, hp, ← backN_add]
        congr 1
        omega
  refine ⟨b - a, by omega, by omega, hcyc, fun j => ?_, fun j => ?_⟩
  · obtain ⟨c, hc, e⟩ := hall j j (Nat.le_refl _)
    rw [e]; exact hlt c hc
  · obtain ⟨c, hc, e⟩ := hall j j (Nat.le_refl _)
    obtain ⟨q, r, h1, h2, _, _⟩ := h.by_ _ (hT1 c hc)
    exact ⟨q, r, by rw [e]; exact h1, h2⟩
end Go.Plan
/- Rounds of irrigation (plain): the first filling that fits is found if there is any; with the least count no two rounds fit together. -/
namespace Go.Plan
def fillF (limit : Int) : List Int → List Int → Option (List Nat)
  | [], _ => some []
  | n :: fs, used => (List.range used.length).findSome? fun i => if limit < used.getD i 0 + n then none else (fillF limit fs (used.set i (used.getD i 0 + n))).map (i :: ·)
def loadF : List Int → List Nat → Nat → Int
  | f :: fs, k :: ks, i => (if k = i then f else 0) + loadF fs ks i
  | _, _, _ => 0
structure Fill (limit : Int) (used fs : List Int) (ks : List Nat) : Prop where
  len : ks.length = fs.length
  lt : ∀ k ∈ ks, k < used.length
  load : ∀ i, i < used.length → used.getD i 0 + loadF fs ks i ≤ limit
theorem loadF_nonneg : ∀ (fs : List Int) (ks : List Nat) (i : Nat), (∀ f ∈ fs, 0 ≤ f) → 0 ≤ loadF fs ks i
  | [], _, _, _ => by simp [loadF]
  | _ :: _, [], _, _ => by simp [loadF]
  | f :: fs, k :: ks, i, h => by
    have h1 := loadF_nonneg fs ks i (fun g hg => h g (List.mem_cons_of_mem _ hg))
    have h2 := h f (List.mem_cons_self ..)
    simp only [loadF]; split <;> omega
theorem getD_set' (l : List Int) (k i : Nat) (v : Int) (hk : k < l.length) : (l.set k v).getD i 0 = if k = i then v else l.getD i 0 := by
  rw [List.getD_eq_getElem?_getD, List.getElem?_set]
  by_cases h : k = i
  · rw [if_pos h, if_pos h, if_pos (h ▸ hk)]; rfl
  · rw [if_neg h, if_neg h, List.getD_eq_getElem?_getD]
theorem fillF_sound {limit : Int} : ∀ (fs used : List Int) (ks : List Nat), (∀ i, i < used.length → used.getD i 0 ≤ limit) → fillF limit fs used = some ks → Fill limit used fs ks
  | [], used, ks, hu, h => by
    simp only [fillF, Option.some.injEq] at h
    subst h
    exact ⟨rfl, (fun k hk => by cases hk), (fun i hi => by have := hu i hi; simp only [loadF]; omega)⟩
  | n :: fs, used, ks, hu, h => by
    simp only [fillF] at h
    obtain ⟨i, hi, h1⟩ := List.exists_of_findSome?_eq_some h
    rw [List.mem_range] at hi
    by_cases hc : limit < used.getD i 0 + n
    · rw [if_pos hc] at h1; cases h1
    · rw [if_neg hc] at h1
      obtain ⟨r, h2, rfl⟩ := Option.map_eq_some_iff.1 h1
      have h3 := fillF_sound fs (used.set i (used.getD i 0 + n)) r (fun j hj => by
        rw [getD_set' _ _ _ _ hi]
        split
        · omega
        · exact hu j (by simpa using hj)) h2
      refine ⟨by simp [h3.len], fun k hk => ?_, fun j hj => ?_⟩
      · rcases List.mem_cons.1 hk with rfl | hk
        · exact hi
        · have := h3.lt k hk; simpa using this
      · have := h3.load j (by simpa using hj)
        rw [getD_set' _ _ _ _ hi] at this
        simp only [loadF]
        by_cases e : i = j
        · subst e; rw [if_pos rfl] at this ⊢; omega
        · rw [if_neg e] at this ⊢; omega
theorem findSome_some {α β : Type} {f : α → Option β} : ∀ (l : List α) (x : α), x ∈ l → f x ≠ none → l.findSome? f ≠ none
  | [], _, hx, _ => by cases hx
  | y :: l, x, hx, hf => by
    rw [List.findSome?_cons]
    cases hy : f y with
    | some b => simp
    | none =>
      rcases List.mem_cons.1 hx with rfl | hx
      · exact absurd hy hf
      · exact findSome_some l x hx hf
theorem fillF_complete {limit : Int} : ∀ (fs used : List Int) (ks : List Nat), (∀ f ∈ fs, 0 ≤ f) → Fill limit used fs ks → fillF limit fs used ≠ none
  | [], _, _, _, _ => by simp [fillF]
  | n :: fs, used, [], _, h => by have := h.len; simp at this
  | n :: fs, used, k :: ks, h0, h => by
    have hk := h.lt k (List.mem_cons_self ..)
    have hl := h.load k hk
    simp only [loadF, if_true] at hl
    have hn := loadF_nonneg fs ks k (fun g hg => h0 g (List.mem_cons_of_mem _ hg))
    simp only [fillF]
    refine findSome_some _ k (List.mem_range.2 hk) ?_
    rw [if_neg (by omega)]
    have hF : Fill limit (used.set k (used.getD k 0 + n)) fs ks := by
      refine ⟨by have := h.len; simpa using this, fun j hj => ?_, fun j hj => ?_⟩
      · have := h.lt j (List.mem_cons_of_mem _ hj); simpa using this
      · have hj' : j < used.length := by simpa using hj
        have h4 := h.load j hj'
        simp only [loadF] at h4
        rw [getD_set' _ _ _ _ hk]
        by_cases e : k = j
        · subst e; rw [if_pos rfl] at h4 ⊢; omega
        · rw [if_neg e] at h4 ⊢; omega
    have h3 := fillF_complete fs _ ks (fun g hg => h0 g (List.mem_cons_of_mem _ hg)) hF
    intro hc
    exact h3 (Option.map_eq_none_iff.1 hc)
def zeros (c : Nat) : List Int := List.replicate c 0
theorem zeros_at (c i : Nat) : (zeros c).getD i 0 = 0 := by
  unfold zeros
  rw [List.getD_eq_getElem?_getD, List.getElem?_replicate]
  split <;> rfl
/-- as many rounds as stations are enough -/
theorem fill_each {limit : Int} : ∀ (fs : List Int) (a : Nat), (∀ f ∈ fs, f ≤ limit) → 0 ≤ limit → ∀ i, loadF fs ((List.range' a fs.length)) i ≤ limit
  | [], _, _, h0, i => by simpa [loadF] using h0
  | f :: fs, a, h, h0, i => by
    have h1 := h f (List.mem_cons_self ..)
    rw [List.length_cons, List.range'_succ]
    simp only [loadF]
    by_cases e : a = i
    · subst e
      have : ∀ (fs : List Int) (b : Nat), a < b → loadF fs (List.range' b fs.length) a = 0 := by
        intro fs
        induction fs with
        | nil => intro b _; simp [loadF]
        | cons g gs ih =>
          intro b hb
          rw [List.length_cons, List.range'_succ]
          simp only [loadF]
          rw [if_neg (by omega), ih (b + 1) (by omega)]; rfl
      rw [if_pos rfl, this fs (a + 1) (by omega)]; omega
    · have h2 := fill_each fs (a + 1) (fun g hg => h g (List.mem_cons_of_mem _ hg)) h0 i
      rw [if_neg e]; omega
theorem fill_all {limit : Int} {fs : List Int} (h0 : ∀ f ∈ fs, 0 ≤ f ∧ f ≤ limit) (hl : 0 ≤ limit) : fillF limit fs (zeros fs.length) ≠ none :=
  fillF_complete fs _ (List.range' 0 fs.length) (fun f hf => (h0 f hf).1) ⟨by simp, fun k hk => by simpa [zeros] using hk, fun i _ => by
    have := fill_each fs 0 (fun f hf => (h0 f hf).2) hl i
    rw [zeros_at]; omega⟩
/-- two rounds put together, the later ones moved up -/
def mergeK (i k j : Nat) : Nat := if j = i then k else if i < j then j - 1 else j
theorem load_merge (i k : Nat) (hki : k < i) : ∀ (fs : List Int) (ks : List Nat) (j : Nat), loadF fs (ks.map (mergeK i k)) j =
    if j = k then loadF fs ks k + loadF fs ks i else if j < i then loadF fs ks j else loadF fs ks (j + 1)
  | [], _, _ => by simp [loadF]
  | _ :: _, [], _ => by simp [loadF]
  | f :: fs, x :: ks, j => by
    have ih := load_merge i k hki fs ks j
    simp only [List.map_cons, loadF, ih, mergeK]
    (repeat' split) <;> first | omega | skip
theorem no_two {limit : Int} {fs : List Int} {c : Nat} {ks : List Nat} (h0 : ∀ f ∈ fs, 0 ≤ f) (h : Fill limit (zeros c) fs ks) (hno : fillF limit fs (zeros (c - 1)) = none) {i k : Nat} (hki : k < i) (hi : i < c) : limit < loadF fs ks i + loadF fs ks k := by
  refine Classical.byContradiction fun hn => ?_
  have hz : ∀ c, (zeros c).length = c := fun c => by simp [zeros]
  refine fillF_complete fs (zeros (c - 1)) (ks.map (mergeK i k)) h0 ⟨by simp [h.len], fun x hx => ?_, fun j hj => ?_⟩ hno
  · obtain ⟨y, hy, rfl⟩ := List.mem_map.1 hx
    have := h.lt y hy
    rw [hz] at this ⊢
    unfold mergeK
    (repeat' split) <;> omega
  · rw [hz] at hj
    rw [zeros_at, load_merge i k hki]
    have hl := fun j (hj : j < c) => by have := h.load j (by rw [hz]; exact hj); rw [zeros_at] at this; exact this
    have h1 := hl
    by_cases e : j = k
    · rw [if_pos e]; omega
    · rw [if_neg e]
      by_cases e2 : j < i
      · rw [if_pos e2]; exact hl j (by omega)
      · rw [if_neg e2]; exact hl (j + 1) (by omega)
/-- the sum of all flows is the sum of the rounds -/
def sumI : List Int → Int
  | [] => 0
  | x :: l => x + sumI l
def sumTo (g : Nat → Int) : Nat → Int
  | 0 => 0
  | n + 1 => sumTo g n + g n
theorem sumTo_add (g h : Nat → Int) : ∀ n, sumTo (fun i => g i + h i) n = sumTo g n + sumTo h n
  | 0 => rfl
  | n + 1 => by simp only [sumTo]; rw [sumTo_add g h n]; omega
theorem sumTo_one (k : Nat) (f : Int) : ∀ n, sumTo (fun i => if k = i then f else 0) n = if k < n then f else 0
  | 0 => rfl
  | n + 1 => by
    simp only [sumTo]
    rw [sumTo_one k f n]
    (repeat' split) <;> omega
theorem sum_loads {c : Nat} : ∀ (fs : List Int) (ks : List Nat), ks.length = fs.length → (∀ k ∈ ks, k < c) → sumTo (loadF fs ks) c = sumI fs
  | [], [], _, _ => by
    have : ∀ n, sumTo (loadF [] []) n = 0 := by intro n; induction n with | zero => rfl | succ n ih => rw [sumTo, ih]; rfl
    exact this c
  | [], _ :: _, h, _ => by simp at h
  | _ :: _, [], h, _ => by simp at h
  | f :: fs, k :: ks, h, hk => by
    have e : loadF (f :: fs) (k :: ks) = fun i => (if k = i then f else 0) + loadF fs ks i := by funext i; rfl
    rw [e, sumTo_add, sumTo_one, if_pos (hk k (List.mem_cons_self ..)), sum_loads fs ks (by simpa using h) (fun j hj => hk j (List.mem_cons_of_mem _ hj))]
    rfl
theorem sumTo_le {g : Nat → Int} {m : Int} : ∀ n, (∀ i, i < n → g i ≤ m) → sumTo g n ≤ n * m
  | 0, _ => by simp [sumTo]
  | n + 1, h => by
    have h1 := sumTo_le n (fun i hi => h i (by omega))
    have h2 := h n (by omega)
    have e : ((n + 1 : Nat) : Int) * m = n * m + m := by rw [Int.natCast_add, Int.add_mul]; simp
    simp only [sumTo]; omega
end Go.Plan
/- TopLinksPlans: the reference's check of conditions. -/
namespace Go.Plan
/-- a condition as it lies in memory -/
structure RI where
  fr : Int
  to : Int
  le : Int
def RI.cells (r : RI) : List Value := [.int .i64 r.fr, .int .i64 r.to, .int .i64 r.le]
def ruleE (jobs : Int) (r : RI) : Int := if (r.fr < 0 ∨ jobs ≤ r.fr) ∨ r.to < 0 ∨ jobs ≤ r.to then 10 else if r.le < -10000 ∨ 10000 < r.le then 3 else 0
def rulesE (jobs : Int) (l : List RI) : Int := if jobs < 1 ∨ 24 < jobs then 3 else if 256 < l.length then 5 else Go.Sheet.eachF (fun _ r => ruleE jobs r) 0 l
end Go.Plan
namespace Go.Proofs.Ythgkngngmjonkaa
open Go.RowKit Go.Mem Go.Sheet Go.Plan
set_option maxRecDepth 100000 in
set_option maxHeartbeats 4000000 in
theorem refCheckRules_any (w : World) (jobs : Int) (v : Value) (n : Nat) (l : List RI) (h : Rd w (· < w.heap.size) 3 v n (l.flatMap RI.cells)) :
    Calls Try.prog 4 #[.int .i64 jobs, v] w fun e w' => e = .returned (.int .i64 (rulesE jobs l)) ∧ ∃ q, w' = w.drewN q := by
  have HL := Lib.hid (h.count (f := RI.cells) (size := 3) (fun _ => rfl) (by decide))
  have hn := h.le
  obtain ⟨A, c, rfl, _, _, h⟩ := h.open_
  have HC : Hid (rulesE jobs l = if jobs < 1 ∨ 24 < jobs then 3 else if 256 < l.length then 5 else eachF (fun _ r => ruleE jobs r) 0 l) := rfl
  go_enter Try.func4, Try.ntmps4
  by_cases j1 : jobs < 1
  · go_wp2
    go_ret
    exact ⟨ret_i64 (by rw [HC.out, if_pos (.inl j1)]), 0, rfl⟩
  by_cases j2 : 24 < jobs
  · go_wp2
    go_ret
    exact ⟨ret_i64 (by rw [HC.out, if_pos (.inr j2)]), 0, rfl⟩
  by_cases h24 : 256 < n
  · go_wp2
    go_ret
    exact ⟨ret_i64 (by rw [HC.out, if_neg (by omega), if_pos (by rw [← HL.out]; exact h24)]), 0, rfl⟩
  have HC2 : Hid (rulesE jobs l = eachF (fun _ r => ruleE jobs r) 0 l) := by show _ = _; rw [HC.out, if_neg (by omega), if_neg (by rw [← HL.out]; exact h24)]
  clear HC
  go_wp2
  go_loopw [5] (fun i w' => ∃ k q : Nat, k ≤ n ∧ i = .int .i64 k ∧ w' = w.drewN q ∧ Hid (eachF (fun _ r => ruleE jobs r) k (l.drop k) = eachF (fun _ r => ruleE jobs r) 0 l)) (fun i _ => n - (intOf i).toNat)
  case atStart => exact ⟨0, 0, Nat.zero_le _, rfl, rfl, rfl⟩
  case round =>
    obtain ⟨k, q, hk, rfl, rfl, he⟩ := hrel
    by_cases hlt : k < n
    · obtain ⟨b, o, x, rfl, hx, c0, c1, c2⟩ := h.elem3 (k := k) (fun s : RI => .int .i64 s.fr) (fun s : RI => .int .i64 s.to) (fun s : RI => .int .i64 s.le) (fun _ => rfl) hlt
      have HX := Lib.hid hx
      clear hx
      have HBAD : Hid (ruleE jobs x ≠ 0 → rulesE jobs l = ruleE jobs x) := fun h0 => by
        rw [HC2.out, ← eachF_stop (f := fun _ r => ruleE jobs r) HX.out h0 he.out]
      have HE : Hid (ruleE jobs x = if (x.fr < 0 ∨ jobs ≤ x.fr) ∨ x.to < 0 ∨ jobs ≤ x.to then 10 else if x.le < -10000 ∨ 10000 < x.le then 3 else 0) := rfl
      have HGO : Hid (ruleE jobs x = 0 → eachF (fun _ r => ruleE jobs r) (k + 1) (l.drop (k + 1)) = eachF (fun _ r => ruleE jobs r) 0 l) := fun h0 => eachF_go (f := fun _ r => ruleE jobs r) HX.out (by simpa using h0) he.out
      clear he h HC2
      generalize ruleE jobs x = X at *
      by_cases t1 : x.fr < 0
      · have HR : Hid (rulesE jobs l = 10) := by show _ = _; have := HE.out; rw [if_pos (.inl (.inl t1))] at this; rw [HBAD.out (by omega), this]
        clear HBAD HE HGO
        go_wp2
        go_ret
        exact ⟨ret_i64 HR.out.symm, _, rfl⟩
      by_cases t2 : jobs ≤ x.fr
      · have HR : Hid (rulesE jobs l = 10) := by show _ = _; have := HE.out; rw [if_pos (.inl (.inr t2))] at this; rw [HBAD.out (by omega), this]
        clear HBAD HE HGO
        go_wp2
        go_ret
        exact ⟨ret_i64 HR.out.symm, _, rfl⟩
      by_cases t3 : x.to < 0
      · have HR : Hid (rulesE jobs l = 10) := by show _ = _; have := HE.out; rw [if_pos (.inr (.inl t3))] at this; rw [HBAD.out (by omega), this]
        clear HBAD HE HGO
        go_wp2
        go_ret
        exact ⟨ret_i64 HR.out.symm, _, rfl⟩
      by_cases t4 : jobs ≤ x.to
      · have HR : Hid (rulesE jobs l = 10) := by show _ = _; have := HE.out; rw [if_pos (.inr (.inr t4))] at this; rw [HBAD.out (by omega), this]
        clear HBAD HE HGO
        go_wp2
        go_ret
        exact ⟨ret_i64 HR.out.symm, _, rfl⟩
      by_cases t5 : x.le < -10000
      · have HR : Hid (rulesE jobs l = 3) := by show _ = _; have := HE.out; rw [if_neg (by omega), if_pos (.inl t5)] at this; rw [HBAD.out (by omega), this]
        clear HBAD HE HGO
        go_wp2
        go_ret
        exact ⟨ret_i64 HR.out.symm, _, rfl⟩
      by_cases t6 : 10000 < x.le
      · have HR : Hid (rulesE jobs l = 3) := by show _ = _; have := HE.out; rw [if_neg (by omega), if_pos (.inr t6)] at this; rw [HBAD.out (by omega), this]
        clear HBAD HE HGO
        go_wp2
        go_ret
        exact ⟨ret_i64 HR.out.symm, _, rfl⟩
      have HG := Lib.hid (HGO.out (by rw [HE.out, if_neg (by omega), if_neg (by omega)]))
      clear HBAD HE HGO
      go_wp2
      go_roundw
      case rel => exact ⟨k + 1, _, by omega, by go_num, rfl, HG.out⟩
      case measure => simp [intOf]; omega
    · go_wp2
      go_ret
      have e : k = n := by omega
      refine ⟨ret_i64 ?_, q, rfl⟩
      have := he.out
      rw [List.drop_eq_nil_of_le (by rw [← HL.out]; omega)] at this
      rw [HC2.out, ← this]; rfl
end Go.Proofs.Ythgkngngmjonkaa
