/- Part 2 of the walks of the golf union's program: QK1, QK2, QK3, QK4. -/
import Derived.Test.YtlffgdmljioaoaaGreatDoorD01
set_option linter.unusedVariables false
set_option linter.unusedSimpArgs false
set_option linter.unusedSectionVars false
set_option linter.constructorNameAsVariable false
/- Walks in a matrix, and their sums: plain. -/
namespace Go.Sheet
/-- a walk of l steps from a to b with the sum s: a step from column k to row i -/
def WalkP (m : IMat) (n : Nat) : Nat → Nat → Nat → Int → Prop
  | 0, a, b, s => a < n ∧ a = b ∧ s = 0
  | l + 1, a, b, s => b < n ∧ ∃ k, at2 m b k ≠ noth ∧ WalkP m n l a k (s - at2 m b k)
section
variable {m : IMat} {n : Nat}
theorem WalkP.ends : ∀ {l a b : Nat} {s : Int}, WalkP m n l a b s → a < n ∧ b < n
  | 0, _, _, _, h => ⟨h.1, h.2.1 ▸ h.1⟩
  | _ + 1, _, _, _, h => ⟨(WalkP.ends h.2.choose_spec.2).1, h.1⟩
theorem WalkP.snoc {l a k b : Nat} {s : Int} (h : WalkP m n l a k s) (hb : b < n) (he : at2 m b k ≠ noth) : WalkP m n (l + 1) a b (s + at2 m b k) :=
  ⟨hb, k, he, by rw [Int.add_sub_cancel]; exact h⟩
theorem WalkP.cat {l a b : Nat} {s : Int} (h : WalkP m n l a b s) : ∀ {l' c : Nat} {s' : Int}, WalkP m n l' b c s' → WalkP m n (l + l') a c (s + s')
  | 0, _, s', h' => by
    obtain ⟨_, rfl, rfl⟩ := h'
    rw [Int.add_zero]
    exact h
  | l' + 1, c, s', h' => by
    obtain ⟨hc, k, he, hk⟩ := h'
    refine ⟨hc, k, he, ?_⟩
    have := WalkP.cat h hk
    rw [show s + s' - at2 m c k = s + (s' - at2 m c k) by omega]
    exact this
theorem WalkP.split {l a : Nat} : ∀ {l' c : Nat} {s : Int}, WalkP m n (l + l') a c s → ∃ b s1, WalkP m n l a b s1 ∧ WalkP m n l' b c (s - s1)
  | 0, c, s, h => ⟨c, s, h, (WalkP.ends h).2, rfl, by omega⟩
  | l' + 1, c, s, h => by
    obtain ⟨hc, k, he, hk⟩ := h
    obtain ⟨b, s1, h1, h2⟩ := WalkP.split hk
    refine ⟨b, s1, h1, hc, k, he, ?_⟩
    rw [show s - s1 - at2 m c k = s - at2 m c k - s1 by omega]
    exact h2
/-- a walk as the rows that it comes to, and the sums on its way -/
structure WalkF (m : IMat) (n l : Nat) (f : Nat → Nat) (S : Nat → Int) : Prop where
  lt : ∀ t, t ≤ l → f t < n
  ed : ∀ t, t < l → at2 m (f (t + 1)) (f t) ≠ noth ∧ S (t + 1) = S t + at2 m (f (t + 1)) (f t)
theorem WalkP.fn : ∀ {l a b : Nat} {s : Int}, WalkP m n l a b s → ∃ f S, WalkF m n l f S ∧ f 0 = a ∧ f l = b ∧ S 0 = 0 ∧ S l = s
  | 0, a, b, s, h => by
    obtain ⟨ha, rfl, rfl⟩ := h
    exact ⟨fun _ => a, fun _ => 0, ⟨fun t _ => ha, fun t ht => absurd ht (by omega)⟩, rfl, rfl, rfl, rfl⟩
  | l + 1, a, b, s, h => by
    obtain ⟨hb, k, he, hk⟩ := h
    obtain ⟨f, S, hf, h0, h1, h2, h3⟩ := WalkP.fn hk
    refine ⟨fun t => if t = l + 1 then b else f t, fun t => if t = l + 1 then s else S t, ⟨fun t ht => ?_, fun t ht => ?_⟩, ?_, if_pos rfl, ?_, if_pos rfl⟩
    · show (if t = l + 1 then b else f t) < n
      split
      · exact hb
      · exact hf.lt t (by omega)
    · show at2 m (if t + 1 = l + 1 then b else f (t + 1)) (if t = l + 1 then b else f t) ≠ noth ∧ (if t + 1 = l + 1 then s else S (t + 1)) = (if t = l + 1 then s else S t) + at2 m (if t + 1 = l + 1 then b else f (t + 1)) (if t = l + 1 then b else f t)
      rw [if_neg (by omega : ¬ t = l + 1), if_neg (by omega : ¬ t = l + 1)]
      by_cases e : t = l
      · subst e
        rw [if_pos rfl, if_pos rfl, h1, h3]
        exact ⟨he, by omega⟩
      · rw [if_neg (by omega), if_neg (by omega)]
        exact hf.ed t (by omega)
    · show (if 0 = l + 1 then b else f 0) = a
      rw [if_neg (by omega), h0]
    · show (if 0 = l + 1 then s else S 0) = 0
      rw [if_neg (by omega), h2]
theorem WalkF.part {l : Nat} {f : Nat → Nat} {S : Nat → Int} (h : WalkF m n l f S) (t : Nat) : ∀ d, t + d ≤ l → WalkP m n d (f t) (f (t + d)) (S (t + d) - S t)
  | 0, ht => ⟨h.lt t (by omega), rfl, by rw [Nat.add_zero]; omega⟩
  | d + 1, ht => by
    have ih := WalkF.part h t d (by omega)
    obtain ⟨h1, h2⟩ := h.ed (t + d) (by omega)
    refine ⟨h.lt _ ht, f (t + d), h1, ?_⟩
    rw [show t + (d + 1) = t + d + 1 by omega, h2, show S (t + d) + at2 m (f (t + d + 1)) (f (t + d)) - S t - at2 m (f (t + d + 1)) (f (t + d)) = S (t + d) - S t by omega]
    exact ih
theorem nodup_lenQ {α : Type} : ∀ {l m : List α}, l.Nodup → l ⊆ m → l.length ≤ m.length
  | [], m, _, _ => Nat.zero_le _
  | x :: l, m, hn, hs => by
    have hx : x ∈ m := hs (by simp)
    obtain ⟨s, t, rfl⟩ := List.append_of_mem hx
    have := nodup_lenQ (l := l) (m := s ++ t) (List.nodup_cons.1 hn).2 fun y hy => by
      have hy2 : y ∈ s ++ x :: t := hs (by simp [hy])
      have hne : y ≠ x := fun e => (List.nodup_cons.1 hn).1 (e ▸ hy)
      simp only [List.mem_append, List.mem_cons] at hy2 ⊢
      rcases hy2 with h | h | h
      · exact .inl h
      · exact absurd h hne
      · exact .inr h
    simp only [List.length_append, List.length_cons] at this ⊢
    omega
/-- more places than numbers: two are the same -/
theorem pigeonQ {f : Nat → Nat} {N k : Nat} (hf : ∀ t, t < k → f t < N) (hk : N < k) : ∃ t1 t2, t1 < t2 ∧ t2 < k ∧ f t1 = f t2 := by
  refine Classical.byContradiction fun hno => ?_
  have hinj : ∀ a b, a < k → b < k → f a = f b → a = b := fun a b ha hb e => by
    rcases Nat.lt_trichotomy a b with h | h | h
    · exact absurd ⟨a, b, h, hb, e⟩ hno
    · exact h
    · exact absurd ⟨b, a, h, ha, e.symm⟩ hno
  have := nodup_lenQ (l := (List.range k).map f) (m := List.range N) (List.pairwise_map.2 ((List.nodup_range (n := k)).imp_of_mem fun ha hb hne e => hne (hinj _ _ (List.mem_range.1 ha) (List.mem_range.1 hb) e))) (fun x hx => by
    obtain ⟨y, hy, rfl⟩ := List.mem_map.1 hx
    exact List.mem_range.2 (hf y (List.mem_range.1 hy)))
  simp at this
  omega
/-- a bound of the means of all closed walks -/
def Up (m : IMat) (n : Nat) (p q : Int) : Prop := ∀ c v s, 1 ≤ c → WalkP m n c v v s → s * q ≤ p * (c : Int)
/-- a simple cycle -/
def Cyc (m : IMat) (n c : Nat) (f : Nat → Nat) (s : Int) : Prop := 1 ≤ c ∧ (∀ i j, i < c → j < c → f i = f j → i = j) ∧ ∃ S, WalkF m n c f S ∧ f c = f 0 ∧ S 0 = 0 ∧ S c = s
theorem Cyc.walk {c : Nat} {f : Nat → Nat} {s : Int} (h : Cyc m n c f s) : WalkP m n c (f 0) (f 0) s := by
  obtain ⟨_, _, S, hS, he, h0, hs⟩ := h
  have := hS.part 0 c (by omega)
  rw [Nat.zero_add, he, hs, h0, Int.sub_zero] at this
  exact this
theorem Cyc.le {c : Nat} {f : Nat → Nat} {s : Int} (h : Cyc m n c f s) : c ≤ n := by
  obtain ⟨_, hi, S, hS, _⟩ := h
  rcases Nat.lt_or_ge n c with h1 | h1
  · obtain ⟨t1, t2, h2, h3, h4⟩ := pigeonQ (f := f) (N := n) (k := c) (fun t ht => hS.lt t (by omega)) h1
    have := hi t1 t2 (by omega) h3 h4
    omega
  · exact h1
/-- what bounds the simple cycles bounds the closed walks -/
theorem up_of_cyc {p q : Int} (hc : ∀ c f s, Cyc m n c f s → s * q ≤ p * (c : Int)) : Up m n p q := by
  intro c
  induction c using Nat.strongRecOn with
  | _ c ih =>
    intro v s h1 h
    obtain ⟨f, S, hF, h0, hl, hS0, hSl⟩ := h.fn
    by_cases hi : ∀ i j, i < c → j < c → f i = f j → i = j
    · exact hc c f s ⟨h1, hi, S, hF, hl.trans h0.symm, hS0, hSl⟩
    · have : ∃ t1 t2, t1 < t2 ∧ t2 < c ∧ f t1 = f t2 := by
        refine Classical.byContradiction fun hno => hi fun a b ha hb e => ?_
        rcases Nat.lt_trichotomy a b with h | h | h
        · exact absurd ⟨a, b, h, hb, e⟩ hno
        · exact h
        · exact absurd ⟨b, a, h, ha, e.symm⟩ hno
      obtain ⟨t1, t2, h2, h3, e⟩ := this
      have i1 := hF.part t1 (t2 - t1) (by omega)
      rw [show t1 + (t2 - t1) = t2 by omega, ← e] at i1
      have i2 := hF.part 0 t1 (by omega)
      have i3 := hF.part t2 (c - t2) (by omega)
      rw [Nat.zero_add, h0, hS0] at i2
      rw [show t2 + (c - t2) = c by omega, hl, ← e, hSl] at i3
      have a1 := ih (t2 - t1) (by omega) _ _ (by omega) i1
      have a2 := ih (t1 + (c - t2)) (by omega) _ _ (by omega) (i2.cat i3)
      have e1 : ((t2 - t1 : Nat) : Int) = (t2 : Int) - t1 := by omega
      have e2 : ((t1 + (c - t2) : Nat) : Int) = (t1 : Int) + (c - t2) := by omega
      rw [e1] at a1
      rw [e2] at a2
      have d1 : (S t2 - S t1) * q + (S t1 - 0 + (s - S t2)) * q = s * q := by rw [← Int.add_mul]; congr 1; omega
      have d2 : p * ((t2 : Int) - t1) + p * ((t1 : Int) + (c - t2)) = p * (c : Int) := by rw [← Int.mul_add]; congr 1; omega
      omega
/-- a walk of n steps or more has a closed part: without it, it is shorter, and not worse -/
theorem Up.short {p q : Int} (hU : Up m n p q) {l a b : Nat} {s : Int} (h : WalkP m n l a b s) (hl : n ≤ l) : ∃ l' s', l' < l ∧ WalkP m n l' a b s' ∧ s * q - p * l ≤ s' * q - p * l' := by
  obtain ⟨f, S, hF, h0, hl2, hS0, hSl⟩ := h.fn
  obtain ⟨t1, t2, h2, h3, e⟩ := pigeonQ (f := f) (N := n) (k := n + 1) (fun t ht => hF.lt t (by omega)) (by omega)
  have i1 := hF.part t1 (t2 - t1) (by omega)
  rw [show t1 + (t2 - t1) = t2 by omega, ← e] at i1
  have i2 := hF.part 0 t1 (by omega)
  have i3 := hF.part t2 (l - t2) (by omega)
  rw [Nat.zero_add, h0, hS0] at i2
  rw [show t2 + (l - t2) = l by omega, hl2, ← e, hSl] at i3
  have a1 := hU (t2 - t1) _ _ (by omega) i1
  refine ⟨t1 + (l - t2), _, by omega, i2.cat i3, ?_⟩
  have e1 : ((t2 - t1 : Nat) : Int) = (t2 : Int) - t1 := by omega
  have e2 : ((t1 + (l - t2) : Nat) : Int) = (t1 : Int) + (l - t2) := by omega
  rw [e1] at a1
  rw [e2]
  have d1 : (S t2 - S t1) * q + (S t1 - 0 + (s - S t2)) * q = s * q := by rw [← Int.add_mul]; congr 1; omega
  have d2 : p * ((t2 : Int) - t1) + p * ((t1 : Int) + (l - t2)) = p * (l : Int) := by rw [← Int.mul_add]; congr 1; omega
  omega
theorem Up.short2 {p q : Int} (hU : Up m n p q) : ∀ {l a b : Nat} {s : Int}, WalkP m n l a b s → ∃ l' s', l' < n ∧ l' ≤ l ∧ WalkP m n l' a b s' ∧ s * q - p * l ≤ s' * q - p * l' := by
  intro l
  induction l using Nat.strongRecOn with
  | _ l ih =>
    intro a b s h
    rcases Nat.lt_or_ge l n with h1 | h1
    · exact ⟨l, s, h1, Nat.le_refl _, h, Int.le_refl _⟩
    · obtain ⟨l', s', h2, h3, h4⟩ := hU.short h h1
      obtain ⟨l2, s2, h5, h6, h7, h8⟩ := ih l' h2 h3
      exact ⟨l2, s2, h5, by omega, h7, by omega⟩
theorem WalkP.bd {B : Int} (hB : ∀ i k, i < n → k < n → at2 m i k ≠ noth → at2 m i k ≤ B) : ∀ {l a b : Nat} {s : Int}, WalkP m n l a b s → s ≤ B * l
  | 0, _, _, _, h => by obtain ⟨_, _, rfl⟩ := h; simp
  | l + 1, a, b, s, h => by
    obtain ⟨hb, k, he, hk⟩ := h
    have h1 := hB b k hb hk.ends.2 he
    have h2 := WalkP.bd hB hk
    have e : B * ((l + 1 : Nat) : Int) = B * l + B := by rw [Int.natCast_add, Int.mul_add]; omega
    omega
theorem WalkP.rep {c v : Nat} {s : Int} (h : WalkP m n c v v s) : ∀ r : Nat, WalkP m n (c * r) v v (s * r)
  | 0 => by rw [Nat.mul_zero]; exact ⟨h.ends.1, rfl, by simp⟩
  | r + 1 => by
    have := WalkP.cat (WalkP.rep h r) h
    rw [Nat.mul_succ, show s * ((r + 1 : Nat) : Int) = s * r + s by rw [Int.natCast_add, Int.mul_add]; omega]
    exact this
/-- a set of whole numbers with a bound has a greatest one -/
theorem int_max {Q : Int → Prop} {B : Int} (hB : ∀ x, Q x → x ≤ B) {x0 : Int} (h0 : Q x0) : ∃ x, Q x ∧ ∀ y, Q y → y ≤ x := by
  have : ∀ d : Nat, ∀ x0, Q x0 → B - x0 ≤ d → ∃ x, Q x ∧ ∀ y, Q y → y ≤ x := by
    intro d
    induction d with
    | zero => intro x0 h0 hd; exact ⟨x0, h0, fun y hy => by have := hB y hy; omega⟩
    | succ d ih =>
      intro x0 h0 hd
      by_cases h : ∃ y, Q y ∧ x0 < y
      · obtain ⟨y, hy, hlt⟩ := h
        exact ih y hy (by omega)
      · exact ⟨x0, h0, fun y hy => by
          rcases Int.lt_or_le x0 y with h1 | h1
          · exact absurd ⟨y, hy, h1⟩ h
          · exact h1⟩
  exact this (B - x0).toNat x0 h0 (by omega)
end
end Go.Sheet
/- The greatest sums of walks of a number of steps (dRow), and Karp's theorem: plain. -/
namespace Go.Sheet
theorem timesF_ge (r : List Int) : ∀ (x : List Int) (acc : Int), acc ≤ timesF acc r x := by
  induction r with
  | nil => intro x acc; cases x <;> simp [timesF]
  | cons y r ih =>
    intro x acc
    cases x with
    | nil => simp [timesF]
    | cons z x =>
      rw [timesF]
      have := ih x (max acc (prodX y z))
      omega
theorem timesF_at (r : List Int) : ∀ (x : List Int) (acc : Int) (k : Nat), k < r.length → k < x.length → prodX (r.getD k 0) (x.getD k 0) ≤ timesF acc r x := by
  induction r with
  | nil => intro x acc k h; simp at h
  | cons y r ih =>
    intro x acc k h1 h2
    cases x with
    | nil => simp at h2
    | cons z x =>
      rw [timesF]
      cases k with
      | zero =>
        have := timesF_ge r x (max acc (prodX y z))
        simp only [List.getD_cons_zero]
        omega
      | succ k =>
        simp only [List.getD_cons_succ]
        exact ih x _ k (by simpa using h1) (by simpa using h2)
theorem timesF_from (r : List Int) : ∀ (x : List Int) (acc : Int), timesF acc r x = acc ∨ ∃ k, k < r.length ∧ k < x.length ∧ timesF acc r x = prodX (r.getD k 0) (x.getD k 0) := by
  induction r with
  | nil => intro x acc; left; cases x <;> simp [timesF]
  | cons y r ih =>
    intro x acc
    cases x with
    | nil => left; simp [timesF]
    | cons z x =>
      rw [timesF]
      rcases ih x (max acc (prodX y z)) with h | ⟨k, h1, h2, h3⟩
      · rw [h]
        rcases Int.le_total acc (prodX y z) with g | g
        · right
          exact ⟨0, by simp, by simp, by simp only [List.getD_cons_zero]; omega⟩
        · left; omega
      · right
        exact ⟨k + 1, by simpa using h1, by simpa using h2, by simpa only [List.getD_cons_succ] using h3⟩
section
variable {n : Nat} {b : Int} {m : IMat}
/-- the greatest sum of a walk of j steps to row i -/
def dv (m : IMat) (j i : Nat) : Int := (dRow m j).getD i 0
theorem SqOk.row (h : SqOk n b m) {i : Nat} (hi : i < n) : (m.getD i []).length = n ∧ m.getD i [] ∈ m := by
  have hl : i < m.length := by rw [h.n_eq]; exact hi
  rw [List.getD_eq_getElem?_getD, List.getElem?_eq_getElem hl]
  exact ⟨h.len _ (List.getElem_mem hl), List.getElem_mem hl⟩
theorem SqOk.at_bd (h : SqOk n b m) {i k : Nat} (hi : i < n) (hk : k < n) : XB b (at2 m i k) := by
  obtain ⟨h1, h2⟩ := h.row hi
  refine h.bd _ h2 _ ?_
  unfold at2
  generalize m.getD i [] = r at *
  rw [List.getD_eq_getElem?_getD, List.getElem?_eq_getElem (by omega)]
  exact List.getElem_mem _
theorem dv_bd (h : SqOk n b m) (hb : 0 ≤ b) (hb2 : b ≤ 30000000000) {j i : Nat} (hj : j ≤ 30) (hi : i < n) : XB (b * j) (dv m j i) := by
  refine dRow_bd h hb hb2 j hj _ ?_
  unfold dv
  have hl : i < (dRow m j).length := by rw [dRow_len, h.n_eq]; exact hi
  rw [List.getD_eq_getElem?_getD, List.getElem?_eq_getElem hl]
  exact List.getElem_mem _
theorem dv_succ (h : SqOk n b m) {j i : Nat} (hi : i < n) : dv m (j + 1) i = timesR (m.getD i []) (dRow m j) := by
  have hl : i < m.length := by rw [h.n_eq]; exact hi
  show ((dRow m j |> fun x => m.map fun r => timesR r x)).getD i 0 = _
  simp only []
  rw [List.getD_eq_getElem?_getD, List.getElem?_map, List.getElem?_eq_getElem hl, List.getD_eq_getElem?_getD, List.getElem?_eq_getElem hl]
  rfl
theorem dv_zero (h : SqOk n b m) {i : Nat} (hi : i < n) : dv m 0 i = 0 := by
  unfold dv dRow
  rw [List.getD_eq_getElem?_getD, List.getElem?_replicate, h.n_eq, if_pos hi]; rfl
theorem dv_walk (h : SqOk n b m) : ∀ {j i : Nat}, i < n → dv m j i ≠ noth → ∃ a, WalkP m n j a i (dv m j i)
  | 0, i, hi, _ => ⟨i, hi, rfl, dv_zero h hi⟩
  | j + 1, i, hi, hne => by
    rw [dv_succ h hi] at hne ⊢
    unfold timesR at hne ⊢
    rcases timesF_from (m.getD i []) (dRow m j) noth with e | ⟨k, h1, h2, e⟩
    · exact absurd e hne
    · rw [(h.row hi).1] at h1
      have h3 : (m.getD i []).getD k 0 = at2 m i k := rfl
      have h4 : (dRow m j).getD k 0 = dv m j k := rfl
      rw [e, h3, h4] at hne ⊢
      unfold prodX at hne ⊢
      by_cases hc : at2 m i k = noth ∨ dv m j k = noth
      · rw [if_pos hc] at hne; exact absurd rfl hne
      · rw [if_neg hc]
        obtain ⟨a, ha⟩ := dv_walk h h1 (fun e => hc (.inr e))
        refine ⟨a, hi, k, fun e => hc (.inl e), ?_⟩
        rw [show at2 m i k + dv m j k - at2 m i k = dv m j k by omega]
        exact ha
theorem walk_dv (h : SqOk n b m) (hb : 0 ≤ b) (hb2 : b ≤ 30000000000) : ∀ {j a i : Nat} {s : Int}, j ≤ 30 → WalkP m n j a i s → dv m j i ≠ noth ∧ s ≤ dv m j i
  | 0, a, i, s, _, hw => by
    obtain ⟨ha, rfl, rfl⟩ := hw
    rw [dv_zero h ha]
    exact ⟨by unfold noth; decide, Int.le_refl _⟩
  | j + 1, a, i, s, hj, hw => by
    obtain ⟨hi, k, he, hk⟩ := hw
    have hkn := hk.ends.2
    obtain ⟨h1, h2⟩ := walk_dv h hb hb2 (by omega) hk
    have h3 := timesF_at (m.getD i []) (dRow m j) noth k (by rw [(h.row hi).1]; exact hkn) (by rw [dRow_len, h.n_eq]; exact hkn)
    rw [show timesF noth (m.getD i []) (dRow m j) = dv m (j + 1) i from (dv_succ h hi).symm, show (m.getD i []).getD k 0 = at2 m i k from rfl, show (dRow m j).getD k 0 = dv m j k from rfl] at h3
    unfold prodX at h3
    rw [if_neg (fun e => e.elim he h1)] at h3
    have b1 := h.at_bd hi hkn
    have b2 := dv_bd h hb hb2 (j := j) (by omega) hkn
    have hbk : b * j ≤ 30000000000 * 30 := Int.mul_le_mul hb2 (by omega) (by omega) (by omega)
    rcases b1 with b1 | b1
    · exact absurd b1 he
    · rcases b2 with b2 | b2
      · exact absurd b2 h1
      · have hnn : noth < dv m (j + 1) i := by unfold noth; omega
        exact ⟨by omega, by omega⟩
/-- Karp, first half: behind each row there is a number of steps whose mean a closed walk reaches -/
theorem karp_one (h : SqOk n b m) (hb : 0 ≤ b) (hb2 : b ≤ 30000000000) (hn : n ≤ 24) {p q : Int} (hU : Up m n p q) {v : Nat} (hv : v < n) (hne : dv m n v ≠ noth) (hq : 0 < q) :
    ∃ k, k < n ∧ dv m k v ≠ noth ∧ (dv m n v - dv m k v) * q ≤ p * ((n : Int) - k) := by
  obtain ⟨a, ha⟩ := dv_walk h hv hne
  obtain ⟨k, s', hk, hw, hle⟩ := hU.short ha (Nat.le_refl _)
  obtain ⟨h1, h2⟩ := walk_dv h hb hb2 (by omega) hw
  refine ⟨k, hk, h1, ?_⟩
  have h3 : s' * q ≤ dv m k v * q := Int.mul_le_mul_of_nonneg_right h2 (by omega)
  rw [Int.sub_mul, Int.mul_sub]
  omega
/-- Karp, second half: where a closed walk reaches the bound, there is a row behind which no number of steps is below it -/
theorem karp_two (h : SqOk n b m) (hb : 0 ≤ b) (hb2 : b ≤ 30000000000) (hn : n ≤ 24) {p q : Int} (hU : Up m n p q) (hq : 0 < q) {c u : Nat} {s : Int} (hc : 1 ≤ c) (hw : WalkP m n c u u s) (he : s * q = p * (c : Int)) :
    ∃ v, v < n ∧ dv m n v ≠ noth ∧ ∀ k, k < n → dv m k v ≠ noth → p * ((n : Int) - k) ≤ (dv m n v - dv m k v) * q := by
  have hB : ∀ i k, i < n → k < n → at2 m i k ≠ noth → at2 m i k ≤ b := fun i k hi hk hne => by
    rcases h.at_bd hi hk with g | g
    · exact absurd g hne
    · exact g.2
  obtain ⟨x, ⟨l0, a0, s0, hl0, hx⟩, hmax⟩ := int_max (Q := fun x => ∃ l a s, WalkP m n l a u s ∧ x = s * q - p * l) (B := b * n * q + p.natAbs * n) (fun x hx => by
    obtain ⟨l, a, s, hw, rfl⟩ := hx
    obtain ⟨l', s', h1, _, h3, h4⟩ := hU.short2 hw
    have h5 := h3.bd hB
    have h6 : b * (l' : Int) ≤ b * n := Int.mul_le_mul_of_nonneg_left (by omega) hb
    have h7 : s' * q ≤ b * n * q := Int.mul_le_mul_of_nonneg_right (by omega) (by omega)
    have h8 : -(p * (l' : Int)) ≤ p.natAbs * n := by
      rcases Int.le_total 0 p with g | g
      · have e1 := Int.mul_nonneg g (show (0 : Int) ≤ l' by omega)
        have e2 := Int.mul_nonneg (show (0 : Int) ≤ p.natAbs by omega) (show (0 : Int) ≤ n by omega)
        omega
      · have e1 : (p.natAbs : Int) = -p := by omega
        rw [e1]
        have e2 : (-p) * (l' : Int) ≤ (-p) * n := Int.mul_le_mul_of_nonneg_left (by omega) (by omega)
        rw [Int.neg_mul] at e2
        rw [Int.neg_mul] at e2 ⊢
        omega
    omega) (x0 := 0 * q - p * (0 : Nat)) ⟨0, u, 0, ⟨hw.ends.1, rfl, rfl⟩, rfl⟩
  have hr := (hl0.cat (hw.rep n))
  have hlen : n ≤ l0 + c * n := by have := Nat.mul_le_mul_right n hc; omega
  rw [show l0 + c * n = n + (l0 + c * n - n) by omega] at hr
  obtain ⟨v, s1, hs1, hs2⟩ := hr.split
  have hvn := hs1.ends.2
  obtain ⟨g1, g2⟩ := walk_dv h hb hb2 (by omega) hs1
  refine ⟨v, hvn, g1, fun k hk hkne => ?_⟩
  obtain ⟨a, ha⟩ := dv_walk h hvn hkne
  have hm := hmax _ ⟨_, _, _, ha.cat hs2, rfl⟩
  have hcn : ((l0 + c * n - n : Nat) : Int) = (l0 : Int) + c * n - n := by
    rw [Int.natCast_sub hlen]; simp
  have e1 : ((k + (l0 + c * n - n) : Nat) : Int) = (k : Int) + ((l0 : Int) + c * n - n) := by rw [Int.natCast_add, hcn]
  rw [e1, hx] at hm
  have h3 : s1 * q ≤ dv m n v * q := Int.mul_le_mul_of_nonneg_right g2 (by omega)
  have d1 : (dv m k v + (s0 + s * n - s1)) * q = dv m k v * q + s0 * q + s * n * q - s1 * q := by rw [Int.add_mul, Int.sub_mul, Int.add_mul]; omega
  have d2 : p * ((k : Int) + ((l0 : Int) + c * n - n)) = p * k + p * l0 + p * (c * n) - p * n := by rw [Int.mul_add, Int.mul_sub, Int.mul_add]; omega
  have d3 : s * n * q = p * (c * n) := by
    rw [show s * (n : Int) * q = s * q * n by rw [Int.mul_assoc, Int.mul_comm (n : Int) q, ← Int.mul_assoc], he, Int.mul_assoc]
  rw [d1, d2, d3] at hm
  rw [Int.sub_mul, Int.mul_sub]
  omega
end
end Go.Sheet
/- The greatest mean (greatestF) is the greatest mean of the cycles: plain. -/
namespace Go.Sheet
theorem frac_trans {a b c d e f : Int} (hd : 0 < d) (hb : 0 ≤ b) (hf : 0 ≤ f) (h1 : a * d ≤ c * b) (h2 : c * f ≤ e * d) : a * f ≤ e * b := by
  refine Int.le_of_mul_le_mul_right ?_ hd
  have e1 : a * f * d = a * d * f := by rw [Int.mul_assoc, Int.mul_comm f d, ← Int.mul_assoc]
  have e2 : e * b * d = e * d * b := by rw [Int.mul_assoc, Int.mul_comm b d, ← Int.mul_assoc]
  have e3 : c * b * f = c * f * b := by rw [Int.mul_assoc, Int.mul_comm b f, ← Int.mul_assoc]
  rw [e1, e2]
  have g1 := Int.mul_le_mul_of_nonneg_right h1 hf
  have g2 := Int.mul_le_mul_of_nonneg_right h2 hb
  omega
section
variable {n : Nat} {b : Int} {m : IMat}
theorem walksT_dv (m : IMat) {k v : Nat} (hk : k < n + 1) : at2 (walksT m (n + 1)) k v = dv m k v := by
  unfold at2 dv
  rw [show (walksT m (n + 1)).getD k [] = dRow m k by rw [List.getD_eq_getElem?_getD, walksT_at hk, Option.getD_some]]
theorem karpIn_spec (m : IMat) (n v : Nat) : ∀ (ks : List Nat) (s : Int × Int), (∀ k ∈ ks, k < n) → 0 < s.2 →
    0 < (karpIn (walksT m (n + 1)) n v ks s).2 ∧ (karpIn (walksT m (n + 1)) n v ks s).1 * s.2 ≤ s.1 * (karpIn (walksT m (n + 1)) n v ks s).2 ∧
    (∀ k ∈ ks, dv m k v ≠ noth → (karpIn (walksT m (n + 1)) n v ks s).1 * ((n : Int) - k) ≤ (dv m n v - dv m k v) * (karpIn (walksT m (n + 1)) n v ks s).2) ∧
    (karpIn (walksT m (n + 1)) n v ks s = s ∨ ∃ k ∈ ks, dv m k v ≠ noth ∧ karpIn (walksT m (n + 1)) n v ks s = (dv m n v - dv m k v, (n : Int) - k))
  | [], s, _, hs => ⟨hs, Int.le_refl _, (fun k h => by cases h), .inl rfl⟩
  | k :: ks, s, hk, hs => by
    have hkn := hk k (List.mem_cons_self ..)
    rw [karpIn, walksT_dv m (show k < n + 1 by omega), walksT_dv m (show n < n + 1 by omega)]
    by_cases hc : dv m k v ≠ noth ∧ (dv m n v - dv m k v) * s.2 < s.1 * ((n : Int) - k)
    · rw [if_pos hc]
      obtain ⟨h1, h2, h3, h4⟩ := karpIn_spec m n v ks (dv m n v - dv m k v, (n : Int) - k) (fun j hj => hk j (List.mem_cons_of_mem _ hj)) (by show 0 < (n : Int) - k; omega)
      generalize karpIn (walksT m (n + 1)) n v ks (dv m n v - dv m k v, (n : Int) - k) = r at *
      simp only at h2
      refine ⟨h1, frac_trans (d := (n : Int) - k) (by omega) (by omega) (by omega) h2 (by omega), fun j hj hne => ?_, .inr ?_⟩
      · rcases List.mem_cons.1 hj with rfl | hj
        · exact h2
        · exact h3 j hj hne
      · rcases h4 with h4 | ⟨j, hj, hne, e⟩
        · exact ⟨k, List.mem_cons_self .., hc.1, h4⟩
        · exact ⟨j, List.mem_cons_of_mem _ hj, hne, e⟩
    · rw [if_neg hc]
      obtain ⟨h1, h2, h3, h4⟩ := karpIn_spec m n v ks s (fun j hj => hk j (List.mem_cons_of_mem _ hj)) hs
      generalize karpIn (walksT m (n + 1)) n v ks s = r at *
      refine ⟨h1, h2, fun j hj hne => ?_, ?_⟩
      · rcases List.mem_cons.1 hj with rfl | hj
        · have h5 : s.1 * ((n : Int) - j) ≤ (dv m n v - dv m j v) * s.2 := by
            rcases Int.lt_or_le ((dv m n v - dv m j v) * s.2) (s.1 * ((n : Int) - j)) with g | g
            · exact absurd ⟨hne, g⟩ hc
            · exact g
          exact frac_trans hs (by omega) (by omega) h2 h5
        · exact h3 j hj hne
      · rcases h4 with h4 | ⟨j, hj, hne, e⟩
        · exact .inl h4
        · exact .inr ⟨j, List.mem_cons_of_mem _ hj, hne, e⟩
theorem karpV_spec (h : SqOk n b m) {v : Nat} (hv : v < n) :
    0 < (karpV (walksT m (n + 1)) n v).2 ∧
    (∀ k, k < n → dv m k v ≠ noth → (karpV (walksT m (n + 1)) n v).1 * ((n : Int) - k) ≤ (dv m n v - dv m k v) * (karpV (walksT m (n + 1)) n v).2) ∧
    ∃ k, k < n ∧ dv m k v ≠ noth ∧ karpV (walksT m (n + 1)) n v = (dv m n v - dv m k v, (n : Int) - k) := by
  have hz := dv_zero h hv
  have hne0 : dv m 0 v ≠ noth := by rw [hz]; unfold noth; decide
  unfold karpV
  rw [walksT_dv m (show n < n + 1 by omega), walksT_dv m (show 0 < n + 1 by omega)]
  obtain ⟨h1, h2, h3, h4⟩ := karpIn_spec m n v (List.range' 1 (n - 1)) (dv m n v - dv m 0 v, (n : Int)) (fun k hk => by have := List.mem_range'_1.1 hk; omega) (by show 0 < (n : Int); omega)
  generalize karpIn (walksT m (n + 1)) n v (List.range' 1 (n - 1)) (dv m n v - dv m 0 v, (n : Int)) = r at *
  simp only at h2
  refine ⟨h1, fun k hk hne => ?_, ?_⟩
  · by_cases e : k = 0
    · subst e
      rw [show (n : Int) - (0 : Nat) = n by omega]
      exact h2
    · exact h3 k (List.mem_range'_1.2 (by omega)) hne
  · rcases h4 with h4 | ⟨k, hk, hne, e⟩
    · exact ⟨0, by omega, hne0, by rw [h4]; simp⟩
    · have := List.mem_range'_1.1 hk
      exact ⟨k, by omega, hne, e⟩
/-- the best so far, behind the rows of D -/
def KG (m : IMat) (n : Nat) (g : Best3) (D : List Nat) : Prop :=
  0 < g.den ∧ (g.found = true → ∃ v ∈ D, dv m n v ≠ noth ∧ g.num = (karpV (walksT m (n + 1)) n v).1 ∧ g.den = (karpV (walksT m (n + 1)) n v).2) ∧
  ∀ v ∈ D, dv m n v ≠ noth → g.found = true ∧ (karpV (walksT m (n + 1)) n v).1 * g.den ≤ g.num * (karpV (walksT m (n + 1)) n v).2
theorem karpF_spec (h : SqOk n b m) : ∀ (vs D : List Nat) (g : Best3), (∀ v ∈ vs, v < n) → (∀ v ∈ D, v < n) → KG m n g D → KG m n (karpF (walksT m (n + 1)) n vs g) (D ++ vs)
  | [], D, g, _, _, hg => by rw [List.append_nil]; exact hg
  | v :: vs, D, g, hv, hD, hg => by
    have hvn := hv v (List.mem_cons_self ..)
    rw [karpF, show D ++ v :: vs = (D ++ [v]) ++ vs by simp, walksT_dv m (show n < n + 1 by omega)]
    refine karpF_spec h vs (D ++ [v]) _ (fun j hj => hv j (List.mem_cons_of_mem _ hj)) (fun j hj => by
      rcases List.mem_append.1 hj with hj | hj
      · exact hD j hj
      · rw [List.mem_singleton.1 hj]; exact hvn) ?_
    obtain ⟨g0, g1, g2⟩ := hg
    split
    · rename_i hno
      refine ⟨g0, fun hf => ?_, fun j hj hne => ?_⟩
      · obtain ⟨j, hj, e⟩ := g1 hf
        exact ⟨j, List.mem_append_left _ hj, e⟩
      · rcases List.mem_append.1 hj with hj | hj
        · exact g2 j hj hne
        · rw [List.mem_singleton.1 hj] at hne; exact absurd hno hne
    · rename_i hne
      obtain ⟨k1, _, _⟩ := karpV_spec h hvn
      unfold karpUp
      split
      · rename_i hc
        refine ⟨k1, fun _ => ⟨v, by simp, hne, rfl, rfl⟩, fun j hj hnj => ⟨rfl, ?_⟩⟩
        rcases List.mem_append.1 hj with hj | hj
        · obtain ⟨h1, h2⟩ := g2 j hj hnj
          have h3 : g.num * (karpV (walksT m (n + 1)) n v).2 < (karpV (walksT m (n + 1)) n v).1 * g.den := by
            rcases hc with hc | hc
            · rw [h1] at hc; cases hc
            · exact hc
          have hj1 := (karpV_spec h (hD j hj)).1
          exact frac_trans g0 (Int.le_of_lt hj1) (Int.le_of_lt k1) h2 (Int.le_of_lt h3)
        · rw [List.mem_singleton.1 hj]
          exact Int.le_refl _
      · rename_i hc
        have hf : g.found = true := by
          cases e : g.found
          · exact absurd (.inl e) hc
          · rfl
        refine ⟨g0, fun _ => ?_, fun j hj hnj => ?_⟩
        · obtain ⟨j, hj, e⟩ := g1 hf
          exact ⟨j, List.mem_append_left _ hj, e⟩
        · rcases List.mem_append.1 hj with hj | hj
          · exact g2 j hj hnj
          · rw [List.mem_singleton.1 hj]
            refine ⟨hf, ?_⟩
            rcases Int.lt_or_le (g.num * (karpV (walksT m (n + 1)) n v).2) ((karpV (walksT m (n + 1)) n v).1 * g.den) with k | k
            · exact absurd (.inr k) hc
            · exact k
theorem greatest_KG (h : SqOk n b m) : KG m n (greatestF m) (List.range n) := by
  unfold greatestF
  rw [h.n_eq]
  have := karpF_spec h (List.range n) [] ⟨0, 1, false⟩ (fun v hv => List.mem_range.1 hv) (fun v hv => by cases hv) ⟨by decide, (fun hf => by cases hf), (fun v hv => by cases hv)⟩
  rwa [List.nil_append] at this
/-- where a closed walk reaches the bound, greatestF is the bound -/
theorem greatest_eq (h : SqOk n b m) (hb : 0 ≤ b) (hb2 : b ≤ 30000000000) (hn : n ≤ 24) {p q : Int} (hU : Up m n p q) (hq : 0 < q) {c u : Nat} {s : Int} (hc : 1 ≤ c) (hw : WalkP m n c u u s) (he : s * q = p * (c : Int)) :
    (greatestF m).found = true ∧ 0 < (greatestF m).den ∧ (greatestF m).num * q = p * (greatestF m).den := by
  obtain ⟨g0, g1, g2⟩ := greatest_KG h
  obtain ⟨v, hv, hne, hk⟩ := karp_two h hb hb2 hn hU hq hc hw he
  obtain ⟨hf, hle⟩ := g2 v (List.mem_range.2 hv) hne
  refine ⟨hf, g0, ?_⟩
  obtain ⟨v1, hv1, hne1, e1, e2⟩ := g1 hf
  have hv1n := List.mem_range.1 hv1
  obtain ⟨k, hkn, hkne, hk1⟩ := karp_one h hb hb2 hn hU hv1n hne1 hq
  obtain ⟨a1, a2, _⟩ := karpV_spec h hv1n
  obtain ⟨b1, _, j, hjn, hjne, ej⟩ := karpV_spec h hv
  have up1 : (greatestF m).num * q ≤ p * (greatestF m).den := by
    have := a2 k hkn hkne
    rw [← e1, ← e2] at this
    exact frac_trans (d := (n : Int) - k) (by omega) (by omega) (by omega) this hk1
  have lo1 : p * (greatestF m).den ≤ (greatestF m).num * q := by
    have h3 := hk j hjn hjne
    rw [ej] at hle
    exact frac_trans (d := (n : Int) - j) (by omega) (by omega) (by omega) h3 hle
  omega
/-- where something is found, there is a closed walk -/
theorem greatest_walk (h : SqOk n b m) (hf : (greatestF m).found = true) : ∃ c v s, 1 ≤ c ∧ WalkP m n c v v s := by
  obtain ⟨_, g1, _⟩ := greatest_KG h
  obtain ⟨v, hv, hne, _⟩ := g1 hf
  obtain ⟨a, ha⟩ := dv_walk h (List.mem_range.1 hv) hne
  obtain ⟨f, S, hF, _⟩ := ha.fn
  obtain ⟨t1, t2, h2, h3, e⟩ := pigeonQ (f := f) (N := n) (k := n + 1) (fun t ht => hF.lt t (by omega)) (by omega)
  have i1 := hF.part t1 (t2 - t1) (by omega)
  rw [show t1 + (t2 - t1) = t2 by omega, ← e] at i1
  exact ⟨_, _, _, by omega, i1⟩
/-- a closed walk has a simple cycle in it -/
theorem cyc_of_walk : ∀ c v s, 1 ≤ c → WalkP m n c v v s → ∃ c' f s', Cyc m n c' f s' := by
  intro c
  induction c using Nat.strongRecOn with
  | _ c ih =>
    intro v s h1 h
    obtain ⟨f, S, hF, h0, hl, hS0, hSl⟩ := h.fn
    by_cases hi : ∀ i j, i < c → j < c → f i = f j → i = j
    · exact ⟨c, f, s, h1, hi, S, hF, hl.trans h0.symm, hS0, hSl⟩
    · have : ∃ t1 t2, t1 < t2 ∧ t2 < c ∧ f t1 = f t2 := by
        refine Classical.byContradiction fun hno => hi fun a b ha hb e => ?_
        rcases Nat.lt_trichotomy a b with h | h | h
        · exact absurd ⟨a, b, h, hb, e⟩ hno
        · exact h
        · exact absurd ⟨b, a, h, ha, e.symm⟩ hno
      obtain ⟨t1, t2, h2, h3, e⟩ := this
      have i1 := hF.part t1 (t2 - t1) (by omega)
      rw [show t1 + (t2 - t1) = t2 by omega, ← e] at i1
      exact ih (t2 - t1) (by omega) _ _ (by omega) i1
end
end Go.Sheet
/- Less the mean: the greatest sums of walks (topF), and tight steps: plain. -/
namespace Go.Sheet
section
variable {n : Nat} {B : Int} {L : IMat}
/-- each place holds the sum of a walk; the walks of at most j steps are not above -/
structure TopW (L : IMat) (n : Nat) (t : List Int) : Prop where
  len : t.length = n
  wk : ∀ i, i < n → ∃ l a, WalkP L n l a i (t.getD i 0)
def TopG (L : IMat) (n j : Nat) (t : List Int) : Prop := ∀ l a i s, l ≤ j → WalkP L n l a i s → s ≤ t.getD i 0
theorem getD_set2 {l : List Int} {i j : Nat} {x : Int} (h : i < l.length) : (l.set i x).getD j 0 = if j = i then x else l.getD j 0 := by
  rw [getD_setT]
  by_cases e : i = j
  · subst e; rw [if_pos ⟨rfl, h⟩, if_pos rfl]
  · rw [if_neg (fun g => e g.1), if_neg (fun g => e g.symm)]
theorem prodX_edge {x y : Int} (hx : x ≠ noth) (hy : y ≠ noth) : prodX x y = x + y := by
  unfold prodX; rw [if_neg (fun h => h.elim hx hy)]
/-- one sweep -/
theorem sweep_spec (h : SqOk n B L) : ∀ (rows : List (List Int)) (i : Nat) (t : List Int), rows = L.drop i → TopW L n t → (∀ k, k < n → t.getD k 0 ≠ noth ∧ 0 ≤ t.getD k 0) →
    TopW L n (topSweep i rows t) ∧ (∀ k, t.getD k 0 ≤ (topSweep i rows t).getD k 0) ∧ ∀ j k, i ≤ j → j < n → k < n → at2 L j k ≠ noth → at2 L j k + t.getD k 0 ≤ (topSweep i rows t).getD j 0
  | [], i, t, hr, ht, _ => by
    refine ⟨ht, fun k => Int.le_refl _, fun j k hij hj _ _ => ?_⟩
    have hd := congrArg List.length hr
    rw [List.length_drop, h.n_eq] at hd
    simp at hd
    omega
  | r :: rows, i, t, hr, ht, hp => by
    have hi : i < n := by
      have hd := congrArg List.length hr
      rw [List.length_drop, h.n_eq] at hd
      simp at hd
      omega
    have hli : i < L.length := by rw [h.n_eq]; exact hi
    have hre : r = L.getD i [] ∧ rows = L.drop (i + 1) := by
      rw [List.drop_eq_getElem_cons hli] at hr
      injection hr with e1 e2
      exact ⟨by rw [e1, List.getD_eq_getElem?_getD, List.getElem?_eq_getElem hli]; rfl, e2⟩
    obtain ⟨e1, e2⟩ := hre
    have hrl : r.length = n := by rw [e1]; exact (h.row hi).1
    have hat : ∀ k, r.getD k 0 = at2 L i k := fun k => by rw [e1]; rfl
    rw [topSweep]
    have hnew : ∀ k, (t.set i (max (t.getD i 0) (timesR r t))).getD k 0 = if k = i then max (t.getD i 0) (timesR r t) else t.getD k 0 := fun k => getD_set2 (by rw [ht.len]; exact hi)
    have hup : ∀ k, t.getD k 0 ≤ (t.set i (max (t.getD i 0) (timesR r t))).getD k 0 := fun k => by
      rw [hnew]
      split
      · rename_i e; rw [e]; omega
      · exact Int.le_refl _
    have hge : ∀ k, k < n → at2 L i k ≠ noth → at2 L i k + t.getD k 0 ≤ timesR r t := fun k hk hne => by
      have := timesF_at r t noth k (by omega) (by rw [ht.len]; exact hk)
      rw [hat, prodX_edge hne (hp k hk).1] at this
      exact this
    have ht2 : TopW L n (t.set i (max (t.getD i 0) (timesR r t))) := by
      refine ⟨by rw [List.length_set, ht.len], fun k hk => ?_⟩
      rw [hnew]
      split
      · rename_i e
        subst e
        rcases Int.le_total (timesR r t) (t.getD k 0) with g | g
        · rw [show max (t.getD k 0) (timesR r t) = t.getD k 0 by omega]
          exact ht.wk k hk
        · rw [show max (t.getD k 0) (timesR r t) = timesR r t by omega]
          rcases timesF_from r t noth with e | ⟨c, hc1, hc2, e⟩
          · have : timesR r t = noth := e
            have h0 := (hp k hk).2
            rw [this] at g
            unfold noth at g
            omega
          · have hc : c < n := by omega
            have hte : timesR r t = prodX (at2 L k c) (t.getD c 0) := by rw [← hat]; exact e
            by_cases hne : at2 L k c = noth
            · have : timesR r t = noth := by rw [hte]; unfold prodX; rw [if_pos (.inl hne)]
              have h0 := (hp k hk).2
              rw [this] at g
              unfold noth at g
              omega
            · rw [hte, prodX_edge hne (hp c hc).1]
              obtain ⟨l, a, hw⟩ := ht.wk c hc
              exact ⟨l + 1, a, by rw [Int.add_comm]; exact hw.snoc hk hne⟩
      · exact ht.wk k hk
    have hp2 : ∀ k, k < n → (t.set i (max (t.getD i 0) (timesR r t))).getD k 0 ≠ noth ∧ 0 ≤ (t.set i (max (t.getD i 0) (timesR r t))).getD k 0 := fun k hk => by
      have h1 := hup k
      have h2 := (hp k hk).2
      exact ⟨by unfold noth; omega, by omega⟩
    obtain ⟨a1, a2, a3⟩ := sweep_spec h rows (i + 1) _ e2 ht2 hp2
    refine ⟨a1, fun k => Int.le_trans (hup k) (a2 k), fun j k hij hj hk hne => ?_⟩
    by_cases e : j = i
    · subst e
      have h1 := a2 j
      rw [hnew, if_pos rfl] at h1
      have h2 := hge k hk hne
      omega
    · have h1 := a3 j k (by omega) hj hk hne
      have h2 := hup k
      omega
theorem topIt_spec (h : SqOk n B L) : ∀ (k j : Nat) (t : List Int), TopW L n t → (∀ k, k < n → t.getD k 0 ≠ noth ∧ 0 ≤ t.getD k 0) → TopG L n j t →
    TopW L n (topIt L k t) ∧ (∀ c, c < n → 0 ≤ (topIt L k t).getD c 0) ∧ TopG L n (j + k) (topIt L k t)
  | 0, j, t, h1, h2, h3 => ⟨h1, fun c hc => (h2 c hc).2, h3⟩
  | k + 1, j, t, h1, h2, h3 => by
    rw [topIt]
    obtain ⟨a1, a2, a3⟩ := sweep_spec h L 0 t (by simp) h1 h2
    have := topIt_spec h k (j + 1) (topSweep 0 L t) a1 (fun c hc => by
      have g1 := a2 c
      have g2 := (h2 c hc).2
      exact ⟨by unfold noth; omega, by omega⟩) (fun l a i s hl hw => by
      cases l with
      | zero =>
        have g1 := h3 0 a i s (by omega) hw
        have g2 := a2 i
        omega
      | succ l =>
        obtain ⟨hi, c, hne, hc⟩ := hw
        have g1 := h3 l a c _ (by omega) hc
        have g2 := a3 i c (by omega) hi hc.ends.2 hne
        omega)
    rw [show j + (k + 1) = j + 1 + k by omega]
    exact this
/-- the sums are not below any walk's, and not below any step's -/
theorem topF_spec (h : SqOk n B L) (hU : Up L n 0 1) : TopW L n (topF L n) ∧ (∀ i k, i < n → k < n → at2 L i k ≠ noth → (topF L n).getD k 0 + at2 L i k ≤ (topF L n).getD i 0) := by
  have hz : ∀ k, k < n → (List.replicate n (0 : Int)).getD k 0 = 0 := fun k hk => by
    rw [List.getD_eq_getElem?_getD, List.getElem?_replicate, if_pos hk]; rfl
  obtain ⟨a1, a2, a3⟩ := topIt_spec h n 0 (List.replicate n 0) ⟨by simp, fun i hi => ⟨0, i, hi, rfl, hz i hi⟩⟩ (fun k hk => by rw [hz k hk]; exact ⟨by unfold noth; decide, Int.le_refl _⟩) (fun l a i s hl hw => by
    obtain rfl : l = 0 := by omega
    obtain ⟨hi, rfl, rfl⟩ := hw
    rw [hz a hi]
    exact Int.le_refl _)
  refine ⟨a1, fun i k hi hk hne => ?_⟩
  obtain ⟨l, a, hw⟩ := a1.wk k hk
  obtain ⟨l', s', h1, _, h3, h4⟩ := hU.short2 (hw.snoc hi hne)
  have := a3 l' a i s' (by omega) h3
  show (topIt L n (List.replicate n 0)).getD k 0 + at2 L i k ≤ (topIt L n (List.replicate n 0)).getD i 0
  omega
/-- a step that leaves nothing -/
def Tgt (L : IMat) (n : Nat) (T : List Int) (i k : Nat) : Prop := i < n ∧ k < n ∧ at2 L i k ≠ noth ∧ T.getD k 0 + at2 L i k = T.getD i 0
/-- the steps of a cycle that is 0 are tight -/
theorem cyc_tight {T : List Int} (hT : ∀ i k, i < n → k < n → at2 L i k ≠ noth → T.getD k 0 + at2 L i k ≤ T.getD i 0) {c : Nat} {f : Nat → Nat} (h : Cyc L n c f 0) : ∀ t, t < c → Tgt L n T (f (t + 1)) (f t) := by
  obtain ⟨_, _, S, hS, he, h0, hs⟩ := h
  have hm : ∀ d t, t + d ≤ c → T.getD (f t) 0 - S t ≤ T.getD (f (t + d)) 0 - S (t + d) := by
    intro d
    induction d with
    | zero => intro t _; exact Int.le_refl _
    | succ d ih =>
      intro t ht
      have h1 := ih t (by omega)
      obtain ⟨h2, h3⟩ := hS.ed (t + d) (by omega)
      have h4 := hT _ _ (hS.lt (t + d + 1) (by omega)) (hS.lt (t + d) (by omega)) h2
      rw [show t + (d + 1) = t + d + 1 by omega, h3]
      omega
  intro t ht
  obtain ⟨h2, h3⟩ := hS.ed t ht
  refine ⟨hS.lt _ (by omega), hS.lt _ (by omega), h2, ?_⟩
  have g1 := hm t 0 (by omega)
  have g2 := hm (c - (t + 1)) (t + 1) (by omega)
  have g3 := hT _ _ (hS.lt (t + 1) (by omega)) (hS.lt t (by omega)) h2
  rw [Nat.zero_add, h0] at g1
  rw [show t + 1 + (c - (t + 1)) = c by omega, hs, he] at g2
  omega
/-- who stands on a cycle of tight steps has an endless way -/
theorem tight_acc {T : List Int} {c : Nat} {f : Nat → Nat} (hc : 1 ≤ c) (he : f c = f 0) (h : ∀ t, t < c → Tgt L n T (f (t + 1)) (f t)) {x : Nat} (hx : Acc (fun k i => Tgt L n T i k) x) : ∀ t, t ≤ c → f t ≠ x := by
  induction hx with
  | intro x _ ih =>
    intro t ht e
    subst e
    by_cases h0 : t = 0
    · subst h0
      have := h (c - 1) (by omega)
      rw [show c - 1 + 1 = c by omega, he] at this
      exact ih _ this (c - 1) (by omega) rfl
    · have := h (t - 1) (by omega)
      rw [show t - 1 + 1 = t by omega] at this
      exact ih _ this (t - 1) (by omega) rfl
end
section
variable {n : Nat} {m : IMat} {g : Best3}
theorem less_at (h : SqOk n 999999999 (insideM m)) {i k : Nat} (hi : i < n) (hk : k < n) : at2 (lessM m g) i k = lessX g (at2 (insideM m) i k) := by
  have hl : i < (insideM m).length := by rw [h.n_eq]; exact hi
  have hr := (h.row hi).1
  have e1 : (insideM m).getD i [] = (insideM m)[i] := by rw [List.getD_eq_getElem?_getD, List.getElem?_eq_getElem hl]; rfl
  have e2 : (lessM m g).getD i [] = ((insideM m)[i]).map (lessX g) := by
    unfold lessM
    rw [List.getD_eq_getElem?_getD, List.getElem?_map, List.getElem?_eq_getElem hl]; rfl
  unfold at2
  rw [e1] at hr ⊢
  rw [e2]
  generalize (insideM m)[i] = r at *
  rw [List.getD_eq_getElem?_getD (l := r.map (lessX g)), List.getElem?_map, List.getD_eq_getElem?_getD (l := r), List.getElem?_eq_getElem (show k < r.length by omega)]
  rfl
theorem less_edge (h : SqOk n 999999999 (insideM m)) (hg : B3Ok g) {i k : Nat} (hi : i < n) (hk : k < n) : (at2 (lessM m g) i k ≠ noth ↔ at2 (insideM m) i k ≠ noth) ∧ (at2 (insideM m) i k ≠ noth → at2 (lessM m g) i k = at2 (insideM m) i k * g.den - g.num) := by
  rw [less_at h hi hk]
  have hb := lessX_bd (b := g) (h.at_bd hi hk) hg.1 hg.2
  have hx := h.at_bd hi hk
  generalize at2 (insideM m) i k = x at *
  unfold lessX at hb ⊢
  by_cases e : x = noth
  · rw [if_pos e]
    exact ⟨⟨fun h => absurd e h, fun h => absurd e h⟩, fun h => absurd e h⟩
  · rw [if_neg e] at hb ⊢
    refine ⟨⟨fun _ => e, fun _ e2 => ?_⟩, fun _ => rfl⟩
    obtain ⟨⟨n1, n2⟩, d1, d2⟩ := hg
    rcases hx with hx | hx
    · exact e hx
    · have a1 : -999999999 * 24 ≤ x * g.den := by
        rcases Int.le_total 0 x with q | q
        · have := Int.mul_nonneg q (show 0 ≤ g.den by omega); omega
        · have := Int.mul_le_mul (show -x ≤ 999999999 by omega) d2 (by omega) (by omega)
          rw [Int.neg_mul] at this
          omega
      unfold noth at e2
      omega
theorem less_walk (h : SqOk n 999999999 (insideM m)) (hg : B3Ok g) : ∀ {l a b : Nat} {s : Int}, WalkP (lessM m g) n l a b s → ∃ s0, WalkP (insideM m) n l a b s0 ∧ s = s0 * g.den - g.num * l
  | 0, a, b, s, hw => by
    obtain ⟨ha, e, rfl⟩ := hw
    exact ⟨0, ⟨ha, e, rfl⟩, by simp⟩
  | l + 1, a, b, s, hw => by
    obtain ⟨hb, k, hne, hk⟩ := hw
    obtain ⟨s0, h1, h2⟩ := less_walk h hg hk
    obtain ⟨e1, e2⟩ := less_edge h hg hb hk.ends.2
    have hne2 := e1.1 hne
    refine ⟨s0 + at2 (insideM m) b k, h1.snoc hb hne2, ?_⟩
    rw [e2 hne2] at h2
    have d1 : (s0 + at2 (insideM m) b k) * g.den = s0 * g.den + at2 (insideM m) b k * g.den := Int.add_mul _ _ _
    have d2 : g.num * ((l + 1 : Nat) : Int) = g.num * l + g.num := by rw [Int.natCast_add, Int.mul_add]; omega
    omega
theorem less_up (h : SqOk n 999999999 (insideM m)) (hg : B3Ok g) (hU : Up (insideM m) n g.num g.den) : Up (lessM m g) n 0 1 := by
  intro c v s hc hw
  obtain ⟨s0, h1, h2⟩ := less_walk h hg hw
  have := hU c v s0 hc h1
  omega
theorem less_cyc (h : SqOk n 999999999 (insideM m)) (hg : B3Ok g) {c : Nat} {f : Nat → Nat} {s : Int} (hc : Cyc (insideM m) n c f s) (he : s * g.den = g.num * c) : Cyc (lessM m g) n c f 0 := by
  obtain ⟨h1, h2, S, hS, h3, h4, h5⟩ := hc
  refine ⟨h1, h2, fun t => S t * g.den - g.num * t, ⟨hS.lt, fun t ht => ?_⟩, h3, by simp [h4], by show S c * g.den - g.num * c = 0; rw [h5]; omega⟩
  obtain ⟨a1, a2⟩ := hS.ed t ht
  obtain ⟨e1, e2⟩ := less_edge (g := g) h hg (hS.lt (t + 1) (by omega)) (hS.lt t (by omega))
  refine ⟨e1.2 a1, ?_⟩
  show S (t + 1) * g.den - g.num * ((t + 1 : Nat) : Int) = S t * g.den - g.num * t + _
  rw [e2 a1, a2]
  have d1 : (S t + at2 (insideM m) (f (t + 1)) (f t)) * g.den = S t * g.den + at2 (insideM m) (f (t + 1)) (f t) * g.den := Int.add_mul _ _ _
  have d2 : g.num * ((t + 1 : Nat) : Int) = g.num * t + g.num := by rw [Int.natCast_add, Int.mul_add]; omega
  omega
end
end Go.Sheet
