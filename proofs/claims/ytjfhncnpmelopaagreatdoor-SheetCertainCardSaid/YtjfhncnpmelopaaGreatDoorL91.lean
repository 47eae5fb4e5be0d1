/- The greatest worth of assignments: prices, weak duality, and what the matching gives. Plain law. -/
import Derived.Test.YtjfhncnpmelopaaGreatDoorB08
import Derived.Test.YtjfhncnpmelopaaGreatDoorB16
import Derived.Test.YtjfhncnpmelopaaGreatDoorB10
import Derived.Test.YtjfhncnpmelopaaGreatDoorB09
import Derived.Test.YtjfhncnpmelopaaGreatDoorB12
import Derived.Test.YtjfhncnpmelopaaGreatDoorB11
import Derived.Laws.Tables
import Derived.Laws.Rows
set_option linter.unusedVariables false
set_option linter.unusedSimpArgs false
set_option linter.unusedSectionVars false
set_option linter.constructorNameAsVariable false
namespace Go.Sheet
/-- how often a number stands in a list -/
def cntI (k : Int) : List Int → Int
  | [] => 0
  | s :: a => (if s = k then 1 else 0) + cntI k a
theorem cntI_nonneg (k : Int) : ∀ a, 0 ≤ cntI k a
  | [] => Int.le_refl _
  | s :: a => by have := cntI_nonneg k a; rw [cntI]; split <;> omega
theorem cntI_append (k : Int) : ∀ a b, cntI k (a ++ b) = cntI k a + cntI k b
  | [], b => by simp [cntI]
  | s :: a, b => by rw [List.cons_append, cntI, cntI, cntI_append k a b]; omega
theorem cntI_none (k : Int) : ∀ a, (∀ x ∈ a, x ≠ k) → cntI k a = 0
  | [], _ => rfl
  | s :: a, h => by rw [cntI, if_neg (h s (List.mem_cons_self ..)), cntI_none k a fun x hx => h x (List.mem_cons_of_mem _ hx)]; rfl
theorem cntI_replicate (k : Int) : ∀ n : Nat, cntI k (List.replicate n k) = n
  | 0 => rfl
  | n + 1 => by rw [List.replicate_succ, cntI, if_pos rfl, cntI_replicate k n]; omega
/-- an assignment: -1 or a wished slot for each request, no slot above its places -/
structure AOk (l : List Slot) (rs : List RQ) (a : List Int) : Prop where
  len : a.length = rs.length
  wish : ∀ (i : Nat) x s, rs[i]? = some x → a[i]? = some s → s = -1 ∨ hasWish x s = true
  cap : ∀ (k : Nat) s, l[k]? = some s → cntI (k : Int) a ≤ s.p
def wsv (sv : RQ → Wish → Int) (x : RQ) (s : Int) : Int := match x.ws.find? fun y => y.s == s with
  | some y => sv x y
  | none => 0
def worthA (sv : RQ → Wish → Int) : List RQ → List Int → Int
  | x :: rs, s :: a => wsv sv x s + worthA sv rs a
  | _, _ => 0
def priceAt (P : List Int) (s : Int) : Int := if s < 0 then 0 else P.getD s.toNat 0
def payA (P : List Int) : List Int → Int
  | [] => 0
  | s :: a => priceAt P s + payA P a
def payB (k : Nat) (P : List Int) : List Int → Int
  | [] => 0
  | s :: a => (if (k : Int) ≤ s then P.getD (s.toNat - k) 0 else 0) + payB k P a
theorem payA_payB (P : List Int) : ∀ a, payA P a = payB 0 P a
  | [] => rfl
  | s :: a => by
    rw [payA, payB, payA_payB P a, priceAt]
    by_cases h : s < 0
    · rw [if_pos h, if_neg (by omega)]
    · rw [if_neg h, if_pos (by omega), Nat.sub_zero]
theorem payB_nil (k : Nat) : ∀ a, payB k [] a = 0
  | [] => rfl
  | s :: a => by rw [payB, payB_nil k a]; simp
theorem payB_cons (k : Nat) (q : Int) (P : List Int) : ∀ a, payB k (q :: P) a = cntI k a * q + payB (k + 1) P a
  | [] => by simp [payB, cntI]
  | s :: a => by
    rw [payB, payB, cntI, payB_cons k q P a]
    have key : (if (k : Int) ≤ s then (q :: P).getD (s.toNat - k) 0 else 0) = (if s = k then 1 else 0) * q + (if ((k + 1 : Nat) : Int) ≤ s then P.getD (s.toNat - (k + 1)) 0 else 0) := by
      by_cases h1 : s = k
      · subst h1; rw [if_pos (Int.le_refl _), if_pos rfl, if_neg (by omega)]; simp
      · by_cases h2 : (k : Int) ≤ s
        · rw [if_pos h2, if_neg h1, if_pos (by omega), show s.toNat - k = (s.toNat - (k + 1)) + 1 by omega, List.getD_cons_succ]; simp
        · rw [if_neg h2, if_neg h1, if_neg (by omega)]; simp
    rw [key, Int.add_mul]; omega
theorem payB_append (k : Nat) (P : List Int) : ∀ a b, payB k P (a ++ b) = payB k P a + payB k P b
  | [], b => by simp [payB]
  | s :: a, b => by rw [List.cons_append, payB, payB, payB_append k P a b]; omega
theorem pay_le : ∀ (l : List Slot) (P : List Int) (k : Nat) (a : List Int), P.length = l.length → (∀ x ∈ P, 0 ≤ x) → (∀ (j : Nat) s, l[j]? = some s → cntI ((k + j : Nat) : Int) a ≤ s.p) → payB k P a ≤ prSum P l
  | [], P, k, a, hl, _, _ => by
    have : P = [] := List.eq_nil_of_length_eq_zero (by simpa using hl)
    subst this
    rw [payB_nil]; exact Int.le_refl _
  | s :: l, [], k, a, hl, _, _ => by simp at hl
  | s :: l, q :: P, k, a, hl, h0, hc => by
    have h1 := pay_le l P (k + 1) a (by simpa using hl) (fun x hx => h0 x (List.mem_cons_of_mem _ hx)) (fun j t ht => by
      have := hc (j + 1) t (by simpa using ht)
      rwa [show k + (j + 1) = k + 1 + j by omega] at this)
    have h2 := hc 0 s rfl
    have h3 := h0 q (List.mem_cons_self ..)
    rw [Nat.add_zero] at h2
    have h4 : cntI (k : Int) a * q ≤ s.p * q := Int.mul_le_mul_of_nonneg_right h2 h3
    rw [payB_cons, prSum, Int.mul_comm q s.p]; omega
theorem worth_pay (sv : RQ → Wish → Int) (P : List Int) : ∀ (rs : List RQ) (a U : List Int), a.length = rs.length → U.length = rs.length →
    (∀ (i : Nat) x s u, rs[i]? = some x → a[i]? = some s → U[i]? = some u → wsv sv x s ≤ u + priceAt P s) → worthA sv rs a ≤ sumF U + payA P a
  | [], a, U, ha, hU, _ => by
    have h1 : a = [] := List.eq_nil_of_length_eq_zero (by simpa using ha)
    have h2 : U = [] := List.eq_nil_of_length_eq_zero (by simpa using hU)
    subst h1 h2
    exact Int.le_refl _
  | x :: rs, [], U, ha, _, _ => by simp at ha
  | x :: rs, s :: a, [], _, hU, _ => by simp at hU
  | x :: rs, s :: a, u :: U, ha, hU, h => by
    have h1 := worth_pay sv P rs a U (by simpa using ha) (by simpa using hU) (fun i x s u a b c => h (i + 1) x s u (by simpa using a) (by simpa using b) (by simpa using c))
    have h2 := h 0 x s u rfl rfl rfl
    rw [worthA, sumF, payA]; omega
/-- WEAK DUALITY -/
theorem weak_duality {l : List Slot} {rs : List RQ} {a U P : List Int} {sv : RQ → Wish → Int} (ha : AOk l rs a) (hU : U.length = rs.length) (hP : P.length = l.length) (h0 : ∀ x ∈ P, 0 ≤ x)
    (h : ∀ (i : Nat) x s u, rs[i]? = some x → a[i]? = some s → U[i]? = some u → wsv sv x s ≤ u + priceAt P s) : worthA sv rs a ≤ sumF U + prSum P l := by
  have h1 := worth_pay sv P rs a U ha.len hU h
  have h2 := pay_le l P 0 a hP h0 (fun j s hs => by rw [Nat.zero_add]; exact ha.cap j s hs)
  rw [payA_payB] at h1
  omega
/- the columns -/
theorem plc_bd : ∀ (l : List Slot) (k : Nat), ∀ x ∈ plc k l, (k : Int) ≤ x ∧ x < ((k + l.length : Nat) : Int)
  | [], _ => fun x hx => by cases hx
  | s :: l, k => fun x hx => by
    rw [plc, List.mem_append] at hx
    rcases hx with hx | hx
    · have := List.eq_of_mem_replicate hx
      subst this
      simp only [List.length_cons]; omega
    · have := plc_bd l (k + 1) x hx
      simp only [List.length_cons]; omega
theorem pay_plc : ∀ (l : List Slot) (P : List Int) (k : Nat), P.length = l.length → (∀ s ∈ l, 0 ≤ s.p) → payB k P (plc k l) = prSum P l
  | [], P, k, hl, _ => by
    have : P = [] := List.eq_nil_of_length_eq_zero (by simpa using hl)
    subst this
    rfl
  | s :: l, [], k, hl, _ => by simp at hl
  | s :: l, q :: P, k, hl, h0 => by
    have h1 := pay_plc l P (k + 1) (by simpa using hl) (fun x hx => h0 x (List.mem_cons_of_mem _ hx))
    have h2 := h0 s (List.mem_cons_self ..)
    rw [plc, payB_cons, cntI_append, cntI_replicate, cntI_none _ (plc (k + 1) l) (fun x hx => by have := plc_bd l (k + 1) x hx; omega), payB_append, h1, prSum]
    have e : payB (k + 1) P (List.replicate s.p.toNat (k : Int)) = 0 := by
      generalize s.p.toNat = n
      induction n with
      | zero => rfl
      | succ n ih => rw [List.replicate_succ, payB, if_neg (by omega), ih]; rfl
    rw [e, Int.toNat_of_nonneg h2, Int.mul_comm q s.p, Int.add_zero]; omega
theorem cnt_plc : ∀ (l : List Slot) (k j : Nat) (s : Slot), l[j]? = some s → 0 ≤ s.p → cntI ((k + j : Nat) : Int) (plc k l) = s.p
  | [], _, _, _, h, _ => by simp at h
  | t :: l, k, 0, s, h, h0 => by
    simp at h
    subst h
    rw [plc, cntI_append, Nat.add_zero, cntI_replicate, cntI_none _ (plc (k + 1) l) (fun x hx => by have := plc_bd l (k + 1) x hx; omega)]
    omega
  | t :: l, k, j + 1, s, h, h0 => by
    have h1 := cnt_plc l (k + 1) j s (by simpa using h) h0
    rw [plc, cntI_append, cntI_none _ (List.replicate t.p.toNat (k : Int)) (fun x hx => by have := List.eq_of_mem_replicate hx; omega), show k + (j + 1) = k + 1 + j by omega, h1]
    omega
/- finite sums -/
def sm : Nat → (Nat → Int) → Int
  | 0, _ => 0
  | n + 1, f => sm n f + f n
theorem sm_congr {n : Nat} {f g : Nat → Int} (h : ∀ i, i < n → f i = g i) : sm n f = sm n g := by
  induction n with
  | zero => rfl
  | succ n ih => rw [sm, sm, ih fun i hi => h i (by omega), h n (by omega)]
theorem sm_le {n : Nat} {f g : Nat → Int} (h : ∀ i, i < n → f i ≤ g i) : sm n f ≤ sm n g := by
  induction n with
  | zero => exact Int.le_refl _
  | succ n ih => have := ih fun i hi => h i (by omega); have := h n (by omega); rw [sm, sm]; omega
theorem sm_zero (n : Nat) : sm n (fun _ => 0) = 0 := by
  induction n with
  | zero => rfl
  | succ n ih => rw [sm, ih]; rfl
theorem sm_add (n : Nat) (f g : Nat → Int) : sm n (fun i => f i + g i) = sm n f + sm n g := by
  induction n with
  | zero => rfl
  | succ n ih => rw [sm, sm, sm, ih]; omega
theorem sm_swap (n m : Nat) (f : Nat → Nat → Int) : sm n (fun i => sm m fun k => f i k) = sm m (fun k => sm n fun i => f i k) := by
  induction n with
  | zero => rw [sm]; exact (sm_zero m).symm
  | succ n ih =>
    rw [sm, ih, ← sm_add]
    exact sm_congr fun k _ => rfl
theorem sm_single {n j : Nat} {f : Nat → Int} (hj : j < n) (h : ∀ i, i < n → i ≠ j → f i = 0) : sm n f = f j := by
  induction n with
  | zero => omega
  | succ n ih =>
    rw [sm]
    by_cases e : j = n
    · subst e
      rw [sm_congr (g := fun _ => 0) (fun i hi => h i (by omega) (by omega)), sm_zero]; omega
    · rw [ih (by omega) (fun i hi hn => h i (by omega) hn), h n (by omega) (by omega)]; omega
theorem sm_shift (n : Nat) (f : Nat → Int) : sm (n + 1) f = f 0 + sm n (fun i => f (i + 1)) := by
  induction n with
  | zero => rw [sm, sm, sm]; omega
  | succ n ih => rw [sm, ih, sm]; omega
theorem sumF_sm : ∀ U : List Int, sumF U = sm U.length (fun j => U.getD j 0)
  | [] => rfl
  | u :: U => by rw [sumF, List.length_cons, sm_shift, sumF_sm U]; rfl
theorem payA_sm (P : List Int) : ∀ a : List Int, payA P a = sm a.length (fun j => priceAt P (a.getD j 0))
  | [] => rfl
  | s :: a => by rw [payA, List.length_cons, sm_shift, payA_sm P a]; rfl
theorem cntI_sm (k : Int) : ∀ a : List Int, cntI k a = sm a.length (fun j => if a.getD j 0 = k then 1 else 0)
  | [] => rfl
  | s :: a => by rw [cntI, List.length_cons, sm_shift, cntI_sm k a]; rfl
def wAt (sv : RQ → Wish → Int) (rs : List RQ) (j : Nat) (s : Int) : Int := match rs[j]? with
  | some x => wsv sv x s
  | none => 0
theorem worthA_sm (sv : RQ → Wish → Int) : ∀ (rs : List RQ) (a : List Int), a.length = rs.length → worthA sv rs a = sm rs.length (fun j => wAt sv rs j (a.getD j 0))
  | [], a, _ => by rw [worthA]; rfl; intros; contradiction
  | x :: rs, [], h => by simp at h
  | x :: rs, s :: a, h => by rw [worthA, List.length_cons, sm_shift, worthA_sm sv rs a (by simpa using h)]; rfl
/- where the matching puts the rows -/
theorem placesL_keep (M : Mt) : ∀ (m k : Nat) (out : List Int) (j : Nat), (∀ c, k ≤ c → c < k + m → M.taken.getD c 0 ≠ j + 1) → (placesL M m k out).getD j 0 = out.getD j 0 := by
  intro m
  induction m with
  | zero => intro k out j _; rfl
  | succ m ih =>
    intro k out j h
    rw [placesL, ih _ _ _ fun c h1 h2 => h c (by omega) (by omega)]
    have := h k (Nat.le_refl _) (by omega)
    split
    · rfl
    · rw [getD_set, if_neg (by omega)]
theorem placesL_hit (M : Mt) : ∀ (m k : Nat) (out : List Int) (j c : Nat), j < out.length → k ≤ c → c < k + m → M.taken.getD c 0 = j + 1 → (∀ c', k ≤ c' → c' < k + m → M.taken.getD c' 0 = j + 1 → c' = c) →
    (placesL M m k out).getD j 0 = M.slot c := by
  intro m
  induction m with
  | zero => intro k out j c _ h1 h2; omega
  | succ m ih =>
    intro k out j c hj h1 h2 ht hu
    rw [placesL]
    by_cases e : c = k
    · subst e
      rw [placesL_keep M m _ _ j fun c' a b hc => by have := hu c' (by omega) (by omega) hc; omega]
      rw [if_neg (by omega), getD_set, if_pos ⟨by omega, by omega⟩]
    · refine ih (k + 1) _ j c ?_ (by omega) (by omega) ht fun c' a b hc => hu c' (by omega) (by omega) hc
      split
      · exact hj
      · rw [List.length_set]; exact hj
theorem places_at {M : Mt} {R : Nat} (h : HM M R) (hr : M.rows = R) {j c : Nat} (hj : j < R) (h1 : 1 ≤ c) (h2 : c ≤ M.n) (ht : M.taken.getD c 0 = j + 1) : (places M).getD j 0 = M.slot c := by
  refine placesL_hit M M.n 1 _ j c (by rw [List.length_replicate]; omega) h1 (by omega) ht fun c' a b hc => ?_
  exact h.pinj c' c a h1 (by omega) h2 (by show M.taken.getD c' 0 = M.taken.getD c 0; omega) (by show M.taken.getD c' 0 ≠ 0; omega)
/- the worth of a row in a column -/
theorem wishAll_at (cs : List Int) (sv : RQ → Wish → Int) (rs : List RQ) (a b : Nat) (hb : 1 ≤ b ∧ b ≤ cs.length) : ∀ (ps : List (Nat × Wish)) (f : Nat → Nat → Int),
    ((∀ p ∈ ps, ¬ (p.1 + 1 = a ∧ p.2.s = slotOf cs b)) → wishAll cs sv rs f ps a b = f a b) ∧
    (∀ q ∈ ps, (q.1 + 1 = a ∧ q.2.s = slotOf cs b) → (∀ p ∈ ps, p.1 + 1 = a → p.2.s = slotOf cs b → p = q) → wishAll cs sv rs f ps a b = svI sv rs q) := by
  intro ps
  induction ps with
  | nil => intro f; exact ⟨fun _ => rfl, fun q hq => by cases hq⟩
  | cons p ps ih =>
    intro f
    have hw : wishAll cs sv rs f (p :: ps) a b = wishAll cs sv rs (wishF cs (svI sv rs p) p.1 p.2.s (cs.length + 1) f) ps a b := rfl
    rw [hw]
    obtain ⟨i1, i2⟩ := ih (wishF cs (svI sv rs p) p.1 p.2.s (cs.length + 1) f)
    constructor
    · intro h
      rw [i1 fun q hq => h q (List.mem_cons_of_mem _ hq), wishF, if_neg]
      rintro ⟨⟨h1, _⟩, h2⟩
      exact h p (List.mem_cons_self ..) ⟨h1.symm, h2.symm⟩
    · intro q hq hm hu
      by_cases hex : ∃ r ∈ ps, r.1 + 1 = a ∧ r.2.s = slotOf cs b
      · obtain ⟨r, hr, hr1, hr2⟩ := hex
        have e := hu r (List.mem_cons_of_mem _ hr) hr1 hr2
        subst e
        exact i2 r hr ⟨hr1, hr2⟩ fun p' hp' => hu p' (List.mem_cons_of_mem _ hp')
      · have hn : ∀ r ∈ ps, ¬ (r.1 + 1 = a ∧ r.2.s = slotOf cs b) := fun r hr hc => hex ⟨r, hr, hc⟩
        have e : q = p := by
          rcases List.mem_cons.1 hq with e | e
          · exact e
          · exact absurd hm (hn q e)
        subst e
        rw [i1 hn, wishF, if_pos ⟨⟨hm.1.symm, hb.1, by omega⟩, hm.2.symm⟩]
theorem mem_wlQ : ∀ (rs : List RQ) (k i : Nat) (x : RQ) (w : Wish), rs[i]? = some x → w ∈ x.ws → (k + i, w) ∈ wlQ k rs
  | [], _, _, _, _, h, _ => by simp at h
  | y :: rs, k, 0, x, w, h, hw => by
    simp at h
    subst h
    rw [wlQ, List.mem_append]
    exact .inl (List.mem_map.2 ⟨w, hw, rfl⟩)
  | y :: rs, k, i + 1, x, w, h, hw => by
    rw [wlQ, List.mem_append]
    right
    have := mem_wlQ rs (k + 1) i x w (by simpa using h) hw
    rwa [show k + (i + 1) = k + 1 + i by omega]
/-- each request wishes for a slot but once -/
def Once (rs : List RQ) : Prop := ∀ x ∈ rs, ∀ y ∈ x.ws, ∀ z ∈ x.ws, y.s = z.s → y = z
theorem worth_at {l : List Slot} {rs : List RQ} (sv : RQ → Wish → Int) (ho : Once rs) {i k : Nat} {x : RQ} (hx : rs[i]? = some x) (h1 : 1 ≤ k) (h2 : k ≤ (colsL l rs.length).length) :
    (m0 l rs sv).worth (i + 1) k = match x.ws.find? fun y => y.s == slotOf (colsL l rs.length) k with
      | some y => sv x y
      | none => if slotOf (colsL l rs.length) k < 0 then 0 else -Far := by
  have hi : i < rs.length := (List.getElem?_eq_some_iff.1 hx).1
  have hxm := List.mem_of_getElem? hx
  show wishAll (colsL l rs.length) sv rs (fillF (colsL l rs.length) rs.length 1) (wlQ 0 rs) (i + 1) k = _
  generalize colsL l rs.length = cs at *
  obtain ⟨i1, i2⟩ := wishAll_at cs sv rs (i + 1) k ⟨h1, h2⟩ (wlQ 0 rs) (fillF cs rs.length 1)
  have hmem : ∀ p ∈ wlQ 0 rs, p.1 + 1 = i + 1 → p.2 ∈ x.ws := fun p hp e => by
    obtain ⟨y, hy, _, hw⟩ := wlQ_mem hp
    rw [Nat.sub_zero, show p.1 = i by omega, hx] at hy
    cases hy
    exact hw
  cases hf : x.ws.find? fun y => y.s == slotOf cs k with
  | none =>
    rw [i1 fun p hp hc => by
      have := hmem p hp hc.1
      have hn := List.find?_eq_none.1 hf p.2 this
      simp [hc.2] at hn]
    dsimp only
    rw [fillF, if_pos (by omega)]
  | some y =>
    obtain ⟨hy, hs⟩ := find_mem hf
    have hq := mem_wlQ rs 0 i x y hx hy
    rw [Nat.zero_add] at hq
    rw [i2 (i, y) hq ⟨rfl, hs⟩ fun p hp e1 e2 => by
      have h3 := ho x hxm p.2 (hmem p hp e1) y hy (by rw [e2, hs])
      have h4 : p.1 = i := by omega
      obtain ⟨a, b⟩ := p
      simp only at h3 h4
      rw [h3, h4]]
    show svI sv rs (i, y) = sv x y
    rw [svI]
    simp only [hx]
end Go.Sheet
/- The matching's assignment has the greatest worth, which the prices prove. Plain law. -/
namespace Go.Sheet
/-- the price of a slot, as Proof takes it: that of its last column -/
def pricesL (M : Mt) : Nat → Nat → List Int → List Int
  | 0, _, out => out
  | m + 1, k, out => pricesL M m (k + 1) (if 0 ≤ M.slot k then out.set (M.slot k).toNat (M.col.getD k 0) else out)
def slotPrices (M : Mt) (nl : Nat) : List Int := pricesL M M.n 1 (List.replicate nl 0)
def rowPrices (M : Mt) (R : Nat) : List Int := (List.range R).map fun j => M.row.getD (j + 1) 0
theorem pricesL_len (M : Mt) : ∀ (m k : Nat) (out : List Int), (pricesL M m k out).length = out.length := by
  intro m
  induction m with
  | zero => intro k out; rfl
  | succ m ih =>
    intro k out
    rw [pricesL, ih]
    split
    · rw [List.length_set]
    · rfl
theorem pricesL_at (M : Mt) : ∀ (m k : Nat) (out : List Int) (s : Nat), s < out.length →
    (∃ c, k ≤ c ∧ c < k + m ∧ M.slot c = (s : Int) ∧ (pricesL M m k out).getD s 0 = M.col.getD c 0) ∨ ((∀ c, k ≤ c → c < k + m → M.slot c ≠ (s : Int)) ∧ (pricesL M m k out).getD s 0 = out.getD s 0) := by
  intro m
  induction m with
  | zero => intro k out s _; exact .inr ⟨fun c h1 h2 => by omega, rfl⟩
  | succ m ih =>
    intro k out s hs
    rw [pricesL]
    by_cases h0 : 0 ≤ M.slot k
    · rw [if_pos h0]
      rcases ih (k + 1) (out.set (M.slot k).toNat (M.col.getD k 0)) s (by rw [List.length_set]; exact hs) with ⟨c, h1, h2, h3, h4⟩ | ⟨h1, h2⟩
      · exact .inl ⟨c, by omega, by omega, h3, h4⟩
      · by_cases e : M.slot k = (s : Int)
        · left
          refine ⟨k, Nat.le_refl _, by omega, e, ?_⟩
          rw [h2, getD_set, if_pos ⟨by omega, by omega⟩]
        · right
          refine ⟨fun c a b => ?_, ?_⟩
          · by_cases ec : c = k
            · subst ec; exact e
            · exact h1 c (by omega) (by omega)
          · rw [h2, getD_set, if_neg (by omega)]
    · rw [if_neg h0]
      rcases ih (k + 1) out s hs with ⟨c, h1, h2, h3, h4⟩ | ⟨h1, h2⟩
      · exact .inl ⟨c, by omega, by omega, h3, h4⟩
      · right
        refine ⟨fun c a b => ?_, h2⟩
        by_cases ec : c = k
        · subst ec; omega
        · exact h1 c (by omega) (by omega)
/-- the prices of a matching and its assignment -/
structure Best (l : List Slot) (rs : List RQ) (sv : RQ → Wish → Int) (U P a : List Int) : Prop where
  ul : U.length = rs.length
  pl : P.length = l.length
  u0 : ∀ x ∈ U, 0 ≤ x
  p0 : ∀ x ∈ P, 0 ≤ x
  feas : ∀ (i : Nat) x y, rs[i]? = some x → y ∈ x.ws → sv x y ≤ U.getD i 0 + P.getD y.s.toNat 0
  aok : AOk l rs a
  eq : worthA sv rs a = sumF U + prSum P l
/-- what is asked of the data -/
structure Fit (l : List Slot) (rs : List RQ) : Prop where
  mok : MOk l rs
  once : Once rs
  inn : ∀ x ∈ rs, ∀ y ∈ x.ws, y.s < l.length
theorem slotOf_cases (l : List Slot) (R k : Nat) (h1 : 1 ≤ k) (h2 : k ≤ (colsL l R).length) : slotOf (colsL l R) k = -1 ∨ (0 ≤ slotOf (colsL l R) k ∧ slotOf (colsL l R) k < l.length) := by
  obtain ⟨j, rfl⟩ : ∃ j, k = j + 1 := ⟨k - 1, by omega⟩
  rw [slotOf, List.getD_eq_getElem?_getD, List.getElem?_eq_getElem (by omega), Option.getD_some]
  have hm : (colsL l R)[j] ∈ colsL l R := List.getElem_mem _
  generalize (colsL l R)[j] = x at *
  rw [colsL, List.mem_append] at hm
  rcases hm with hm | hm
  · right
    have := plc_bd l 0 x hm
    omega
  · left; exact List.eq_of_mem_replicate hm
theorem slot_col (l : List Slot) (R s : Nat) (t : Slot) (hs : l[s]? = some t) (hp : 1 ≤ t.p) : ∃ k, 1 ≤ k ∧ k ≤ (colsL l R).length ∧ slotOf (colsL l R) k = (s : Int) := by
  have h1 := cnt_plc l 0 s t hs (by omega)
  rw [Nat.zero_add] at h1
  have hm : (s : Int) ∈ plc 0 l := by
    apply Classical.byContradiction
    intro hc
    rw [cntI_none _ _ (fun x hx (e : x = (s : Int)) => hc (by rw [← e]; exact hx))] at h1
    omega
  obtain ⟨j, hj, e⟩ := List.mem_iff_getElem.1 hm
  refine ⟨j + 1, by omega, by rw [colsL, List.length_append]; omega, ?_⟩
  rw [slotOf, colsL, List.getD_eq_getElem?_getD, List.getElem?_append_left hj, List.getElem?_eq_getElem hj, e]; rfl
theorem matched_best {l : List Slot} {rs : List RQ} {sv : RQ → Wish → Int} {M : Mt} (h : Matched l rs sv M) (hf : Fit l rs) (hsv : SvOk rs sv) : Best l rs sv (rowPrices M rs.length) (slotPrices M l.length) (places M) := by
  have b := wishAll_base l rs sv hsv
  have H : HInv (m0 l rs sv).worth M.n rs.length (fun k => M.taken.getD k 0) (fun j => M.row.getD j 0) (fun k => M.col.getD k 0) := h.worth ▸ h.hm
  have hN := h.n
  have hNc : (colsL l rs.length).length = M.n := by rw [colsL_len, hN]
  have hunn : ∀ j, 1 ≤ j → j ≤ rs.length → 0 ≤ M.row.getD j 0 := fun j a c => H.unn b hN (Nat.le_refl _) a c
  have hsl : ∀ k, M.slot k = slotOf (colsL l rs.length) k := fun k => by rw [h.slot]; rfl
  have hwo : ∀ (i k : Nat) x, rs[i]? = some x → 1 ≤ k → k ≤ M.n → (m0 l rs sv).worth (i + 1) k = match x.ws.find? fun y => y.s == M.slot k with
      | some y => sv x y
      | none => if M.slot k < 0 then 0 else -Far := fun i k x hx h1 h2 => by rw [hsl]; exact worth_at sv hf.once hx h1 (by rw [hNc]; exact h2)
  have hcase : ∀ k, 1 ≤ k → k ≤ M.n → M.slot k = -1 ∨ (0 ≤ M.slot k ∧ M.slot k < l.length) := fun k a c => by rw [hsl]; exact slotOf_cases l rs.length k a (by rw [hNc]; exact c)
  -- the columns of one slot have one price
  have hle : ∀ k k', 1 ≤ k → k ≤ M.n → 1 ≤ k' → k' ≤ M.n → M.slot k = M.slot k' → M.col.getD k 0 ≤ M.col.getD k' 0 := by
    intro k k' a c a' c' e
    have v' := H.vnn k' a' c'
    by_cases ht : M.taken.getD k 0 = 0
    · have := H.free k a c ht
      try simp only at this v'
      omega
    · have h1 := H.tight k a c ht
      have h2 := H.ple k a c
      have h3 := H.feas (M.taken.getD k 0) k' (by omega) h2 a' c'
      try simp only at h1 h2 h3
      obtain ⟨i, hi⟩ : ∃ i, M.taken.getD k 0 = i + 1 := ⟨M.taken.getD k 0 - 1, by omega⟩
      rw [hi] at h1 h3
      have hx : rs[i]? = some rs[i] := List.getElem?_eq_getElem (by omega)
      rw [hwo i k _ hx a c, e] at h1
      rw [hwo i k' _ hx a' c'] at h3
      omega
  have hpr : ∀ k, 1 ≤ k → k ≤ M.n → 0 ≤ M.slot k → (slotPrices M l.length).getD (M.slot k).toNat 0 = M.col.getD k 0 := by
    intro k a c h0
    have hlt : M.slot k < l.length := by rcases hcase k a c with e | e <;> omega
    rcases pricesL_at M M.n 1 (List.replicate l.length 0) (M.slot k).toNat (by rw [List.length_replicate]; omega) with ⟨q, h1, h2, h3, h4⟩ | ⟨h1, h2⟩
    · rw [slotPrices, h4]
      have e : M.slot q = M.slot k := by omega
      have := hle q k h1 (by omega) a c e
      have := hle k q a c h1 (by omega) e.symm
      omega
    · exact absurd (Int.toNat_of_nonneg h0).symm (h1 k a (by omega))
  -- at home the price is 0
  have hhome : ∀ k, 1 ≤ k → k ≤ M.n → M.slot k = -1 → M.col.getD k 0 = 0 := by
    intro k a c e
    have v0 := H.vnn k a c
    try simp only at v0
    by_cases ht : M.taken.getD k 0 = 0
    · exact H.free k a c ht
    · have h1 := H.tight k a c ht
      have h2 := H.ple k a c
      try simp only at h1 h2
      obtain ⟨i, hi⟩ : ∃ i, M.taken.getD k 0 = i + 1 := ⟨M.taken.getD k 0 - 1, by omega⟩
      have hx : rs[i]? = some rs[i] := List.getElem?_eq_getElem (by omega)
      have hu := hunn (i + 1) (by omega) (by omega)
      rw [hi, hwo i k _ hx a c] at h1
      have hn : (rs[i]).ws.find? (fun y => y.s == M.slot k) = none := List.find?_eq_none.2 fun y hy hc => by
        have := (hf.mok.ws _ (List.mem_of_getElem? hx) y hy).1
        have : y.s = M.slot k := by simpa using hc
        omega
      rw [hn] at h1
      dsimp only at h1
      rw [if_pos (by omega)] at h1
      omega
  have hprice : ∀ k, 1 ≤ k → k ≤ M.n → priceAt (slotPrices M l.length) (M.slot k) = M.col.getD k 0 := by
    intro k a c
    rw [priceAt]
    rcases hcase k a c with e | e
    · rw [if_pos (by omega), hhome k a c e]
    · rw [if_neg (by omega), hpr k a c e.1]
  have hU : ∀ j, j < rs.length → (rowPrices M rs.length).getD j 0 = M.row.getD (j + 1) 0 := fun j hj => by
    rw [rowPrices, List.getD_eq_getElem?_getD, List.getElem?_map, List.getElem?_range hj]; rfl
  have hplen : (places M).length = rs.length := by rw [places_len, h.rows]
  -- where a row is, and what it is worth there
  have hcol : ∀ j, j < rs.length → ∃ c, 1 ≤ c ∧ c ≤ M.n ∧ M.taken.getD c 0 = j + 1 ∧ (places M).getD j 0 = M.slot c := fun j hj => by
    obtain ⟨c, c1, c2, c3⟩ := H.psurj (j + 1) (by omega) (by omega)
    exact ⟨c, c1, c2, c3, places_at h.hm h.rows hj c1 c2 c3⟩
  have hrow : ∀ (j : Nat) x, rs[j]? = some x → ∃ c, 1 ≤ c ∧ c ≤ M.n ∧ M.taken.getD c 0 = j + 1 ∧ (places M).getD j 0 = M.slot c ∧ (M.slot c = -1 ∨ hasWish x (M.slot c) = true) ∧ wsv sv x (M.slot c) = M.row.getD (j + 1) 0 + M.col.getD c 0 := by
    intro j x hx
    have hj : j < rs.length := (List.getElem?_eq_some_iff.1 hx).1
    obtain ⟨c, c1, c2, c3, c4⟩ := hcol j hj
    refine ⟨c, c1, c2, c3, c4, ?_⟩
    have h1 := H.tight c c1 c2 (by show M.taken.getD c 0 ≠ 0; omega)
    simp only [c3] at h1
    rw [hwo j c x hx c1 c2] at h1
    have hu := hunn (j + 1) (by omega) (by omega)
    have hv := H.vnn c c1 c2
    try simp only at hv
    rw [hasWish, wsv]
    cases hfd : x.ws.find? fun y => y.s == M.slot c with
    | some y =>
      rw [hfd] at h1
      exact ⟨.inr rfl, h1.symm⟩
    | none =>
      rw [hfd] at h1
      dsimp only at h1
      rcases hcase c c1 c2 with e | e
      · rw [if_pos (by omega)] at h1
        exact ⟨.inl e, h1.symm⟩
      · rw [if_neg (by omega)] at h1
        unfold Far at h1
        omega
  refine ⟨by simp [rowPrices], by rw [slotPrices, pricesL_len, List.length_replicate], ?_, ?_, ?_, ⟨hplen, ?_, ?_⟩, ?_⟩
  · intro x hx
    obtain ⟨j, hj, rfl⟩ := List.mem_map.1 hx
    have := List.mem_range.1 hj
    exact hunn (j + 1) (by omega) (by omega)
  · intro x hx
    obtain ⟨s, hs, rfl⟩ := List.mem_iff_getElem.1 hx
    have hs' : s < (List.replicate l.length (0 : Int)).length := by rw [slotPrices, pricesL_len] at hs; exact hs
    have e : (slotPrices M l.length)[s] = (slotPrices M l.length).getD s 0 := by rw [List.getD_eq_getElem?_getD, List.getElem?_eq_getElem hs, Option.getD_some]
    rw [e]
    rcases pricesL_at M M.n 1 (List.replicate l.length 0) s hs' with ⟨q, h1, h2, h3, h4⟩ | ⟨h1, h2⟩
    · rw [slotPrices, h4]; exact H.vnn q h1 (by omega)
    · rw [slotPrices, h2, List.getD_eq_getElem?_getD, List.getElem?_replicate]
      split <;> simp
  · intro i x y hx hy
    have hi : i < rs.length := (List.getElem?_eq_some_iff.1 hx).1
    have hxm := List.mem_of_getElem? hx
    have hy0 := (hf.mok.ws x hxm y hy).1
    have hyl := hf.inn x hxm y hy
    have hs : l[y.s.toNat]? = some l[y.s.toNat] := List.getElem?_eq_getElem (by omega)
    obtain ⟨k, k1, k2, k3⟩ := slot_col l rs.length y.s.toNat _ hs (hf.mok.sp _ (List.getElem_mem _)).1
    rw [hNc] at k2
    rw [← hsl] at k3
    have ek : M.slot k = y.s := by omega
    have h1 := H.feas (i + 1) k (by omega) (by omega) k1 k2
    try simp only at h1
    rw [hwo i k x hx k1 k2] at h1
    have hfd : x.ws.find? (fun z => z.s == M.slot k) = some y := by
      cases hfd : x.ws.find? fun z => z.s == M.slot k with
      | none =>
        have := List.find?_eq_none.1 hfd y hy
        simp [ek] at this
      | some z =>
        obtain ⟨hz, hzs⟩ := find_mem hfd
        rw [hf.once x hxm z hz y hy (by omega)]
    rw [hfd] at h1
    rw [hU i hi, ← ek, hpr k k1 k2 (by omega)]
    exact h1
  · intro i x s hx hs
    obtain ⟨c, _, _, _, c4, c5, _⟩ := hrow i x hx
    have e : s = M.slot c := by rw [← c4, List.getD_eq_getElem?_getD, hs, Option.getD_some]
    rw [e]; exact c5
  · intro k t ht
    have htp := (hf.mok.sp t (List.mem_of_getElem? ht)).1
    have hkl : k < l.length := (List.getElem?_eq_some_iff.1 ht).1
    have e1 : cntI (k : Int) (places M) = sm rs.length (fun j => sm M.n fun c => if M.taken.getD (c + 1) 0 = j + 1 ∧ M.slot (c + 1) = (k : Int) then 1 else 0) := by
      rw [cntI_sm, hplen]
      refine sm_congr fun j hj => ?_
      obtain ⟨c, c1, c2, c3, c4⟩ := hcol j hj
      rw [sm_single (j := c - 1) (by omega) fun i hi hn => if_neg fun hc => hn (by
        have := H.pinj (i + 1) c (by omega) c1 (by omega) c2 (by show M.taken.getD (i + 1) 0 = M.taken.getD c 0; omega) (by show M.taken.getD (i + 1) 0 ≠ 0; omega)
        omega)]
      rw [show c - 1 + 1 = c by omega, c4]
      exact ifc ⟨fun h => ⟨c3, h⟩, fun h => h.2⟩
    have e2 : cntI (k : Int) (colsL l rs.length) = t.p := by
      rw [colsL, cntI_append, cntI_none _ (List.replicate _ _) (fun x hx => by have := List.eq_of_mem_replicate hx; omega)]
      have := cnt_plc l 0 k t ht (by omega)
      rw [Nat.zero_add] at this
      omega
    rw [e1, sm_swap, ← e2, cntI_sm, hNc]
    refine sm_le fun c hc => ?_
    have es : (colsL l rs.length).getD c 0 = M.slot (c + 1) := by rw [hsl]; rfl
    rw [es]
    by_cases h1 : M.slot (c + 1) = (k : Int)
    · rw [if_pos h1]
      by_cases h2 : M.taken.getD (c + 1) 0 = 0
      · rw [sm_congr (g := fun _ => 0) fun j hj => if_neg (by omega), sm_zero]; omega
      · have h3 := H.ple (c + 1) (by omega) (by omega)
        try simp only at h3
        rw [sm_single (j := M.taken.getD (c + 1) 0 - 1) (by omega) fun i hi hn => if_neg (by omega)]
        split <;> omega
    · rw [if_neg h1, sm_congr (g := fun _ => 0) fun j hj => if_neg (by omega), sm_zero]; exact Int.le_refl _
  · rw [worthA_sm sv rs _ hplen]
    have e1 : sm rs.length (fun j => wAt sv rs j ((places M).getD j 0)) = sm rs.length (fun j => (rowPrices M rs.length).getD j 0 + sm M.n fun c => if M.taken.getD (c + 1) 0 = j + 1 then M.col.getD (c + 1) 0 else 0) := by
      refine sm_congr fun j hj => ?_
      have hx : rs[j]? = some rs[j] := List.getElem?_eq_getElem hj
      obtain ⟨c, c1, c2, c3, c4, _, c6⟩ := hrow j _ hx
      rw [wAt, hx, c4]
      dsimp only
      rw [c6, hU j hj, sm_single (j := c - 1) (by omega) fun i hi hn => if_neg fun hc => hn (by
        have := H.pinj (i + 1) c (by omega) c1 (by omega) c2 (by show M.taken.getD (i + 1) 0 = M.taken.getD c 0; omega) (by show M.taken.getD (i + 1) 0 ≠ 0; omega)
        omega)]
      rw [show c - 1 + 1 = c by omega, if_pos c3]
    rw [e1, sm_add, sm_swap]
    have e2 : sumF (rowPrices M rs.length) = sm rs.length (fun j => (rowPrices M rs.length).getD j 0) := by
      rw [sumF_sm]; congr 1; simp [rowPrices]
    have e3 : sm M.n (fun c => sm rs.length fun j => if M.taken.getD (c + 1) 0 = j + 1 then M.col.getD (c + 1) 0 else 0) = prSum (slotPrices M l.length) l := by
      have e4 : prSum (slotPrices M l.length) l = payA (slotPrices M l.length) (colsL l rs.length) := by
        rw [payA_payB, colsL, payB_append, pay_plc l _ 0 (by rw [slotPrices, pricesL_len, List.length_replicate]) (fun s hs => by have := hf.mok.sp s hs; omega)]
        have : ∀ n, payB 0 (slotPrices M l.length) (List.replicate n (-1)) = 0 := by
          intro n
          induction n with
          | zero => rfl
          | succ n ih => rw [List.replicate_succ, payB, if_neg (by decide), ih]; rfl
        rw [this]; omega
      rw [e4, payA_sm, hNc]
      refine sm_congr fun c hc => ?_
      have es : (colsL l rs.length).getD c 0 = M.slot (c + 1) := by rw [hsl]; rfl
      rw [es, hprice (c + 1) (by omega) (by omega)]
      by_cases h2 : M.taken.getD (c + 1) 0 = 0
      · rw [sm_congr (g := fun _ => 0) fun j hj => if_neg (by omega), sm_zero]
        exact (H.free (c + 1) (by omega) (by omega) h2).symm
      · have h3 := H.ple (c + 1) (by omega) (by omega)
        try simp only at h3
        rw [sm_single (j := M.taken.getD (c + 1) 0 - 1) (by omega) fun i hi hn => if_neg (by omega), if_pos (by omega)]
    rw [e2, e3]
/-- no assignment is worth more -/
theorem Best.le {l : List Slot} {rs : List RQ} {sv : RQ → Wish → Int} {U P a b : List Int} (h : Best l rs sv U P a) (hn : ∀ x ∈ rs, ∀ y ∈ x.ws, 0 ≤ y.s) (hb : AOk l rs b) : worthA sv rs b ≤ worthA sv rs a := by
  rw [h.eq]
  refine weak_duality hb h.ul h.pl h.p0 fun i x s u hx hs hu => ?_
  have hu0 := h.u0 u (List.mem_of_getElem? hu)
  have eu : U.getD i 0 = u := by rw [List.getD_eq_getElem?_getD, hu, Option.getD_some]
  rw [wsv]
  cases hfd : x.ws.find? fun y => y.s == s with
  | some y =>
    obtain ⟨hy, hys⟩ := find_mem hfd
    have h1 := h.feas i x y hx hy
    have h2 := hn x (List.mem_of_getElem? hx) y hy
    rw [priceAt, if_neg (by omega), ← hys, ← eu]
    exact h1
  | none =>
    dsimp only
    have : 0 ≤ priceAt P s := by
      rw [priceAt]
      split
      · exact Int.le_refl _
      · rw [List.getD_eq_getElem?_getD]
        cases hp : P[s.toNat]? with
        | none => simp
        | some q => exact h.p0 q (List.mem_of_getElem? hp)
    omega
end Go.Sheet
/- What solve and match answer: the greatest value of the assignments that serve all guaranteed requests, and the greatest number. Plain law. -/
namespace Go.Sheet
def valQ (_ : RQ) (y : Wish) : Int := y.w
def SureA (rs : List RQ) (a : List Int) : Prop := ∀ (i : Nat) x s, rs[i]? = some x → a[i]? = some s → x.g = true → hasWish x s = true
/-- guaranteed requests that are served -/
def gN : List RQ → List Int → Int
  | x :: rs, s :: a => (if x.g = true ∧ hasWish x s = true then 1 else 0) + gN rs a
  | _, _ => 0
def gT : List RQ → Int
  | [] => 0
  | x :: rs => (if x.g = true then 1 else 0) + gT rs
theorem hasWish_some {x : RQ} {s : Int} (h : hasWish x s = true) : ∃ y, x.ws.find? (fun y => y.s == s) = some y := by
  rw [hasWish] at h
  exact Option.isSome_iff_exists.1 h
theorem hasWish_none {x : RQ} {s : Int} (h : ¬ hasWish x s = true) : x.ws.find? (fun y => y.s == s) = none := by
  rw [hasWish] at h
  cases hf : x.ws.find? fun y => y.s == s with
  | none => rfl
  | some y => rw [hf] at h; exact absurd rfl h
theorem wsv_bonus (x : RQ) (s : Int) : wsv weightQ x s = wsv valQ x s + 1000000 * (if x.g = true ∧ hasWish x s = true then 1 else 0) := by
  by_cases h : hasWish x s = true
  · obtain ⟨y, hy⟩ := hasWish_some h
    rw [wsv, wsv, hy]
    show weightQ x y = valQ x y + _
    rw [weightQ, valQ]
    cases hg : x.g
    · rw [if_neg (by decide), if_neg (by rintro ⟨a, _⟩; cases a)]; omega
    · rw [if_pos rfl, if_pos ⟨rfl, h⟩]; omega
  · rw [wsv, wsv, hasWish_none h, if_neg (fun hc => h hc.2)]; rfl
theorem worth_bonus : ∀ (rs : List RQ) (a : List Int), worthA weightQ rs a = worthA valQ rs a + 1000000 * gN rs a
  | [], a => by simp [worthA, gN]
  | x :: rs, [] => by simp [worthA, gN]
  | x :: rs, s :: a => by rw [worthA, worthA, gN, worth_bonus rs a, wsv_bonus]; omega
theorem gN_le : ∀ (rs : List RQ) (a : List Int), gN rs a ≤ gT rs
  | [], a => by simp [gN, gT]
  | x :: rs, [] => by
    have := gN_le rs []
    have e : gN rs [] = 0 := by cases rs <;> simp [gN]
    rw [e] at this
    have e2 : gN (x :: rs) [] = 0 := by simp [gN]
    rw [e2, gT]; split <;> omega
  | x :: rs, s :: a => by
    have := gN_le rs a
    rw [gN, gT]
    by_cases hg : x.g = true
    · rw [if_pos hg]; split <;> omega
    · rw [if_neg hg, if_neg (fun h => hg h.1)]; omega
theorem sure_cons {x : RQ} {rs : List RQ} {s : Int} {a : List Int} : SureA (x :: rs) (s :: a) ↔ (x.g = true → hasWish x s = true) ∧ SureA rs a := by
  constructor
  · intro h
    exact ⟨h 0 x s rfl rfl, fun i y t hy ht => h (i + 1) y t (by simpa using hy) (by simpa using ht)⟩
  · rintro ⟨h1, h2⟩ i y t hy ht
    cases i with
    | zero => simp at hy ht; subst hy ht; exact h1
    | succ i => exact h2 i y t (by simpa using hy) (by simpa using ht)
theorem gN_eq : ∀ (rs : List RQ) (a : List Int), a.length = rs.length → (gT rs ≤ gN rs a ↔ SureA rs a)
  | [], a, _ => by
    have e : gN [] a = 0 := by simp [gN]
    rw [e]
    exact ⟨fun _ i x s h => by simp at h, fun _ => Int.le_refl _⟩
  | x :: rs, [], h => by simp at h
  | x :: rs, s :: a, h => by
    have h1 := gN_eq rs a (by simpa using h)
    have h2 := gN_le rs a
    rw [gN, gT, sure_cons, ← h1]
    by_cases hg : x.g = true
    · by_cases hw : hasWish x s = true
      · rw [if_pos hg, if_pos ⟨hg, hw⟩]
        exact ⟨fun h => ⟨fun _ => hw, by omega⟩, fun h => by omega⟩
      · rw [if_pos hg, if_neg (fun h => hw h.2)]
        exact ⟨fun h => by omega, fun h => absurd (h.1 hg) hw⟩
    · rw [if_neg hg, if_neg (fun h => hg h.1)]
      exact ⟨fun h => ⟨fun h => absurd h hg, by omega⟩, fun h => by omega⟩
theorem val_bd : ∀ (rs : List RQ) (a : List Int), (∀ x ∈ rs, ∀ y ∈ x.ws, 0 ≤ y.w ∧ y.w ≤ 10000) → 0 ≤ worthA valQ rs a ∧ worthA valQ rs a ≤ 10000 * rs.length
  | [], a, _ => by simp [worthA]
  | x :: rs, [], _ => by simp [worthA]; omega
  | x :: rs, s :: a, h => by
    have h1 := val_bd rs a fun y hy => h y (List.mem_cons_of_mem _ hy)
    have h2 : 0 ≤ wsv valQ x s ∧ wsv valQ x s ≤ 10000 := by
      rw [wsv]
      cases hf : x.ws.find? fun y => y.s == s with
      | none => dsimp only; omega
      | some y => exact h x (List.mem_cons_self ..) y (find_mem hf).1
    rw [worthA, List.length_cons]; omega
theorem solveV_sure : ∀ (rs : List RQ) (a : List Int) (v : Int), a.length = rs.length → SureA rs a → solveV rs a v = some (v + worthA valQ rs a)
  | [], a, v, _, _ => by simp [solveV, worthA]
  | x :: rs, [], v, h, _ => by simp at h
  | x :: rs, s :: a, v, h, hs => by
    obtain ⟨h1, h2⟩ := sure_cons.1 hs
    rw [solveV, worthA, wsv]
    cases hf : x.ws.find? fun y => y.s == s with
    | some y =>
      dsimp only
      rw [solveV_sure rs a _ (by simpa using h) h2, valQ]
      congr 1; omega
    | none =>
      dsimp only
      have hg : x.g = false := by
        cases hg : x.g
        · rfl
        · have := h1 hg
          rw [hasWish, hf] at this; cases this
      rw [hg, if_neg (by decide), solveV_sure rs a _ (by simpa using h) h2]
      congr 1; omega
theorem solveV_not : ∀ (rs : List RQ) (a : List Int) (v : Int), a.length = rs.length → ¬ SureA rs a → solveV rs a v = none
  | [], a, v, _, hs => absurd (fun i x s h => by simp at h) hs
  | x :: rs, [], v, h, _ => by simp at h
  | x :: rs, s :: a, v, h, hs => by
    rw [solveV]
    cases hf : x.ws.find? fun y => y.s == s with
    | some y =>
      dsimp only
      refine solveV_not rs a _ (by simpa using h) fun hc => hs (sure_cons.2 ⟨fun _ => ?_, hc⟩)
      rw [hasWish, hf]; rfl
    | none =>
      dsimp only
      cases hg : x.g
      · rw [if_neg (by decide)]
        exact solveV_not rs a _ (by simpa using h) fun hc => hs (sure_cons.2 ⟨(fun h => by rw [hg] at h; cases h), hc⟩)
      · rw [if_pos rfl]
theorem matched_of {l : List Slot} {rs : List RQ} {sv : RQ → Wish → Int} (hm : MOk l rs) (hsv : SvOk rs sv) : ∃ M, Matched l rs sv M := by
  have b := wishAll_base l rs sv hsv
  have hp := plc_len (l := l) (fun s hs => (hm.sp s hs).2) 0
  have hnl := hm.nl
  have hnr := hm.nr
  have hn0 : (m0 l rs sv).n = (plc 0 l).length + rs.length + 1 := colsL_len l rs.length
  obtain ⟨M, e, h1, h2, h3, h4, h5, h6⟩ := addAll_ok (m0 l rs sv).worth b hnr rs.length 0 (m0 l rs sv) (by omega) rfl hn0 (by rw [hn0]; omega) (m0_hm l rs sv) (m0_lens l rs sv)
  exact ⟨M, e, h1, h2, h3, h4, h5, h6.trans hn0⟩
/-- THE LAW of solve -/
theorem solve_spec {l : List Slot} {rs : List RQ} (hf : Fit l rs) :
    (∃ a v, solveQ l rs = some (a, v) ∧ AOk l rs a ∧ SureA rs a ∧ v = worthA valQ rs a ∧ ∀ b, AOk l rs b → SureA rs b → worthA valQ rs b ≤ v) ∨ (solveQ l rs = none ∧ ∀ b, AOk l rs b → ¬ SureA rs b) := by
  obtain ⟨M, hM⟩ := matched_of hf.mok hf.mok.sv
  have hB := matched_best hM hf hf.mok.sv
  have hnn : ∀ x ∈ rs, ∀ y ∈ x.ws, 0 ≤ y.s := fun x hx y hy => (hf.mok.ws x hx y hy).1
  have hw : ∀ x ∈ rs, ∀ y ∈ x.ws, 0 ≤ y.w ∧ y.w ≤ 10000 := fun x hx y hy => (hf.mok.ws x hx y hy).2
  have hR := hf.mok.nr
  have hle : ∀ b, AOk l rs b → worthA valQ rs b + 1000000 * gN rs b ≤ worthA valQ rs (places M) + 1000000 * gN rs (places M) := fun b hb => by
    have := hB.le hnn hb
    rwa [worth_bonus, worth_bonus] at this
  have hv := val_bd rs (places M) hw
  have hlen := hB.aok.len
  rw [hM.solveQ]
  by_cases hs : SureA rs (places M)
  · left
    refine ⟨places M, worthA valQ rs (places M), ?_, hB.aok, hs, rfl, fun b hb hsb => ?_⟩
    · rw [solveV_sure rs _ 0 hlen hs]
      show some (places M, 0 + worthA valQ rs (places M)) = _
      rw [Int.zero_add]
    · have h1 := hle b hb
      have h2 := (gN_eq rs b hb.len).2 hsb
      have h3 := gN_le rs (places M)
      omega
  · right
    refine ⟨by rw [solveV_not rs _ 0 hlen hs]; rfl, fun b hb hsb => hs ?_⟩
    have h1 := hle b hb
    have h2 := (gN_eq rs b hb.len).2 hsb
    have h3 := val_bd rs b hw
    exact (gN_eq rs _ hlen).1 (by omega)
/-- the number that is served -/
theorem served_worth {l : List Slot} {rs : List RQ} (hnn : ∀ x ∈ rs, ∀ y ∈ x.ws, 0 ≤ y.s) {a : List Int} (hl : a.length = rs.length) (hw : ∀ (i : Nat) x s, rs[i]? = some x → a[i]? = some s → s = -1 ∨ hasWish x s = true) : worthA oneQ rs a = servedN a := by
  induction rs generalizing a with
  | nil =>
    have : a = [] := List.eq_nil_of_length_eq_zero (by simpa using hl)
    subst this
    simp [worthA, servedN]
  | cons x rs ih =>
    cases a with
    | nil => simp at hl
    | cons s a =>
      rw [worthA, servedN, ih (fun y hy => hnn y (List.mem_cons_of_mem _ hy)) (by simpa using hl) (fun i y t a b => hw (i + 1) y t (by simpa using a) (by simpa using b))]
      congr 1
      rw [wsv]
      cases hf : x.ws.find? fun y => y.s == s with
      | some y =>
        obtain ⟨hy, hs⟩ := find_mem hf
        have := hnn x (List.mem_cons_self ..) y hy
        rw [if_pos (by omega)]; rfl
      | none =>
        rcases hw 0 x s rfl rfl with h | h
        · subst h; rfl
        · rw [hasWish, hf] at h; cases h
theorem most_spec {l : List Slot} {rs : List RQ} (hf : Fit l rs) : (∃ a, AOk l rs a ∧ servedN a = mostM l rs) ∧ ∀ b, AOk l rs b → servedN b ≤ mostM l rs := by
  obtain ⟨M, hM⟩ := matched_of hf.mok hf.mok.sv1
  have hB := matched_best hM hf hf.mok.sv1
  have hnn : ∀ x ∈ rs, ∀ y ∈ x.ws, 0 ≤ y.s := fun x hx y hy => (hf.mok.ws x hx y hy).1
  have e : mostM l rs = servedN (places M) := by rw [mostM, hM.eq]
  rw [e]
  refine ⟨⟨places M, hB.aok, rfl⟩, fun b hb => ?_⟩
  have h1 := hB.le hnn hb
  rwa [served_worth (l := l) hnn hb.len hb.wish, served_worth (l := l) hnn hB.aok.len hB.aok.wish] at h1
theorem okay_fit {l : List Slot} {rs : List RQ} (h : Okay l rs) : Fit l rs where
  mok := okay_mok h
  once := fun x hx y hy z hz e => by
    obtain ⟨i, hi, rfl⟩ := List.mem_iff_getElem.1 hy
    obtain ⟨j, hj, rfl⟩ := List.mem_iff_getElem.1 hz
    have key : ∀ (d i : Nat) (h1 : i < x.ws.length) (h2 : i + d + 1 < x.ws.length), (x.ws[i]).s < (x.ws[i + d + 1]).s := by
      intro d
      induction d with
      | zero => intro i h1 h2; exact h.asc x hx i _ _ (List.getElem?_eq_getElem h1) (List.getElem?_eq_getElem h2)
      | succ d ih =>
        intro i h1 h2
        have a1 := ih i h1 (by omega)
        have a2 := h.asc x hx (i + d + 1) _ _ (List.getElem?_eq_getElem (by omega)) (List.getElem?_eq_getElem h2)
        exact Int.lt_trans a1 a2
    by_cases h1 : i = j
    · subst h1; rfl
    · rcases Nat.lt_or_ge i j with h2 | h2
      · have := key (j - i - 1) i hi (by omega)
        simp only [show i + (j - i - 1) + 1 = j by omega] at this
        omega
      · have := key (i - j - 1) j hj (by omega)
        simp only [show j + (i - j - 1) + 1 = i by omega] at this
        omega
  inn := fun x hx y hy => (h.wish x hx y hy).1.2
end Go.Sheet
/- The reference's search: all assignments in their order; the greatest value, the first one that has it, the greatest number. Plain law. -/
namespace Go.Sheet
structure Fnd where
  is : Bool
  value : Int
  first : List Int
  most : Int
def fnd0 : Fnd := ⟨false, 0, [], 0⟩
/-- all assignments of the requests that are left, with the places that are left, in the search's order -/
def enumA (sure : Bool) : List RQ → List Int → List (List Int)
  | [], _ => [[]]
  | x :: rs, left => (x.ws.flatMap fun y => if left.getD y.s.toNat 0 = 0 then [] else (enumA sure rs (left.set y.s.toNat (left.getD y.s.toNat 0 - 1))).map (y.s :: ·)) ++
      (if sure = true ∧ x.g = true then [] else (enumA sure rs left).map ((-1) :: ·))
def updF (rs : List RQ) (f : Fnd) (a : List Int) : Fnd :=
  ⟨true, if f.is = false ∨ f.value < worthA valQ rs a then worthA valQ rs a else f.value, if f.is = false ∨ f.value < worthA valQ rs a then a else f.first, max f.most (servedN a)⟩
def searchF (rs : List RQ) (sure : Bool) (pre : List Int) (rest : List RQ) (left : List Int) (f : Fnd) : Fnd := ((enumA sure rest left).map (pre ++ ·)).foldl (updF rs) f
/-- what the fold finds -/
structure Found (rs : List RQ) (E : List (List Int)) (f : Fnd) : Prop where
  is : f.is = true
  mem : f.first ∈ E
  val : worthA valQ rs f.first = f.value
  le : ∀ b ∈ E, worthA valQ rs b ≤ f.value
  fst : E.find? (fun b => worthA valQ rs b == f.value) = some f.first
  most : ∃ b ∈ E, servedN b = f.most
  mle : ∀ b ∈ E, servedN b ≤ f.most
theorem servedN_nonneg : ∀ a, 0 ≤ servedN a
  | [] => Int.le_refl _
  | s :: a => by have := servedN_nonneg a; rw [servedN]; split <;> omega
theorem found_step {rs : List RQ} {E : List (List Int)} {f : Fnd} (h : Found rs E f) (b : List Int) : Found rs (E ++ [b]) (updF rs f b) := by
  obtain ⟨h1, h2, h3, h4, h5, ⟨m, hm, em⟩, h7⟩ := h
  have e : f.is = false ∨ f.value < worthA valQ rs b ↔ f.value < worthA valQ rs b := by rw [h1]; simp
  by_cases hv : f.value < worthA valQ rs b
  · have e2 : updF rs f b = ⟨true, worthA valQ rs b, b, max f.most (servedN b)⟩ := by rw [updF, if_pos (.inr hv), if_pos (.inr hv)]
    rw [e2]
    refine ⟨rfl, by simp, rfl, fun c hc => ?_, ?_, ?_, fun c hc => ?_⟩
    · rcases List.mem_append.1 hc with hc | hc
      · have := h4 c hc; show worthA valQ rs c ≤ worthA valQ rs b; omega
      · obtain rfl := List.mem_singleton.1 hc; exact Int.le_refl _
    · show (E ++ [b]).find? (fun c => worthA valQ rs c == worthA valQ rs b) = some b
      rw [List.find?_append]
      have hn : E.find? (fun c => worthA valQ rs c == worthA valQ rs b) = none := List.find?_eq_none.2 fun c hc hcc => by
        have := h4 c hc
        have : worthA valQ rs c = worthA valQ rs b := by simpa using hcc
        omega
      rw [hn]; simp
    · show ∃ c ∈ E ++ [b], servedN c = max f.most (servedN b)
      by_cases hs : f.most ≤ servedN b
      · exact ⟨b, by simp, by omega⟩
      · exact ⟨m, by simp [hm], by omega⟩
    · show servedN c ≤ max f.most (servedN b)
      rcases List.mem_append.1 hc with hc | hc
      · have := h7 c hc; omega
      · obtain rfl := List.mem_singleton.1 hc; omega
  · have e2 : updF rs f b = ⟨true, f.value, f.first, max f.most (servedN b)⟩ := by rw [updF, if_neg (fun h => hv (e.1 h)), if_neg (fun h => hv (e.1 h))]
    rw [e2]
    refine ⟨rfl, by simp [h2], h3, fun c hc => ?_, ?_, ?_, fun c hc => ?_⟩
    · rcases List.mem_append.1 hc with hc | hc
      · exact h4 c hc
      · obtain rfl := List.mem_singleton.1 hc; show worthA valQ rs c ≤ f.value; omega
    · show (E ++ [b]).find? (fun c => worthA valQ rs c == f.value) = some f.first
      rw [List.find?_append, h5]; rfl
    · show ∃ c ∈ E ++ [b], servedN c = max f.most (servedN b)
      by_cases hs : f.most ≤ servedN b
      · exact ⟨b, by simp, by omega⟩
      · exact ⟨m, by simp [hm], by omega⟩
    · show servedN c ≤ max f.most (servedN b)
      rcases List.mem_append.1 hc with hc | hc
      · have := h7 c hc; omega
      · obtain rfl := List.mem_singleton.1 hc; omega
theorem found_fold (rs : List RQ) : ∀ (E E0 : List (List Int)) (f : Fnd), Found rs E0 f → Found rs (E0 ++ E) (E.foldl (updF rs) f)
  | [], E0, f, h => by simpa using h
  | b :: E, E0, f, h => by
    have := found_fold rs E (E0 ++ [b]) _ (found_step h b)
    rw [List.append_assoc] at this
    exact this
theorem found_one (rs : List RQ) (b : List Int) : Found rs [b] (updF rs fnd0 b) := by
  have e2 : updF rs fnd0 b = ⟨true, worthA valQ rs b, b, max 0 (servedN b)⟩ := by rw [updF, if_pos (.inl rfl), if_pos (.inl rfl)]; rfl
  have := servedN_nonneg b
  rw [e2]
  refine ⟨rfl, by simp, rfl, fun c hc => ?_, ?_, ⟨b, by simp, ?_⟩, fun c hc => ?_⟩
  · obtain rfl := List.mem_singleton.1 hc; exact Int.le_refl _
  · show [b].find? (fun c => worthA valQ rs c == worthA valQ rs b) = some b
    simp
  · show servedN b = max 0 (servedN b); omega
  · obtain rfl := List.mem_singleton.1 hc; show servedN c ≤ max 0 (servedN c); omega
theorem search_found (rs : List RQ) (sure : Bool) (left : List Int) (h : enumA sure rs left ≠ []) : Found rs (enumA sure rs left) (searchF rs sure [] rs left fnd0) := by
  rw [searchF]
  have e : (enumA sure rs left).map (([] : List Int) ++ ·) = enumA sure rs left := by simp
  rw [e]
  cases hE : enumA sure rs left with
  | nil => exact absurd hE h
  | cons b E => exact found_fold rs E [b] _ (found_one rs b)
theorem search_none (rs : List RQ) (sure : Bool) (left : List Int) (h : enumA sure rs left = []) : searchF rs sure [] rs left fnd0 = fnd0 := by
  rw [searchF, h]; rfl
/- what is in the list of all assignments -/
structure Can (sure : Bool) (rs : List RQ) (left : List Int) (b : List Int) : Prop where
  len : b.length = rs.length
  wish : ∀ (i : Nat) x s, rs[i]? = some x → b[i]? = some s → s = -1 ∨ hasWish x s = true
  sure : sure = true → SureA rs b
  cap : ∀ k, k < left.length → cntI (k : Int) b ≤ left.getD k 0
theorem hasWish_iff {x : RQ} {s : Int} : hasWish x s = true ↔ ∃ y ∈ x.ws, y.s = s := by
  constructor
  · intro h
    obtain ⟨y, hy⟩ := hasWish_some h
    exact ⟨y, find_mem hy⟩
  · rintro ⟨y, hy, hs⟩
    rw [hasWish, List.find?_isSome]
    exact ⟨y, hy, by simpa using hs⟩
theorem can_wish {sure : Bool} {x : RQ} {rs : List RQ} {left b : List Int} {y : Wish} (hy : y ∈ x.ws) (h0 : 0 ≤ y.s) (hl : y.s < left.length) (hn : ∀ k, k < left.length → 0 ≤ left.getD k 0) :
    Can sure (x :: rs) left (y.s :: b) ↔ left.getD y.s.toNat 0 ≠ 0 ∧ Can sure rs (left.set y.s.toNat (left.getD y.s.toNat 0 - 1)) b := by
  constructor
  · rintro ⟨h1, h2, h3, h4⟩
    have hc : ∀ k, k < left.length → (if y.s = (k : Int) then 1 else 0) + cntI (k : Int) b ≤ left.getD k 0 := fun k hk => h4 k hk
    have hp := hc y.s.toNat (by omega)
    rw [if_pos (by omega)] at hp
    have := cntI_nonneg ((y.s.toNat : Nat) : Int) b
    refine ⟨by omega, by simpa using h1, fun i z s a c => h2 (i + 1) z s (by simpa using a) (by simpa using c), fun hs => (sure_cons.1 (h3 hs)).2, fun k hk => ?_⟩
    rw [List.length_set] at hk
    have := hc k hk
    rw [getD_set]
    by_cases e : y.s.toNat = k
    · rw [if_pos ⟨e, by omega⟩]
      rw [if_pos (by omega)] at this
      subst e
      omega
    · rw [if_neg (fun h => e h.1)]
      rw [if_neg (by omega)] at this
      omega
  · rintro ⟨hp, h1, h2, h3, h4⟩
    have hw : hasWish x y.s = true := hasWish_iff.2 ⟨y, hy, rfl⟩
    refine ⟨by simpa using h1, fun i z s a c => ?_, fun hs => sure_cons.2 ⟨fun _ => hw, h3 hs⟩, fun k hk => ?_⟩
    · cases i with
      | zero => simp at a c; subst a c; exact .inr hw
      | succ i => exact h2 i z s (by simpa using a) (by simpa using c)
    · have := h4 k (by rw [List.length_set]; exact hk)
      rw [getD_set] at this
      rw [cntI]
      by_cases e : y.s.toNat = k
      · rw [if_pos ⟨e, by omega⟩] at this
        rw [if_pos (by omega)]
        subst e
        omega
      · rw [if_neg (fun h => e h.1)] at this
        rw [if_neg (by omega)]
        omega
theorem can_free {sure : Bool} {x : RQ} {rs : List RQ} {left b : List Int} (hx : ∀ y ∈ x.ws, 0 ≤ y.s) : Can sure (x :: rs) left ((-1) :: b) ↔ ¬ (sure = true ∧ x.g = true) ∧ Can sure rs left b := by
  have hn : hasWish x (-1) ≠ true := fun h => by
    obtain ⟨y, hy, e⟩ := hasWish_iff.1 h
    have := hx y hy
    omega
  constructor
  · rintro ⟨h1, h2, h3, h4⟩
    refine ⟨fun h => hn ((sure_cons.1 (h3 h.1)).1 h.2), by simpa using h1, fun i z s a c => h2 (i + 1) z s (by simpa using a) (by simpa using c), fun hs => (sure_cons.1 (h3 hs)).2, fun k hk => ?_⟩
    have := h4 k hk
    rw [cntI, if_neg (by omega)] at this
    omega
  · rintro ⟨hp, h1, h2, h3, h4⟩
    refine ⟨by simpa using h1, fun i z s a c => ?_, fun hs => sure_cons.2 ⟨fun hg => absurd ⟨hs, hg⟩ hp, h3 hs⟩, fun k hk => ?_⟩
    · cases i with
      | zero => simp at a c; subst a c; exact .inl rfl
      | succ i => exact h2 i z s (by simpa using a) (by simpa using c)
    · have := h4 k hk
      rw [cntI, if_neg (by omega)]
      omega
theorem left_set {left : List Int} (hn : ∀ k, k < left.length → 0 ≤ left.getD k 0) {j : Nat} (hj : j < left.length) (h : left.getD j 0 ≠ 0) : ∀ k, k < (left.set j (left.getD j 0 - 1)).length → 0 ≤ (left.set j (left.getD j 0 - 1)).getD k 0 := by
  intro k hk
  rw [List.length_set] at hk
  have h1 := hn k hk
  have h2 := hn j hj
  rw [getD_set]
  split <;> omega
theorem mem_enum (sure : Bool) : ∀ (rs : List RQ) (left b : List Int), (∀ x ∈ rs, ∀ y ∈ x.ws, 0 ≤ y.s ∧ y.s < left.length) → (∀ k, k < left.length → 0 ≤ left.getD k 0) → (b ∈ enumA sure rs left ↔ Can sure rs left b)
  | [], left, b, _, hn => by
    rw [enumA, List.mem_singleton]
    constructor
    · rintro rfl
      exact ⟨rfl, fun i x s h => by simp at h, fun _ i x s h => by simp at h, fun k hk => hn k hk⟩
    · intro h
      exact List.eq_nil_of_length_eq_zero (by simpa using h.len)
  | x :: rs, left, b, hx, hn => by
    have hxs := fun y hy => hx x (List.mem_cons_self ..) y hy
    have hrs : ∀ z ∈ rs, ∀ y ∈ z.ws, 0 ≤ y.s ∧ y.s < left.length := fun z hz => hx z (List.mem_cons_of_mem _ hz)
    rw [enumA, List.mem_append, List.mem_flatMap]
    constructor
    · rintro (⟨y, hy, hb⟩ | hb)
      · have hys := hxs y hy
        split at hb
        · cases hb
        · rename_i hp
          obtain ⟨c, hc, rfl⟩ := List.mem_map.1 hb
          have := (mem_enum sure rs _ c (fun z hz w hw => by rw [List.length_set]; exact hrs z hz w hw) (left_set hn (by omega) hp)).1 hc
          exact (can_wish hy hys.1 hys.2 hn).2 ⟨hp, this⟩
      · split at hb
        · cases hb
        · rename_i hp
          obtain ⟨c, hc, rfl⟩ := List.mem_map.1 hb
          exact (can_free fun y hy => (hxs y hy).1).2 ⟨hp, (mem_enum sure rs left c hrs hn).1 hc⟩
    · intro h
      cases b with
      | nil => have := h.len; simp at this
      | cons s b =>
        rcases h.wish 0 x s rfl rfl with e | e
        · subst e
          obtain ⟨hp, hc⟩ := (can_free fun y hy => (hxs y hy).1).1 h
          right
          rw [if_neg hp]
          exact List.mem_map.2 ⟨b, (mem_enum sure rs left b hrs hn).2 hc, rfl⟩
        · obtain ⟨y, hy, e⟩ := hasWish_iff.1 e
          subst e
          have hys := hxs y hy
          obtain ⟨hp, hc⟩ := (can_wish hy hys.1 hys.2 hn).1 h
          left
          refine ⟨y, hy, ?_⟩
          rw [if_neg hp]
          exact List.mem_map.2 ⟨b, (mem_enum sure rs _ b (fun z hz w hw => by rw [List.length_set]; exact hrs z hz w hw) (left_set hn (by omega) hp)).2 hc, rfl⟩
def capL (l : List Slot) : List Int := l.map (·.p)
theorem capL_at {l : List Slot} {k : Nat} {s : Slot} (h : l[k]? = some s) : (capL l).getD k 0 = s.p := by
  rw [capL, List.getD_eq_getElem?_getD, List.getElem?_map, h]; rfl
theorem can_aok {l : List Slot} {rs : List RQ} {b : List Int} (sure : Bool) : Can sure rs (capL l) b ↔ AOk l rs b ∧ (sure = true → SureA rs b) := by
  constructor
  · rintro ⟨h1, h2, h3, h4⟩
    refine ⟨⟨h1, h2, fun k s hs => ?_⟩, h3⟩
    have hk := (List.getElem?_eq_some_iff.1 hs).1
    have := h4 k (by rw [capL, List.length_map]; exact hk)
    rwa [capL_at hs] at this
  · rintro ⟨⟨h1, h2, h4⟩, h3⟩
    refine ⟨h1, h2, h3, fun k hk => ?_⟩
    rw [capL, List.length_map] at hk
    have hs : l[k]? = some l[k] := List.getElem?_eq_getElem hk
    rw [capL_at hs]; exact h4 k _ hs
theorem capL_nn {l : List Slot} (h : ∀ s ∈ l, 0 ≤ s.p) : ∀ k, k < (capL l).length → 0 ≤ (capL l).getD k 0 := by
  intro k hk
  rw [capL, List.length_map] at hk
  rw [capL_at (List.getElem?_eq_getElem hk)]
  exact h _ (List.getElem_mem hk)
theorem mem_all {l : List Slot} {rs : List RQ} (hf : Fit l rs) (sure : Bool) (b : List Int) : b ∈ enumA sure rs (capL l) ↔ AOk l rs b ∧ (sure = true → SureA rs b) := by
  rw [mem_enum sure rs (capL l) b (fun x hx y hy => ⟨(hf.mok.ws x hx y hy).1, by rw [capL, List.length_map]; exact hf.inn x hx y hy⟩) (capL_nn fun s hs => by have := hf.mok.sp s hs; omega), can_aok]
end Go.Sheet
/- First gives the first assignment, in the search's order, that has the greatest value. Plain law. -/
namespace Go.Sheet
/-- requests whose slots are fixed -/
inductive Fix : List RQ → List Int → Prop
  | nil : Fix [] []
  | wish {z : RQ} {y : Wish} {F : List RQ} {pre : List Int} : z.g = true → z.ws = [y] → Fix F pre → Fix (z :: F) (y.s :: pre)
  | free {z : RQ} {F : List RQ} {pre : List Int} : z.g = false → z.ws = [] → Fix F pre → Fix (z :: F) ((-1) :: pre)
theorem Fix.len {F : List RQ} {pre : List Int} (h : Fix F pre) : F.length = pre.length := by
  induction h with
  | nil => rfl
  | wish _ _ _ ih => rw [List.length_cons, List.length_cons, ih]
  | free _ _ _ ih => rw [List.length_cons, List.length_cons, ih]
theorem Fix.append {F F' : List RQ} {pre pre' : List Int} (h : Fix F pre) (h' : Fix F' pre') : Fix (F ++ F') (pre ++ pre') := by
  induction h with
  | nil => exact h'
  | wish a b _ ih => exact .wish a b ih
  | free a b _ ih => exact .free a b ih
/-- assignments without regard to the places -/
structure WS (rs : List RQ) (b : List Int) : Prop where
  len : b.length = rs.length
  wish : ∀ (i : Nat) x s, rs[i]? = some x → b[i]? = some s → s = -1 ∨ hasWish x s = true
  sure : SureA rs b
theorem ws_cons {x : RQ} {rs : List RQ} {s : Int} {b : List Int} : WS (x :: rs) (s :: b) ↔ ((s = -1 ∨ hasWish x s = true) ∧ (x.g = true → hasWish x s = true)) ∧ WS rs b := by
  constructor
  · rintro ⟨h1, h2, h3⟩
    exact ⟨⟨h2 0 x s rfl rfl, (sure_cons.1 h3).1⟩, by simpa using h1, fun i z t a c => h2 (i + 1) z t (by simpa using a) (by simpa using c), (sure_cons.1 h3).2⟩
  · rintro ⟨⟨h1, h2⟩, h3, h4, h5⟩
    refine ⟨by simpa using h3, fun i z t a c => ?_, sure_cons.2 ⟨h2, h5⟩⟩
    cases i with
    | zero => simp at a c; subst a c; exact h1
    | succ i => exact h4 i z t (by simpa using a) (by simpa using c)
theorem Fix.ws {F : List RQ} {pre : List Int} (h : Fix F pre) (rest : List RQ) : ∀ b, WS (F ++ rest) b ↔ ∃ c, b = pre ++ c ∧ WS rest c := by
  induction h with
  | nil => exact fun b => ⟨fun h => ⟨b, rfl, h⟩, fun ⟨c, e, h⟩ => by rw [e]; exact h⟩
  | @wish z y F pre hg hw _ ih =>
    have hz : ∀ s, hasWish z s = true ↔ s = y.s := fun s => by
      rw [hasWish_iff, hw]
      simp [eq_comm]
    intro b
    cases b with
    | nil => exact ⟨fun h => by have := h.len; simp at this, fun ⟨c, e, _⟩ => by cases e⟩
    | cons s b =>
      rw [List.cons_append, ws_cons, hz, ih]
      constructor
      · rintro ⟨⟨_, h2⟩, c, rfl, hc⟩
        have := h2 hg
        subst this
        exact ⟨c, rfl, hc⟩
      · rintro ⟨c, e, hc⟩
        injection e with e1 e2
        subst e1
        exact ⟨⟨.inr rfl, fun _ => rfl⟩, c, e2, hc⟩
  | @free z F pre hg hw _ ih =>
    have hz : ∀ s, ¬ hasWish z s = true := fun s h => by
      obtain ⟨y, hy, _⟩ := hasWish_iff.1 h
      rw [hw] at hy
      cases hy
    intro b
    cases b with
    | nil => exact ⟨fun h => by have := h.len; simp at this, fun ⟨c, e, _⟩ => by cases e⟩
    | cons s b =>
      rw [List.cons_append, ws_cons, ih]
      constructor
      · rintro ⟨⟨h1, _⟩, c, rfl, hc⟩
        rcases h1 with h1 | h1
        · subst h1; exact ⟨c, rfl, hc⟩
        · exact absurd h1 (hz s)
      · rintro ⟨c, e, hc⟩
        injection e with e1 e2
        subst e1
        exact ⟨⟨.inl rfl, fun h => by rw [hg] at h; cases h⟩, c, e2, hc⟩
def leftOf (l : List Slot) (pre : List Int) : List Int := (List.range l.length).map fun k => (capL l).getD k 0 - cntI (k : Int) pre
theorem leftOf_len (l : List Slot) (pre : List Int) : (leftOf l pre).length = l.length := by simp [leftOf]
theorem leftOf_at (l : List Slot) (pre : List Int) {k : Nat} (hk : k < l.length) : (leftOf l pre).getD k 0 = (capL l).getD k 0 - cntI (k : Int) pre := by
  rw [leftOf, List.getD_eq_getElem?_getD, List.getElem?_map, List.getElem?_range hk]; rfl
theorem leftOf_nil (l : List Slot) : leftOf l [] = capL l := by
  refine List.ext_getElem (by simp [leftOf, capL]) fun k h1 h2 => ?_
  have hk : k < l.length := by simpa [leftOf] using h1
  have := leftOf_at l [] hk
  rw [List.getD_eq_getElem?_getD, List.getElem?_eq_getElem h1, Option.getD_some] at this
  rw [this, List.getD_eq_getElem?_getD, List.getElem?_eq_getElem h2, Option.getD_some, cntI]; omega
theorem leftOf_wish (l : List Slot) (pre : List Int) {s : Int} (h0 : 0 ≤ s) (hl : s < l.length) : leftOf l (pre ++ [s]) = (leftOf l pre).set s.toNat ((leftOf l pre).getD s.toNat 0 - 1) := by
  refine List.ext_getElem (by simp [leftOf]) fun k h1 h2 => ?_
  have hk : k < l.length := by simpa [leftOf] using h1
  have e1 := leftOf_at l (pre ++ [s]) hk
  rw [List.getD_eq_getElem?_getD, List.getElem?_eq_getElem h1, Option.getD_some] at e1
  have e2 : ((leftOf l pre).set s.toNat ((leftOf l pre).getD s.toNat 0 - 1)).getD k 0 = ((leftOf l pre).set s.toNat ((leftOf l pre).getD s.toNat 0 - 1))[k] := by
    rw [List.getD_eq_getElem?_getD, List.getElem?_eq_getElem h2, Option.getD_some]
  rw [e1, ← e2, getD_set, cntI_append, cntI, cntI]
  by_cases e : s.toNat = k
  · rw [if_pos (show s = (k : Int) by omega), if_pos ⟨e, by rw [leftOf_len]; omega⟩, leftOf_at l pre (by omega), e]; omega
  · rw [if_neg (show ¬ s = (k : Int) by omega), if_neg (fun h => e h.1), leftOf_at l pre hk]; omega
theorem leftOf_free (l : List Slot) (pre : List Int) : leftOf l (pre ++ [-1]) = leftOf l pre := by
  rw [leftOf, leftOf]
  refine List.map_congr_left fun k _ => ?_
  rw [cntI_append, cntI, cntI, if_neg (by omega)]; omega
theorem fix_aok {l : List Slot} {F rest : List RQ} {pre : List Int} (h : Fix F pre) (b : List Int) : (AOk l (F ++ rest) b ∧ SureA (F ++ rest) b) ↔ ∃ c, b = pre ++ c ∧ Can true rest (leftOf l pre) c := by
  constructor
  · rintro ⟨⟨h1, h2, h3⟩, h4⟩
    obtain ⟨c, rfl, hc⟩ := (h.ws rest b).1 ⟨h1, h2, h4⟩
    refine ⟨c, rfl, hc.len, hc.wish, fun _ => hc.sure, fun k hk => ?_⟩
    rw [leftOf_len] at hk
    have := h3 k _ (List.getElem?_eq_getElem hk)
    rw [cntI_append] at this
    rw [leftOf_at l pre hk, capL_at (List.getElem?_eq_getElem hk)]
    omega
  · rintro ⟨c, rfl, hc⟩
    have := (h.ws rest (pre ++ c)).2 ⟨c, rfl, hc.len, hc.wish, hc.sure rfl⟩
    refine ⟨⟨this.len, this.wish, fun k s hs => ?_⟩, this.sure⟩
    have hk := (List.getElem?_eq_some_iff.1 hs).1
    have h1 := hc.cap k (by rw [leftOf_len]; exact hk)
    rw [leftOf_at l pre hk, capL_at hs] at h1
    rw [cntI_append]
    omega
theorem worthA_append (sv : RQ → Wish → Int) : ∀ (F : List RQ) (pre : List Int) (rest : List RQ) (c : List Int), F.length = pre.length → worthA sv (F ++ rest) (pre ++ c) = worthA sv F pre + worthA sv rest c
  | [], [], rest, c, _ => by
    have : worthA sv [] [] = 0 := by simp [worthA]
    rw [this]; simp
  | [], _ :: _, _, _, h => by simp at h
  | _ :: _, [], _, _, h => by simp at h
  | x :: F, s :: pre, rest, c, h => by
    rw [List.cons_append, List.cons_append, worthA, worthA, worthA_append sv F pre rest c (by simpa using h)]; omega
theorem Fit.sub {l : List Slot} {rs rs' : List RQ} (h : Fit l rs) (hn : rs'.length ≤ 24) (hs : ∀ x ∈ rs', ∃ z ∈ rs, ∀ y ∈ x.ws, y ∈ z.ws) : Fit l rs' where
  mok := ⟨h.mok.sp, h.mok.nl, hn, fun x hx y hy => by obtain ⟨z, hz, hsub⟩ := hs x hx; exact h.mok.ws z hz y (hsub y hy)⟩
  once := fun x hx y hy w hw e => by obtain ⟨z, hz, hsub⟩ := hs x hx; exact h.once z hz y (hsub y hy) w (hsub w hw) e
  inn := fun x hx y hy => by obtain ⟨z, hz, hsub⟩ := hs x hx; exact h.inn z hz y (hsub y hy)
theorem set_mid {α : Type} (F : List α) (z w : α) (rest : List α) : (F ++ z :: rest).set F.length w = F ++ w :: rest := by
  rw [List.set_append]; simp
/-- the part of the list that begins with a wish -/
def blockA (rest : List RQ) (left : List Int) (y : Wish) : List (List Int) := if left.getD y.s.toNat 0 = 0 then [] else (enumA true rest (left.set y.s.toNat (left.getD y.s.toNat 0 - 1))).map (y.s :: ·)
theorem worth_wish {x : RQ} {rest : List RQ} {y : Wish} {c : List Int} (ho : ∀ y ∈ x.ws, ∀ z ∈ x.ws, y.s = z.s → y = z) (hy : y ∈ x.ws) : worthA valQ (x :: rest) (y.s :: c) = y.w + worthA valQ rest c := by
  rw [worthA, wsv]
  cases hf : x.ws.find? fun z => z.s == y.s with
  | none => have := List.find?_eq_none.1 hf y hy; simp at this
  | some z =>
    obtain ⟨hz, hs⟩ := find_mem hf
    rw [ho z hz y hy hs]; rfl
theorem worth_free {x : RQ} {rest : List RQ} {c : List Int} (hx : ∀ y ∈ x.ws, 0 ≤ y.s) : worthA valQ (x :: rest) ((-1) :: c) = worthA valQ rest c := by
  rw [worthA, wsv]
  cases hf : x.ws.find? fun z => z.s == (-1 : Int) with
  | none => dsimp only; omega
  | some z =>
    obtain ⟨hz, hs⟩ := find_mem hf
    have := hx z hz
    omega
section
variable {l : List Slot} {F rest : List RQ} {pre : List Int} {x : RQ} {v : Int}
/-- the state of the greedy walk ahead of a request -/
structure Gr (l : List Slot) (v : Int) (F : List RQ) (pre : List Int) (rest : List RQ) : Prop where
  fix : Fix F pre
  fit : Fit l (F ++ rest)
  nn : ∀ k, k < (leftOf l pre).length → 0 ≤ (leftOf l pre).getD k 0
  le : ∀ c ∈ enumA true rest (leftOf l pre), worthA valQ F pre + worthA valQ rest c ≤ v
  ex : ∃ c ∈ enumA true rest (leftOf l pre), worthA valQ F pre + worthA valQ rest c = v
theorem Gr.xs (h : Gr l v F pre (x :: rest)) : ∀ y ∈ x.ws, 0 ≤ y.s ∧ y.s < l.length := fun y hy =>
  ⟨(h.fit.mok.ws x (by simp) y hy).1, h.fit.inn x (by simp) y hy⟩
theorem Gr.rst (h : Gr l v F pre (x :: rest)) : ∀ z ∈ rest, ∀ y ∈ z.ws, 0 ≤ y.s ∧ y.s < l.length := fun z hz y hy =>
  ⟨(h.fit.mok.ws z (by simp [hz]) y hy).1, h.fit.inn z (by simp [hz]) y hy⟩
theorem Gr.wfit (h : Gr l v F pre (x :: rest)) {y : Wish} (hy : y ∈ x.ws) : Fit l (F ++ ⟨x.name, true, [y]⟩ :: rest) :=
  h.fit.sub (by have := h.fit.mok.nr; simpa using this) fun z hz => by
    rcases List.mem_append.1 hz with hz | hz
    · exact ⟨z, by simp [hz], fun _ h => h⟩
    · rcases List.mem_cons.1 hz with rfl | hz
      · exact ⟨x, by simp, fun w hw => by obtain rfl := List.mem_singleton.1 hw; exact hy⟩
      · exact ⟨z, by simp [hz], fun _ h => h⟩
theorem Gr.ffit (h : Gr l v F pre (x :: rest)) : Fit l (F ++ ⟨x.name, false, []⟩ :: rest) :=
  h.fit.sub (by have := h.fit.mok.nr; simpa using this) fun z hz => by
    rcases List.mem_append.1 hz with hz | hz
    · exact ⟨z, by simp [hz], fun _ h => h⟩
    · rcases List.mem_cons.1 hz with rfl | hz
      · exact ⟨x, by simp, fun w hw => by cases hw⟩
      · exact ⟨z, by simp [hz], fun _ h => h⟩
theorem fixw (h : Fix F pre) (n : List UInt8) (y : Wish) : Fix (F ++ [⟨n, true, [y]⟩]) (pre ++ [y.s]) := h.append (.wish rfl rfl .nil)
theorem fixf (h : Fix F pre) (n : List UInt8) : Fix (F ++ [⟨n, false, []⟩]) (pre ++ [-1]) := h.append (.free rfl rfl .nil)
theorem worth_fixw (h : Fix F pre) (n : List UInt8) (y : Wish) : worthA valQ (F ++ [⟨n, true, [y]⟩]) (pre ++ [y.s]) = worthA valQ F pre + y.w := by
  rw [worthA_append valQ F pre _ _ h.len, worth_wish (x := ⟨n, true, [y]⟩) (fun a ha b hb _ => by
    obtain rfl := List.mem_singleton.1 ha
    exact (List.mem_singleton.1 hb).symm) (by simp)]
  simp [worthA]
theorem worth_fixf (h : Fix F pre) (n : List UInt8) : worthA valQ (F ++ [⟨n, false, []⟩]) (pre ++ [-1]) = worthA valQ F pre := by
  rw [worthA_append valQ F pre _ _ h.len, worth_free (x := ⟨n, false, []⟩) (fun y hy => by cases hy)]
  simp [worthA]
theorem Gr.block (h : Gr l v F pre (x :: rest)) {y : Wish} (hy : y ∈ x.ws) (c : List Int) : y.s :: c ∈ blockA rest (leftOf l pre) y ↔ Can true (x :: rest) (leftOf l pre) (y.s :: c) := by
  have hys := h.xs y hy
  rw [can_wish hy hys.1 (by rw [leftOf_len]; exact hys.2) h.nn, blockA]
  by_cases hp : (leftOf l pre).getD y.s.toNat 0 = 0
  · rw [if_pos hp]; exact ⟨(fun h => by cases h), fun h => absurd hp h.1⟩
  · have hm := mem_enum true rest _ c (fun z hz w hw => by rw [List.length_set, leftOf_len]; exact h.rst z hz w hw) (left_set h.nn (by rw [leftOf_len]; omega) hp)
    rw [if_neg hp]
    constructor
    · intro hb
      obtain ⟨d, hd, e⟩ := List.mem_map.1 hb
      injection e with _ e2
      subst e2
      exact ⟨hp, hm.1 hd⟩
    · rintro ⟨_, hc⟩
      exact List.mem_map.2 ⟨c, hm.2 hc, rfl⟩
theorem Gr.sub (h : Gr l v F pre (x :: rest)) {y : Wish} (hy : y ∈ x.ws) : ∀ c ∈ blockA rest (leftOf l pre) y, c ∈ enumA true (x :: rest) (leftOf l pre) := by
  intro c hc
  rw [enumA, List.mem_append, List.mem_flatMap]
  exact .inl ⟨y, hy, hc⟩
/-- the program's test of a wish -/
theorem Gr.test (h : Gr l v F pre (x :: rest)) {y : Wish} (hy : y ∈ x.ws) :
    (solveQ l (F ++ ⟨x.name, true, [y]⟩ :: rest)).map (·.2) = some v ↔ ∃ c ∈ blockA rest (leftOf l pre) y, worthA valQ F pre + worthA valQ (x :: rest) c = v := by
  have hys := h.xs y hy
  have hon : ∀ y ∈ x.ws, ∀ z ∈ x.ws, y.s = z.s → y = z := h.fit.once x (by simp)
  have hap : F ++ ⟨x.name, true, [y]⟩ :: rest = (F ++ [⟨x.name, true, [y]⟩]) ++ rest := by simp
  have key : ∀ b, (AOk l (F ++ ⟨x.name, true, [y]⟩ :: rest) b ∧ SureA (F ++ ⟨x.name, true, [y]⟩ :: rest) b) ↔ ∃ c, b = pre ++ (y.s :: c) ∧ y.s :: c ∈ blockA rest (leftOf l pre) y := by
    intro b
    rw [hap, fix_aok (fixw h.fix x.name y) b]
    constructor
    · rintro ⟨c, rfl, hc⟩
      refine ⟨c, by simp, (h.block hy c).2 ?_⟩
      rw [leftOf_wish l pre hys.1 hys.2] at hc
      refine (can_wish hy hys.1 (by rw [leftOf_len]; exact hys.2) h.nn).2 ⟨fun e => ?_, hc⟩
      have h1 := hc.cap y.s.toNat (by rw [List.length_set, leftOf_len]; omega)
      rw [getD_set, if_pos ⟨rfl, by rw [leftOf_len]; omega⟩] at h1
      have := cntI_nonneg ((y.s.toNat : Nat) : Int) c
      omega
    · rintro ⟨c, rfl, hc⟩
      refine ⟨c, by simp, ?_⟩
      rw [leftOf_wish l pre hys.1 hys.2]
      exact ((can_wish hy hys.1 (by rw [leftOf_len]; exact hys.2) h.nn).1 ((h.block hy c).1 hc)).2
  have hw : ∀ c, worthA valQ (F ++ ⟨x.name, true, [y]⟩ :: rest) (pre ++ (y.s :: c)) = worthA valQ F pre + worthA valQ (x :: rest) (y.s :: c) := by
    intro c
    rw [worthA_append valQ F pre _ _ h.fix.len, worth_wish hon hy, worth_wish (x := ⟨x.name, true, [y]⟩) (fun a ha b hb _ => by
      obtain rfl := List.mem_singleton.1 ha
      exact (List.mem_singleton.1 hb).symm) (by simp)]
  have hsh : ∀ c ∈ blockA rest (leftOf l pre) y, ∃ d, c = y.s :: d := by
    intro c hc
    rw [blockA] at hc
    split at hc
    · cases hc
    · obtain ⟨d, _, rfl⟩ := List.mem_map.1 hc
      exact ⟨d, rfl⟩
  rcases solve_spec (h.wfit hy) with ⟨a, v', e, h1, h2, h3, h4⟩ | ⟨e, h1⟩
  · rw [e]
    obtain ⟨c, hc, hcm⟩ := (key a).1 ⟨h1, h2⟩
    have hv' : v' = worthA valQ F pre + worthA valQ (x :: rest) (y.s :: c) := by rw [h3, hc, hw]
    have hle := h.le _ (h.sub hy _ hcm)
    constructor
    · intro ee
      have : v' = v := by simpa using ee
      exact ⟨_, hcm, by omega⟩
    · rintro ⟨d, hd, hdv⟩
      obtain ⟨d', rfl⟩ := hsh d hd
      obtain ⟨q1, q2⟩ := (key (pre ++ (y.s :: d'))).2 ⟨d', rfl, hd⟩
      have := h4 _ q1 q2
      rw [hw] at this
      show some v' = some v
      congr 1; omega
  · rw [e]
    constructor
    · intro ee; cases ee
    · rintro ⟨d, hd, _⟩
      obtain ⟨d', rfl⟩ := hsh d hd
      obtain ⟨q1, q2⟩ := (key (pre ++ (y.s :: d'))).2 ⟨d', rfl, hd⟩
      exact absurd q2 (h1 _ q1)
/-- the tries of one request -/
theorem Gr.tries (h : Gr l v F pre (x :: rest)) : ∀ (ws2 ws1 : List Wish) (z : RQ), x.ws = ws1 ++ ws2 → (∀ y ∈ ws1, ¬ ∃ c ∈ blockA rest (leftOf l pre) y, worthA valQ F pre + worthA valQ (x :: rest) c = v) →
    (∃ y w1 w2, x.ws = w1 ++ y :: w2 ∧ (∀ y ∈ w1, ¬ ∃ c ∈ blockA rest (leftOf l pre) y, worthA valQ F pre + worthA valQ (x :: rest) c = v) ∧ (∃ c ∈ blockA rest (leftOf l pre) y, worthA valQ F pre + worthA valQ (x :: rest) c = v) ∧
      tryW l v x F.length ws2 (F ++ z :: rest) = (F ++ ⟨x.name, true, [y]⟩ :: rest, y.s)) ∨
    ((∀ y ∈ x.ws, ¬ ∃ c ∈ blockA rest (leftOf l pre) y, worthA valQ F pre + worthA valQ (x :: rest) c = v) ∧ tryW l v x F.length ws2 (F ++ z :: rest) = (F ++ ⟨x.name, false, []⟩ :: rest, -1)) := by
  intro ws2
  induction ws2 with
  | nil =>
    intro ws1 z e hno
    right
    rw [List.append_nil] at e
    refine ⟨by rw [e]; exact hno, ?_⟩
    rw [tryW, set_mid]
  | cons y ws2 ih =>
    intro ws1 z e hno
    have hy : y ∈ x.ws := by rw [e]; simp
    rw [tryW, set_mid]
    by_cases ht : (solveQ l (F ++ ⟨x.name, true, [y]⟩ :: rest)).map (·.2) = some v
    · left
      rw [if_pos ht]
      exact ⟨y, ws1, ws2, e, hno, (h.test hy).1 ht, rfl⟩
    · rw [if_neg ht]
      refine ih (ws1 ++ [y]) _ (by rw [e]; simp) fun w hw => ?_
      rcases List.mem_append.1 hw with hw | hw
      · exact hno w hw
      · obtain rfl := List.mem_singleton.1 hw
        exact fun hc => ht ((h.test hy).2 hc)
theorem Gr.nextw (h : Gr l v F pre (x :: rest)) {y : Wish} (hy : y ∈ x.ws) (hx : ∃ c ∈ blockA rest (leftOf l pre) y, worthA valQ F pre + worthA valQ (x :: rest) c = v) : Gr l v (F ++ [⟨x.name, true, [y]⟩]) (pre ++ [y.s]) rest := by
  have hys := h.xs y hy
  have hon : ∀ y ∈ x.ws, ∀ z ∈ x.ws, y.s = z.s → y = z := h.fit.once x (by simp)
  have hp : (leftOf l pre).getD y.s.toNat 0 ≠ 0 := by
    intro hp
    obtain ⟨c, hc, _⟩ := hx
    rw [blockA, if_pos hp] at hc
    cases hc
  refine ⟨fixw h.fix _ _, by have := h.wfit hy; simpa using this, ?_, fun c hc => ?_, ?_⟩
  · rw [leftOf_wish l pre hys.1 hys.2]
    exact left_set h.nn (by rw [leftOf_len]; omega) hp
  · rw [leftOf_wish l pre hys.1 hys.2] at hc
    have hm : y.s :: c ∈ blockA rest (leftOf l pre) y := by rw [blockA, if_neg hp]; exact List.mem_map.2 ⟨c, hc, rfl⟩
    have := h.le _ (h.sub hy _ hm)
    rw [worth_wish hon hy] at this
    rw [worth_fixw h.fix]
    omega
  · obtain ⟨c, hc, hv⟩ := hx
    rw [blockA, if_neg hp] at hc
    obtain ⟨d, hd, rfl⟩ := List.mem_map.1 hc
    rw [leftOf_wish l pre hys.1 hys.2]
    refine ⟨d, hd, ?_⟩
    rw [worth_wish hon hy] at hv
    rw [worth_fixw h.fix]
    omega
theorem Gr.nextf (h : Gr l v F pre (x :: rest)) (hno : ∀ y ∈ x.ws, ¬ ∃ c ∈ blockA rest (leftOf l pre) y, worthA valQ F pre + worthA valQ (x :: rest) c = v) : ¬ (true = true ∧ x.g = true) ∧ Gr l v (F ++ [⟨x.name, false, []⟩]) (pre ++ [-1]) rest := by
  have hx0 : ∀ y ∈ x.ws, 0 ≤ y.s := fun y hy => (h.xs y hy).1
  obtain ⟨c, hc, hv⟩ := h.ex
  rw [enumA, List.mem_append, List.mem_flatMap] at hc
  rcases hc with ⟨y, hy, hc⟩ | hc
  · exact absurd ⟨c, hc, hv⟩ (hno y hy)
  · split at hc
    · cases hc
    · rename_i hg
      obtain ⟨d, hd, rfl⟩ := List.mem_map.1 hc
      refine ⟨hg, fixf h.fix _, by have := h.ffit; simpa using this, by rw [leftOf_free]; exact h.nn, fun e he => ?_, ⟨d, by rw [leftOf_free]; exact hd, ?_⟩⟩
      · rw [leftOf_free] at he
        have hm : (-1) :: e ∈ enumA true (x :: rest) (leftOf l pre) := by
          rw [enumA, List.mem_append]
          right
          rw [if_neg hg]
          exact List.mem_map.2 ⟨e, he, rfl⟩
        have := h.le _ hm
        rw [worth_free hx0] at this
        rw [worth_fixf h.fix]
        omega
      · rw [worth_free hx0] at hv
        rw [worth_fixf h.fix]
        omega
theorem find_flat {α β : Type} (p : β → Bool) (f : α → List β) : ∀ (w : List α), (∀ y ∈ w, ∀ c ∈ f y, ¬ p c = true) → (w.flatMap f).find? p = none := by
  intro w h
  rw [List.find?_eq_none]
  intro c hc
  obtain ⟨y, hy, hcy⟩ := List.mem_flatMap.1 hc
  exact h y hy c hcy
theorem take_set_at {a pre : List Int} {s : Int} (h1 : pre.length < a.length) (h2 : a.take pre.length = pre) : (a.set pre.length s).take (pre ++ [s]).length = pre ++ [s] := by
  have hl : (pre ++ [s]).length = pre.length + 1 := by simp
  rw [hl, take_at (x := s) (by rw [List.getElem?_set_self h1]), List.take_set_of_le (Nat.le_refl _), h2]
end
theorem greedy {l : List Slot} {v : Int} : ∀ (rest : List RQ) (F : List RQ) (pre a : List Int), Gr l v F pre rest → a.length = pre.length + rest.length → a.take pre.length = pre →
    ∃ c, (enumA true rest (leftOf l pre)).find? (fun c => worthA valQ F pre + worthA valQ rest c == v) = some c ∧ firstL l v pre.length rest (F ++ rest) a = pre ++ c
  | [], F, pre, a, h, ha, ht => by
    obtain ⟨c, hc, hv⟩ := h.ex
    rw [enumA, List.mem_singleton] at hc
    subst hc
    refine ⟨[], ?_, ?_⟩
    · rw [enumA, List.find?_cons]
      have : (worthA valQ F pre + worthA valQ [] [] == v) = true := by simpa using hv
      rw [this]
    · rw [firstL, List.append_nil, ← ht, List.take_of_length_le (by rw [ha]; simp)]
  | x :: rest, F, pre, a, h, ha, ht => by
    have hlen := h.fix.len
    have hal : pre.length < a.length := by rw [ha, List.length_cons]; omega
    rw [firstL, ← hlen]
    rcases h.tries x.ws [] x rfl (fun y hy => by cases hy) with ⟨y, w1, w2, e, hno, hx, et⟩ | ⟨hno, et⟩
    · have hy : y ∈ x.ws := by rw [e]; simp
      have hys := h.xs y hy
      have hon : ∀ y ∈ x.ws, ∀ z ∈ x.ws, y.s = z.s → y = z := h.fit.once x (by simp)
      have hp : (leftOf l pre).getD y.s.toNat 0 ≠ 0 := by
        intro hp
        obtain ⟨c, hc, _⟩ := hx
        rw [blockA, if_pos hp] at hc
        cases hc
      rw [et]
      dsimp only
      obtain ⟨c, hc1, hc2⟩ := greedy rest _ _ (a.set pre.length y.s) (h.nextw hy hx) (by rw [List.length_set, ha]; simp; omega) (take_set_at hal ht)
      rw [leftOf_wish l pre hys.1 hys.2, worth_fixw h.fix] at hc1
      refine ⟨y.s :: c, ?_, ?_⟩
      · rw [enumA]
        have hfl : (x.ws.flatMap fun y => if (leftOf l pre).getD y.s.toNat 0 = 0 then [] else (enumA true rest ((leftOf l pre).set y.s.toNat ((leftOf l pre).getD y.s.toNat 0 - 1))).map (y.s :: ·)) = w1.flatMap (blockA rest (leftOf l pre)) ++ (blockA rest (leftOf l pre) y ++ w2.flatMap (blockA rest (leftOf l pre))) := by
          rw [e, List.flatMap_append, List.flatMap_cons]; rfl
        rw [hfl, List.find?_append, List.find?_append, find_flat _ _ w1 (fun z hz c hc hcv => hno z hz ⟨c, hc, by simpa using hcv⟩), List.find?_append]
        have hb : (blockA rest (leftOf l pre) y).find? (fun c => worthA valQ F pre + worthA valQ (x :: rest) c == v) = some (y.s :: c) := by
          rw [blockA, if_neg hp, List.find?_map]
          have hcg : (fun c => worthA valQ F pre + worthA valQ (x :: rest) c == v) ∘ (y.s :: ·) = fun c => worthA valQ F pre + y.w + worthA valQ rest c == v := by
            funext d
            show (worthA valQ F pre + worthA valQ (x :: rest) (y.s :: d) == v) = _
            rw [worth_wish hon hy, ← Int.add_assoc]
          rw [hcg, hc1]; rfl
        rw [hb]; rfl
      · have e1 : F ++ ⟨x.name, true, [y]⟩ :: rest = (F ++ [⟨x.name, true, [y]⟩]) ++ rest := by simp
        rw [e1, show F.length = pre.length from hlen, show pre.length + 1 = (pre ++ [y.s]).length by simp, hc2]
        simp
    · rw [et]
      dsimp only
      obtain ⟨hg, hG⟩ := h.nextf hno
      have hx0 : ∀ y ∈ x.ws, 0 ≤ y.s := fun y hy => (h.xs y hy).1
      obtain ⟨c, hc1, hc2⟩ := greedy rest _ _ (a.set pre.length (-1)) hG (by rw [List.length_set, ha]; simp; omega) (take_set_at hal ht)
      rw [leftOf_free, worth_fixf h.fix] at hc1
      refine ⟨(-1) :: c, ?_, ?_⟩
      · rw [enumA]
        have hfl : (x.ws.flatMap fun y => if (leftOf l pre).getD y.s.toNat 0 = 0 then [] else (enumA true rest ((leftOf l pre).set y.s.toNat ((leftOf l pre).getD y.s.toNat 0 - 1))).map (y.s :: ·)) = x.ws.flatMap (blockA rest (leftOf l pre)) := rfl
        rw [hfl, List.find?_append, find_flat _ _ x.ws (fun z hz c hc hcv => hno z hz ⟨c, hc, by simpa using hcv⟩), if_neg hg, List.find?_map]
        have hcg : (fun c => worthA valQ F pre + worthA valQ (x :: rest) c == v) ∘ ((-1) :: ·) = fun c => worthA valQ F pre + worthA valQ rest c == v := by
          funext d
          show (worthA valQ F pre + worthA valQ (x :: rest) ((-1) :: d) == v) = _
          rw [worth_free hx0]
        rw [hcg, hc1]; rfl
      · have e1 : F ++ ⟨x.name, false, []⟩ :: rest = (F ++ [⟨x.name, false, []⟩]) ++ rest := by simp
        rw [e1, show F.length = pre.length from hlen, show pre.length + 1 = (pre ++ [(-1 : Int)]).length by simp, hc2]
        simp
/-- THE LAW of Best, Assign, First and Most -/
theorem best_ref {l : List Slot} {rs : List RQ} (h : checkRequests l rs = 0) :
    mostM l rs = (searchF rs false [] rs (capL l) fnd0).most ∧
    ((searchF rs true [] rs (capL l) fnd0).is = false → best l rs = (0, 23) ∧ assign l rs = ([], 23) ∧ firstF l rs = ([], 23)) ∧
    ((searchF rs true [] rs (capL l) fnd0).is = true → best l rs = ((searchF rs true [] rs (capL l) fnd0).value, 0) ∧ (∃ a, assign l rs = (a, 0) ∧ AOk l rs a ∧ SureA rs a ∧ worthA valQ rs a = (searchF rs true [] rs (capL l) fnd0).value) ∧ firstF l rs = ((searchF rs true [] rs (capL l) fnd0).first, 0)) := by
  have hf := okay_fit (okay_of h)
  refine ⟨?_, ?_, ?_⟩
  · obtain ⟨⟨a, ha, ea⟩, hle⟩ := most_spec hf
    have hm : a ∈ enumA false rs (capL l) := (mem_all hf false a).2 ⟨ha, fun h => by cases h⟩
    have hF := search_found rs false (capL l) (fun e => by rw [e] at hm; cases hm)
    obtain ⟨b, hb, eb⟩ := hF.most
    have h1 := hF.mle a hm
    have h2 := hle b ((mem_all hf false b).1 hb).1
    omega
  · intro hi
    have hE : enumA true rs (capL l) = [] := by
      apply Classical.byContradiction
      intro hE
      have := (search_found rs true (capL l) hE).is
      rw [hi] at this; cases this
    have hq : solveQ l rs = none := by
      rcases solve_spec hf with ⟨a, v, e, h1, h2, _⟩ | ⟨e, _⟩
      · have := (mem_all hf true a).2 ⟨h1, fun _ => h2⟩
        rw [hE] at this; cases this
      · exact e
    rw [best, assign, firstF, hq, h]
    exact ⟨rfl, rfl, rfl⟩
  · intro hi
    have hE : enumA true rs (capL l) ≠ [] := by
      intro hE
      rw [search_none rs true (capL l) hE] at hi; cases hi
    have hF := search_found rs true (capL l) hE
    generalize searchF rs true [] rs (capL l) fnd0 = f at *
    obtain ⟨g1, g2⟩ := (mem_all hf true f.first).1 hF.mem
    rcases solve_spec hf with ⟨a, v, e, h1, h2, h3, h4⟩ | ⟨e, h1⟩
    · have hv : v = f.value := by
        have q1 := h4 _ g1 (g2 rfl)
        have q2 := hF.le a ((mem_all hf true a).2 ⟨h1, fun _ => h2⟩)
        have q3 := hF.val
        omega
      have hG : Gr l v [] [] rs := by
        refine ⟨.nil, hf, ?_, ?_, ?_⟩
        · rw [leftOf_nil]; exact capL_nn fun s hs => by have := hf.mok.sp s hs; omega
        · intro c hc
          rw [leftOf_nil] at hc
          have := hF.le c hc
          simp [worthA]; omega
        · rw [leftOf_nil]
          exact ⟨f.first, hF.mem, by have := hF.val; simp [worthA]; omega⟩
      obtain ⟨c, hc1, hc2⟩ := greedy rs [] [] a hG (by rw [h1.len]; simp) rfl
      rw [leftOf_nil] at hc1
      have e0 : (fun c => worthA valQ [] [] + worthA valQ rs c == v) = fun c => worthA valQ rs c == f.value := by
        funext d
        rw [hv]; simp [worthA]
      rw [e0, hF.fst] at hc1
      have ec : f.first = c := Option.some.inj hc1
      refine ⟨?_, ⟨a, ?_, h1, h2, by omega⟩, ?_⟩
      · rw [best, h, e, hv]; rfl
      · rw [assign, h, e]; rfl
      · rw [firstF, h, e]
        show (firstL l v 0 rs rs a, 0) = _
        have : firstL l v 0 rs rs a = c := by simpa using hc2
        rw [this, ec]
    · exact absurd (g2 rfl) (h1 _ g1)
end Go.Sheet
/- The reference's search, step by step. Plain law. -/
namespace Go.Sheet
theorem searchF_nil (RS : List RQ) (sure : Bool) (pre left : List Int) (F : Fnd) : searchF RS sure pre [] left F = updF RS F pre := by
  simp [searchF, enumA]
def stepW (RS : List RQ) (sure : Bool) (pre : List Int) (rest : List RQ) (left : List Int) (F : Fnd) (y : Wish) : Fnd :=
  if left.getD y.s.toNat 0 = 0 then F else searchF RS sure (pre ++ [y.s]) rest (left.set y.s.toNat (left.getD y.s.toNat 0 - 1)) F
theorem fold_flat {α : Type} (RS : List RQ) (pre : List Int) (g : α → List (List Int)) : ∀ (ws : List α) (F : Fnd), ((ws.flatMap g).map (pre ++ ·)).foldl (updF RS) F = ws.foldl (fun F y => ((g y).map (pre ++ ·)).foldl (updF RS) F) F
  | [], F => rfl
  | y :: ws, F => by rw [List.flatMap_cons, List.map_append, List.foldl_append, fold_flat RS pre g ws, List.foldl_cons]
theorem map_cons_pre (pre : List Int) (s : Int) (E : List (List Int)) : (E.map (s :: ·)).map (pre ++ ·) = E.map ((pre ++ [s]) ++ ·) := by
  rw [List.map_map]
  refine List.map_congr_left fun b _ => ?_
  simp
theorem searchF_cons (RS : List RQ) (sure : Bool) (pre : List Int) (x : RQ) (rest : List RQ) (left : List Int) (F : Fnd) :
    searchF RS sure pre (x :: rest) left F = if sure = true ∧ x.g = true then x.ws.foldl (stepW RS sure pre rest left) F else searchF RS sure (pre ++ [-1]) rest left (x.ws.foldl (stepW RS sure pre rest left) F) := by
  have e : (fun (F : Fnd) (y : Wish) => ((if left.getD y.s.toNat 0 = 0 then [] else (enumA sure rest (left.set y.s.toNat (left.getD y.s.toNat 0 - 1))).map (y.s :: ·)).map (pre ++ ·)).foldl (updF RS) F) = stepW RS sure pre rest left := by
    funext F y
    rw [stepW]
    by_cases h : left.getD y.s.toNat 0 = 0
    · rw [if_pos h, if_pos h]; rfl
    · rw [if_neg h, if_neg h, map_cons_pre]; rfl
  rw [searchF, enumA, List.map_append, List.foldl_append, fold_flat, e]
  by_cases h : sure = true ∧ x.g = true
  · rw [if_pos h, if_pos h]; rfl
  · rw [if_neg h, if_neg h, map_cons_pre]; rfl
theorem fold_take {α β : Type} {f : β → α → β} {l : List α} {k : Nat} {x : α} {z : β} (h : l[k]? = some x) : (l.take (k + 1)).foldl f z = f ((l.take k).foldl f z) x := by
  rw [take_at h, List.foldl_append]; rfl
theorem worth_take {RS : List RQ} {a : List Int} {k : Nat} {x : RQ} {s : Int} (hx : RS[k]? = some x) (hs : a[k]? = some s) : worthA valQ (RS.take (k + 1)) (a.take (k + 1)) = worthA valQ (RS.take k) (a.take k) + wsv valQ x s := by
  have h1 := (List.getElem?_eq_some_iff.1 hx).1
  have h2 := (List.getElem?_eq_some_iff.1 hs).1
  rw [take_at hx, take_at hs, worthA_append valQ _ _ _ _ (by rw [List.length_take, List.length_take]; omega)]
  simp [worthA]
theorem served_take {a : List Int} {k : Nat} {s : Int} (hs : a[k]? = some s) : servedN (a.take (k + 1)) = servedN (a.take k) + if 0 ≤ s then 1 else 0 := by
  rw [take_at hs, servedN_snoc]
theorem wsv_refW {x : RQ} {s : Int} (h : hasWish x s = true) : wsv valQ x s = refW x s := by
  obtain ⟨y, hy⟩ := hasWish_some h
  rw [wsv, refW, hy]; rfl
end Go.Sheet
/- Walk: Assign. -/
namespace Go.Proofs.YtjfhncnpmelopaaGreatDoor
open Go.RowKit Go.Mem Go.Sheet
theorem assign_any (W : World) (vl vr : Value) (nl n : Nat) (l : List Slot) (rs : List Req) (hl : Rd W (· < W.heap.size) 3 vl nl (l.flatMap Slot.cells)) (h : RdReqs W (· < W.heap.size) vr n rs) :
    Calls Tryz.prog 17 #[vl, vr] W (RetInts W (assign l (rs.map Req.rq))) := by
  have HC := Lib.hid (solved_any W vl vr nl n l rs hl h)
  clear hl h
  go_enter Tryz.func17, Tryz.ntmps17
  go_wp2_with fail
  refine HC.out.mono ?_
  clear HC
  rintro e w2 (⟨h1, rfl, hb⟩ | ⟨h1, M, hM, ⟨hr, rfl, hb⟩ | ⟨v, g, va, hr, rfl, S⟩⟩)
  · have HF : Hid (assign l (rs.map Req.rq) = ([], checkRequests l (rs.map Req.rq))) := by show _ = _; rw [assign, if_pos h1]
    clear h1
    go_wp2
    go_ret2
    rw [HF.out]
    exact RetInts.err hb
  · have HF : Hid (assign l (rs.map Req.rq) = ([], 23)) := by show _ = _; rw [assign, if_neg (fun h => h h1), hM.solveQ, hr]; rfl
    clear h1 hr hM
    go_wp2
    go_ret2
    rw [HF.out]
    exact RetInts.err hb
  · have HF : Hid (assign l (rs.map Req.rq) = (places M, 0)) := by show _ = _; rw [assign, if_neg (fun h => h h1), hM.solveQ, hr]; rfl
    have hlen : Hid ((places M).length = (rs.map Req.rq).length) := by show _ = _; rw [places_len, hM.rows]
    have HS := Lib.hid (S.sub (L' := [row 3 1 va (rs.map Req.rq).length (intsV (places M))]) (.cons _ (.cons_cons _ .slnil)))
    clear h1 hr hM S
    go_wp2
    go_ret2
    rw [HF.out]
    exact ⟨va, rfl, by rw [hlen.out]; exact HS.out⟩
end Go.Proofs.YtjfhncnpmelopaaGreatDoor
/- Walk of the reference's search. -/
namespace Go.Proofs.YtjfhncnpmelopaaGreatDoor
open Go.RowKit Go.Mem Go.Sheet
@[reducible] def fndV (F : Fnd) (vf : Value) : Value := .agg #[.bool F.is, .int .i64 F.value, vf, .int .i64 F.most]
/-- a slice that is the given one, or owned -/
def owv (v0 : Value) (x0 : List Int) (v : Value) (x : List Int) : Asr where
  holds w F := (v = v0 ∧ x = x0) ∨ Rd w F 1 v x.length (ints x)
  loc := fun h hs hk => h.imp id fun h => Rd.loc h hs hk
  mono := fun h hh => h.imp id fun h => Rd.mono h fun b _ => hh b
theorem owv_new {W w : World} {L : List Asr} (h : St W w L) (v : Value) (x : List Int) : St W w (L ++ [owv v x v x]) :=
  h.push (F := fun _ => False) (Below.refl _ _) (.inl ⟨rfl, rfl⟩) (fun b hb => hb.elim)
theorem owv_rd {W w : World} {L : List Asr} {i : Nat} {v0 v : Value} {x0 x : List Int} (h : St W w L) (hi : L[i]? = some (owv v0 x0 v x)) (h0 : Rd W (· < W.heap.size) 1 v0 x0.length (ints x0)) : Rd w (· < w.heap.size) 1 v x.length (ints x) := by
  obtain ⟨F, h1, h2⟩ := h.get hi
  rcases h2 with ⟨rfl, rfl⟩ | h2
  · exact h0.later h.bel
  · exact h2.mono fun b _ hb => (h1 b hb).2
theorem owv_merge {W w : World} {L : List Asr} {v0 v v2 : Value} {x0 x x2 : List Int} (h : St W w (L ++ [owv v0 x0 v x, owv v x v2 x2])) : St W w (L ++ [owv v0 x0 v2 x2]) := by
  refine h.merge fun F1 F2 h1 h2 => ?_
  rcases h2 with ⟨rfl, rfl⟩ | h2
  · rcases h1 with h1 | h1
    · exact .inl h1
    · exact .inr (h1.mono fun b _ hb => .inl hb)
  · exact .inr (h2.mono fun b _ hb => .inr hb)
/-- a row kept to be read -/
theorem owv_row {W w : World} {L : List Asr} {i n : Nat} {v v0 : Value} {x0 x : List Int} {e : TypeId} (h : St W w L) (hi : L[i]? = some (row e 1 v n (ints x))) (hn : n = x.length) : St W w (L.set i (owv v0 x0 v x)) := by
  subst hn
  obtain ⟨F1, h1, ⟨h2, hF⟩, h3⟩ := h.upd hi
  refine h3 w _ F1 none (.inr ?_) (World.grownBy.refl _ _) (fun g hg => by cases hg) (fun b hb => .inl hb)
  exact row_holds_rd ⟨h2, hF⟩
/-- how search ends -/
def RetFnd (W : World) (v0 : Value) (x0 : List Int) (F : Fnd) (e : Ending) (w' : World) : Prop :=
  ∃ vf, e = .returned (fndV F vf) ∧ St W w' [owv v0 x0 vf F.first]
theorem res_fnd (tmps : Array Value) (w : World) (g : Nat) (a b c d : Value) (hp : tmps.getD 12 undef = .pointer (some ⟨g, 0, none⟩)) (h0 : w.cell? ⟨g, 0, none⟩ = some a) (h1 : w.cell? ⟨g, 1, none⟩ = some b) (h2 : w.cell? ⟨g, 2, none⟩ = some c) (h3 : w.cell? ⟨g, 3, none⟩ = some d) :
    (results Tryz.f87 tmps).run Tryz.prog w = .ok (.agg #[a, b, c, d]) w := by
  have hp' : tmps[12]?.getD undef = .pointer (some ⟨g, 0, none⟩) := by simpa using hp
  simp [results, Tryz.results87, hp', h0, h1, h2, h3, go_sem]
theorem row_slot {W w : World} {L : List Asr} {i t n : Nat} {e : TypeId} {v : Value} {left : List Int} {lt : Int} (h : St W w L) (hi : L[i]? = some (row e 1 v n ([] ++ ints left))) (ht : t < n) (hl : left[t]? = some lt) :
    ∃ g c, v = .slice (some ⟨g, 0, none⟩) n c ∧ w.cell? ⟨g, t, none⟩ = some (.int .i64 lt) ∧ w.frozen? ⟨g, t, none⟩ = false := by
  obtain ⟨g, c, hv, _, _, _, hcc, hfr⟩ := h.row_form hi (by omega)
  refine ⟨g, c, hv, ?_, hfr t⟩
  rw [hcc t (by omega), List.nil_append, ints, List.getElem?_map, hl]; rfl
theorem _root_.Go.Mem.St.psub {W w : World} {a b c d e : Asr} (h : St W w [a, b, c, d, e]) : St W w [a, b, c, d] := h.sub (List.sublist_append_left [a, b, c, d] [e])
theorem _root_.Go.Mem.St.psub2 {W w : World} {a b c d e : Asr} (h : St W w [a, b, c, e, d]) : St W w [a, b, c, d] := h.sub (.cons_cons _ (.cons_cons _ (.cons_cons _ (.cons _ (List.Sublist.refl _)))))
theorem _root_.Go.Mem.St.perm_sub {W w : World} {a b c d e f : Asr} (h : St W w [a, b, c, d, e, f]) : St W w [a, b, c, d, e] := h.sub (List.sublist_append_left [a, b, c, d, e] [f])
theorem _root_.Go.Mem.St.perm_sub2 {W w : World} {a b c d e f : Asr} (h : St W w [a, b, c, d, f, e]) : St W w [a, b, c, d, e] := h.sub (.cons_cons _ (.cons_cons _ (.cons_cons _ (.cons_cons _ (.cons _ (List.Sublist.refl _))))))
theorem Rd_n {w : World} {S : Nat → Prop} {size n n' : Nat} {v : Value} {xs : List Value} (h : Rd w S size v n xs) (e : n = n') : Rd w S size v n' xs := e ▸ h
theorem servedN_bd' : ∀ a : List Int, 0 ≤ servedN a ∧ servedN a ≤ a.length
  | [] => by simp [servedN]
  | s :: a => by have := servedN_bd' a; rw [servedN, List.length_cons]; split <;> omega
/-- search, from one point on -/
def SearchAt (RS : List RQ) (l : List Slot) (sure : Bool) (vl : Value) (rest : List RQ) : Prop := ∀ (pre left : List Int) (F : Fnd) (W : World) (vy va vq vf : Value) (n na nq : Nat) (rs : List Req), rs.map Req.rq = RS →
    RdReqs W (· < W.heap.size) vy n rs → Rd W (· < W.heap.size) 1 va na (ints pre) → Rd W (· < W.heap.size) 1 vq nq (ints left) → Rd W (· < W.heap.size) 1 vf F.first.length (ints F.first) → na = pre.length → RS.drop na = rest → na ≤ n →
    (∀ (i : Nat) x s, RS[i]? = some x → pre[i]? = some s → s = -1 ∨ hasWish x s = true) → left.length = l.length → (∀ k, 0 ≤ left.getD k 0 ∧ left.getD k 0 ≤ 8) →
    Calls Tryz.prog 87 #[vl, vy, va, vq, .bool sure, fndV F vf] W (RetFnd W vf F.first (searchF RS sure pre rest left F))
set_option maxRecDepth 100000 in
set_option maxHeartbeats 0 in
theorem search_nil (RS : List RQ) (l : List Slot) (ok : Okay l RS) (sure : Bool) (vl : Value) : SearchAt RS l sure vl [] := by
  intro pre left F W vy va vq vf n na nq rs hrs hy ha hq hf hna hdr hle hpre hll hlb
  have hnr := ok.nr
  have HNR := hy.1.count (f := Req.cells) (size := 3) (fun _ => rfl) (by decide)
  have hrl : RS.length = n := by rw [← hrs, List.length_map]; exact HNR.symm
  have hnn : na = n := by
    have := congrArg List.length hdr
    rw [List.length_drop] at this
    simp at this
    omega
  subst hnn
  rw [searchF_nil]
  obtain ⟨Ay, cy, rfl, _, _, _⟩ := hy.1.open_
  obtain ⟨Aa, ca, rfl, _, _, _⟩ := ha.open_
  obtain ⟨Af, cf, rfl, _, _, _⟩ := hf.open_
  have HY := Lib.hid hy
  have HA := Lib.hid ha
  have HF := Lib.hid hf
  have HRS := Lib.hid hrs
  have HPL := Lib.hid hna
  have HPRE := Lib.hid hpre
  have HOK := Lib.hid ok
  have h24 : na ≤ 24 := by omega
  obtain ⟨is, value, first, most⟩ := F
  clear hy ha hf hrs hna hpre hq hdr hle hll hlb hnr HNR hrl ok
  dsimp only at *
  have S0 := ((St.refl W).blk_new #[.bool is, .int .i64 value, .slice Af first.length cf, .int .i64 most] 40).blk_new #[.bool false, .int .i64 0, .slice none 0 0, .int .i64 0] 40
  simp only [List.cons_append, List.nil_append] at S0
  have HS0 := Lib.hid S0
  clear S0
  go_enter Tryz.func87, Tryz.ntmps87
  go_wp2_with fail
  simp only [World.size_alloc] at HS0
  generalize (W.alloc (.cells #[.bool is, .int .i64 value, .slice Af first.length cf, .int .i64 most] 40)).alloc (.cells #[.bool false, .int .i64 0, .slice none 0 0, .int .i64 0] 40) = w1 at HS0 ⊢
  have HGA : Hid (W.heap.size = W.heap.size) := rfl
  generalize hga : W.heap.size = ga at HS0 ⊢
  have HGB := Lib.hid hga
  clear HGA hga
  go_loopw [16, 14, 15] (fun i vv vs w' => ∃ j : Nat, j ≤ na ∧ i = .int .i64 j ∧ vv = .int .i64 (worthA valQ (RS.take j) (pre.take j)) ∧ vs = .int .i64 (servedN (pre.take j)) ∧ St W w' [blk ga 40 #[.bool is, .int .i64 value, .slice Af first.length cf, .int .i64 most], blk (ga + 1) 40 #[.bool false, .int .i64 0, .slice none 0 0, .int .i64 0]]) (fun i _ _ _ => na - (intOf i).toNat)
  case atStart => exact ⟨0, Nat.zero_le _, rfl, by simp [worthA], by simp [servedN], HS0.out⟩
  case round =>
    obtain ⟨j, hj, rfl, rfl, rfl, S⟩ := hrel
    clear HS0
    by_cases hjl : j < na
    · obtain ⟨b, o, s, rfl, hs, cs⟩ := Rd.int (q := .i64) (l := pre) (HA.out.later S.bel) hjl
      obtain ⟨b2, o2, xr, hAy, hxr, d0, d1, d2⟩ := ((reqs_later HY.out S.bel).1).elem3 (k := j) (fun s : Req => .string s.name) (fun s : Req => .bool s.g) (fun s : Req => .slice s.wa s.wn s.wc) (fun _ => rfl) hjl
      subst hAy
      have hxq : RS[j]? = some xr.rq := by rw [← HRS.out, List.getElem?_map, hxr]; rfl
      have HP := HPRE.out j xr.rq s hxq hs
      have hvb := val_bd (RS.take j) (pre.take j) (fun y hy z hz => by have := ((HOK.out.wish y (List.mem_of_mem_take hy) z hz).2); omega)
      have hsb := servedN_bd' (pre.take j)
      rw [List.length_take] at hvb hsb
      have HWT := Lib.hid (worth_take (RS := RS) (a := pre) hxq hs)
      have HST := Lib.hid (served_take hs)
      have hcase := refW_cases HOK.out (List.mem_of_getElem? hxq) s
      have hws := ((reqs_later HY.out S.bel).2 xr (List.mem_of_getElem? hxr)).1
      by_cases hs0 : 0 ≤ s
      · have ts : decide (0 ≤ s) = true := by simpa using hs0
        have hw : hasWish xr.rq s = true := HP.resolve_left (by omega)
        have hrw : 1 ≤ refW xr.rq s ∧ refW xr.rq s ≤ 10000 := by
          rcases hcase with ⟨_, h1, h2, _⟩ | ⟨h1, _⟩
          · exact ⟨h1, h2⟩
          · rw [hw] at h1; cases h1
        have HWT2 : Hid (worthA valQ (RS.take (j + 1)) (pre.take (j + 1)) = worthA valQ (RS.take j) (pre.take j) + refW xr.rq s) := by show _ = _; rw [HWT.out, wsv_refW hw]
        have HST2 : Hid (servedN (pre.take (j + 1)) = servedN (pre.take j) + 1) := by have := HST.out; rw [if_pos hs0] at this; exact this
        have HCW : Hid (∀ w', Below wr.heap.size wr w' → Calls Tryz.prog 88 #[xr.val, .int .i64 s] w' fun e w'' => e = .returned (.int .i64 (refW xr.rq s)) ∧ Below w'.heap.size w' w'') := fun w' hb => refWeight_any w' xr s (hws.later hb)
        obtain ⟨name, g, wa, wn, wc, ws⟩ := xr
        dsimp only at d0 d1 d2
        have hsb' : 0 ≤ servedN (pre.take j) ∧ servedN (pre.take j) ≤ 24 := by omega
        have hvb' : 0 ≤ worthA valQ (RS.take j) (pre.take j) ∧ worthA valQ (RS.take j) (pre.take j) ≤ 240000 := by omega
        clear hs hxr hxq HP hvb hsb HWT HST hcase hws hs0 hw
        generalize worthA valQ (RS.take j) (pre.take j) = va0 at *
        generalize servedN (pre.take j) = sv0 at *
        generalize refW (Req.rq ⟨name, g, wa, wn, wc, ws⟩) s = rw0 at *
        have z1 := World.block_lt_of_cell? wr _ cs
        have z2 := World.block_lt_of_cell? wr _ d0
        have HS := Lib.hid S
        clear S
        go_wp2_with fail
        refine wp_cls 11 (fun w' => Below wr.heap.size wr w') (by kernel_rfl) (by kernel_rfl) (Below.refl _ _).drew ?_
        simp only [List.take_succ_cons, List.take_zero, List.drop_succ_cons, List.drop_zero]
        generalize hK : (fun w' => Below wr.heap.size wr w') = K
        intro hne
        have kb : ∀ y : Wd K, Below wr.heap.size wr y.w := by subst hK; exact fun y => y.h
        have hK3 : ∀ w w', K w → Below w.heap.size w w' → K w' := by subst hK; exact fun w w' h h' => h.trans (h'.mono h.size)
        have y0 : ∀ y : Wd K, y.w.cell? ⟨b, o + j, none⟩ = some (.int .i64 s) := fun y => ((kb y).cell (p := ⟨b, o + j, none⟩) z1).trans cs
        have y1 : ∀ y : Wd K, y.w.cell? ⟨b2, o2 + j * 3, none⟩ = some (.string name) := fun y => ((kb y).cell (p := ⟨b2, o2 + j * 3, none⟩) z2).trans d0
        have y2 : ∀ y : Wd K, y.w.cell? ⟨b2, o2 + j * 3 + 1, none⟩ = some (.bool g) := fun y => ((kb y).cell (p := ⟨b2, o2 + j * 3 + 1, none⟩) z2).trans d1
        have y3 : ∀ y : Wd K, y.w.cell? ⟨b2, o2 + j * 3 + 2, none⟩ = some (.slice wa wn wc) := fun y => ((kb y).cell (p := ⟨b2, o2 + j * 3 + 2, none⟩) z2).trans d2
        have hC : ∀ y : Wd K, Calls Tryz.prog 88 #[.agg #[.string name, .bool g, .slice wa wn wc], .int .i64 s] y.w fun e w'' => e = .returned (.int .i64 rw0) ∧ Below y.w.heap.size y.w w'' := fun y => HCW.out _ (kb y)
        clear hK cs d0 d1 d2
        repeat (go_big_quiet_step ((go_at_call 88; with_reducible exact cls_below hK3 (hC _))))
        refine wpQuiet_nil ?_
        intro y
        have SY := HS.out.ext (kb y)
        clear y0 y1 y2 y3 hC hK3 hne
        generalize y.w = w4 at *
        go_wp2
        go_roundw
        case rel => exact ⟨j + 1, by omega, by go_num, by rw [HWT2.out], by rw [HST2.out], SY⟩
        case measure => simp [intOf]; omega
      · have ts : decide (0 ≤ s) = false := by simpa using hs0
        have hsm : s = -1 := by
          rcases HP with h | h
          · exact h
          · rcases hcase with ⟨_, _, _, h3, _⟩ | ⟨h1, _⟩
            · omega
            · rw [h] at h1; cases h1
        have HWT2 : Hid (worthA valQ (RS.take (j + 1)) (pre.take (j + 1)) = worthA valQ (RS.take j) (pre.take j)) := by
          show _ = _
          rw [HWT.out, wsv, hasWish_none]
          · dsimp only; omega
          · intro h
            rcases hcase with ⟨_, _, _, h3, _⟩ | ⟨h1, _⟩
            · omega
            · rw [h] at h1; cases h1
        have HST2 : Hid (servedN (pre.take (j + 1)) = servedN (pre.take j)) := by have := HST.out; rw [if_neg hs0, Int.add_zero] at this; exact this
        clear hs hxr hxq HP hvb hsb HWT HST hcase hws hs0 hsm d0 d1 d2
        generalize worthA valQ (RS.take j) (pre.take j) = va0 at *
        generalize servedN (pre.take j) = sv0 at *
        go_wp2
        go_roundw
        case rel => exact ⟨j + 1, by omega, by go_num, by rw [HWT2.out], by rw [HST2.out], S⟩
        case measure => simp [intOf]; omega
    · have hjn : decide ((j : Int) < na) = false := by simp; omega
      obtain rfl : j = na := by omega
      have hp : pre.take j = pre := List.take_of_length_le (by rw [← HPL.out]; exact Nat.le_refl _)
      have hR : RS.take j = RS := List.take_of_length_le (by have := (reqs_later HY.out S.bel).1.count (f := Req.cells) (size := 3) (fun _ => rfl) (by decide); rw [← HRS.out, List.length_map]; omega)
      rw [hp, hR]
      have k0 := S.blk_cell (i := 0) rfl 0
      have k1 := S.blk_cell (i := 0) rfl 1
      have k2 := S.blk_cell (i := 0) rfl 2
      have k3 := S.blk_cell (i := 0) rfl 3
      have j0 := S.blk_cell (i := 1) rfl 0
      have j1 := S.blk_cell (i := 1) rfl 1
      have j2 := S.blk_cell (i := 1) rfl 2
      have j3 := S.blk_cell (i := 1) rfl 3
      have l0 := S.blk_frozen (i := 1) rfl 0
      have l1 := S.blk_frozen (i := 1) rfl 1
      have l2 := S.blk_frozen (i := 1) rfl 2
      have l3 := S.blk_frozen (i := 1) rfl 3
      have f0 := S.blk_frozen (i := 0) rfl 0
      have f1 := S.blk_frozen (i := 0) rfl 1
      have f2 := S.blk_frozen (i := 0) rfl 2
      have f3 := S.blk_frozen (i := 0) rfl 3
      have hvb := worthA valQ RS pre
      have hsn := servedN_bd' pre
      clear hp hR
      generalize hwv : worthA valQ RS pre = wv at *
      generalize hsv : servedN pre = sv at *
      have HU1 : Hid (updF RS ⟨is, value, first, most⟩ pre = ⟨true, if is = false ∨ value < wv then wv else value, if is = false ∨ value < wv then pre else first, max most sv⟩) := by show _ = _; rw [updF, hwv, hsv]
      clear hwv hsv hvb
      by_cases hup : is = false ∨ value < wv
      · have HU : Hid (updF RS ⟨is, value, first, most⟩ pre = ⟨true, wv, pre, max most sv⟩) := by show _ = _; rw [HU1.out, if_pos hup, if_pos hup]
        obtain ⟨mx, hmx⟩ : ∃ mx, (if most < sv then sv else most) = mx := ⟨_, rfl⟩
        have hmx2 : max most sv = mx := by rw [← hmx]; split <;> omega
        have HU2 : Hid (updF RS ⟨is, value, first, most⟩ pre = ⟨true, wv, pre, mx⟩) := by show _ = _; rw [HU.out, hmx2]
        clear hmx2 HU1 HU
        have SQ := S.row_new (e := 3) (size := 1) (n := 0) #[] (by unfold maxLen; omega) rfl
        simp only [List.cons_append, List.nil_append] at SQ
        have haw := HA.out.later SQ.bel
        have tv : (!is || decide (value < wv)) = true := by
          rcases hup with h | h
          · subst h; rfl
          · simp [h]
        cases is
        all_goals
          first
            | (have tv2 : decide (value < wv) = true := by simpa using tv)
            | skip
          clear hup tv
          go_wp2_with (at_builtin; refine wpList_append_st eltI rfl _ _ rfl rfl SQ (k := 2) rfl rfl haw (ints_one _ _) (by omega) (by omega) ?_; intro v' w5 S5 _; obtain ⟨A5, c5, rfl, _, _, _⟩ := (S5.row_rd (i := 2) rfl).open_; have m0 := S5.blk_cell (i := 0) rfl 0; have m2 := S5.blk_cell (i := 0) rfl 2; have m3 := S5.blk_cell (i := 0) rfl 3; have m1 := S5.blk_cell (i := 0) rfl 1; have g0 := S5.blk_frozen (i := 0) rfl 0; have g1 := S5.blk_frozen (i := 0) rfl 1; have g2 := S5.blk_frozen (i := 0) rfl 2; have g3 := S5.blk_frozen (i := 0) rfl 3; have n0 := S5.blk_cell (i := 1) rfl 0; have n1 := S5.blk_cell (i := 1) rfl 1; have n2 := S5.blk_cell (i := 1) rfl 2; have n3 := S5.blk_cell (i := 1) rfl 3; have o0 := S5.blk_frozen (i := 1) rfl 0; have o1 := S5.blk_frozen (i := 1) rfl 1; have o2 := S5.blk_frozen (i := 1) rfl 2; have o3 := S5.blk_frozen (i := 1) rfl 3)
          have SE := (((((((S5.blk_set (i := 0) rfl 1 (.int .i64 wv)).blk_set (i := 0) rfl 2 (.slice A5 (0 + j) c5)).blk_set (i := 0) rfl 3 (.int .i64 mx)).blk_set (i := 0) rfl 0 (.bool true)).blk_set (i := 1) rfl 0 (.bool true)).blk_set (i := 1) rfl 1 (.int .i64 wv)).blk_set (i := 1) rfl 2 (.slice A5 (0 + j) c5)).blk_set (i := 1) rfl 3 (.int .i64 mx)
          simp only [Nat.zero_add, List.nil_append] at SE
          have HSE := Lib.hid SE
          have HFIN0 : RetFnd W (.slice Af first.length cf) first ⟨true, wv, pre, mx⟩ (.returned (.agg #[.bool true, .int .i64 wv, .slice A5 j c5, .int .i64 mx])) _ := ⟨_, rfl, (owv_row SE (i := 2) rfl HPL.out).sub (.cons _ (.cons _ (List.Sublist.refl _)))⟩
          rw [← HU2.out] at HFIN0
          have HFIN := Lib.hid HFIN0
          clear HFIN0
          clear SE
          have e0 := HSE.out.blk_cell (i := 1) rfl 0
          have e1 := HSE.out.blk_cell (i := 1) rfl 1
          have e2 := HSE.out.blk_cell (i := 1) rfl 2
          have e3 := HSE.out.blk_cell (i := 1) rfl 3
          exact bodyPost_ret (v := .agg #[.bool true, .int .i64 wv, .slice A5 j c5, .int .i64 mx]) (res_fnd _ _ (ga + 1) (.bool true) (.int .i64 wv) (.slice A5 j c5) (.int .i64 mx) rfl e0 e1 e2 e3) rfl HFIN.out
      · have his : is = true := by cases is <;> simp_all
        subst his
        have tv : decide (value < wv) = false := by simp; omega
        have HU : Hid (updF RS ⟨true, value, first, most⟩ pre = ⟨true, value, first, max most sv⟩) := by show _ = _; rw [HU1.out, if_neg hup, if_neg hup]
        clear HU1 hup
        obtain ⟨mx, hmx⟩ : ∃ mx, (if most < sv then sv else most) = mx := ⟨_, rfl⟩
        have hmx2 : max most sv = mx := by rw [← hmx]; split <;> omega
        have HU2 : Hid (updF RS ⟨true, value, first, most⟩ pre = ⟨true, value, first, mx⟩) := by show _ = _; rw [HU.out, hmx2]
        clear hmx2 HU
        have SE := (((((S.blk_set (i := 0) rfl 3 (.int .i64 mx)).blk_set (i := 0) rfl 0 (.bool true)).blk_set (i := 1) rfl 0 (.bool true)).blk_set (i := 1) rfl 1 (.int .i64 value)).blk_set (i := 1) rfl 2 (.slice Af first.length cf)).blk_set (i := 1) rfl 3 (.int .i64 mx)
        have HSE := Lib.hid SE
        have HFIN0 : RetFnd W (.slice Af first.length cf) first ⟨true, value, first, mx⟩ (.returned (.agg #[.bool true, .int .i64 value, .slice Af first.length cf, .int .i64 mx])) _ := ⟨_, rfl, (owv_new SE (.slice Af first.length cf) first).sub (.cons _ (.cons _ (List.Sublist.refl _)))⟩
        rw [← HU2.out] at HFIN0
        have HFIN := Lib.hid HFIN0
        clear HFIN0
        clear SE
        go_wp2_with fail
        have e0 := HSE.out.blk_cell (i := 1) rfl 0
        have e1 := HSE.out.blk_cell (i := 1) rfl 1
        have e2 := HSE.out.blk_cell (i := 1) rfl 2
        have e3 := HSE.out.blk_cell (i := 1) rfl 3
        exact bodyPost_ret (v := .agg #[.bool true, .int .i64 value, .slice Af first.length cf, .int .i64 mx]) (res_fnd _ _ (ga + 1) (.bool true) (.int .i64 value) (.slice Af first.length cf) (.int .i64 mx) rfl e0 e1 e2 e3) rfl HFIN.out
end Go.Proofs.YtjfhncnpmelopaaGreatDoor
/- Walk of the reference's search: one request more. -/
namespace Go.Mem
open Go Go.RowKit
/-- a store of a whole block -/
theorem St.blk_row {W w : World} {L : List Asr} {i g : Nat} {t : TypeId} {cs : Array Value} (h : St W w L) (hi : L[i]? = some (blk g t cs)) (cs' : Array Value) : St W (w.setRow g cs') (L.set i (blk g t cs')) := by
  obtain ⟨F1, h1, ⟨h2, hF⟩, h3⟩ := h.upd hi
  exact h3 _ _ F1 (some g) ⟨setRow_heap w g cs cs' t (0, 0) h2, hF⟩ ⟨rfl, rfl, rfl, by simp [World.setRow], fun k _ hk => setRow_other w g k cs' (fun e => hk (by subst e; rfl))⟩ (fun k hk => by cases hk; exact hF) (fun b hb => .inl hb)
end Go.Mem
namespace Go.Proofs.YtjfhncnpmelopaaGreatDoor
open Go.RowKit Go.Mem Go.Sheet
set_option maxRecDepth 100000 in
set_option maxHeartbeats 0 in
theorem search_cons (RS : List RQ) (l : List Slot) (ok : Okay l RS) (sure : Bool) (vl : Value) (x : RQ) (rest : List RQ) (ih : SearchAt RS l sure vl rest) : SearchAt RS l sure vl (x :: rest) := by
  intro pre left F W vy va vq vf n na nq rs hrs hy ha hq hf hna hdr hle hpre hll hlb
  have hnr := ok.nr
  have HNR := hy.1.count (f := Req.cells) (size := 3) (fun _ => rfl) (by decide)
  have hrl : RS.length = n := by rw [← hrs, List.length_map]; exact HNR.symm
  have hna1 : na < n := by
    have := congrArg List.length hdr
    rw [List.length_drop] at this
    simp at this
    omega
  have hx : RS[na]? = some x := by
    have := List.getElem?_drop (xs := RS) (i := na) (j := 0)
    rw [hdr] at this
    simpa using this.symm
  have hdr' : RS.drop (na + 1) = rest := by rw [← List.drop_drop, hdr]; rfl
  have HSF := Lib.hid (searchF_cons RS sure pre x rest left F)
  have hnq := hq.count1
  have hnl := ok.nl
  have hxm := List.mem_of_getElem? hx
  have HWSH := Lib.hid (fun y hy => ok.wish x hxm y hy)
  obtain ⟨Aq, cq, rfl, _, _, _⟩ := hq.open_
  obtain ⟨Ay, cy, rfl, _, _, _⟩ := hy.1.open_
  obtain ⟨Aa, ca, rfl, _, _, _⟩ := ha.open_
  obtain ⟨Af, cf, rfl, _, _, _⟩ := hf.open_
  have HY := Lib.hid hy
  have HA := Lib.hid ha
  have HQ := Lib.hid hq
  have HF := Lib.hid hf
  have HRS := Lib.hid hrs
  have HPL := Lib.hid hna
  have HPRE := Lib.hid hpre
  have HLL := Lib.hid hll
  have HLB := Lib.hid hlb
  have HX := Lib.hid hx
  have HDR := Lib.hid hdr'
  have HNQ := Lib.hid hnq
  have h24 : n ≤ 24 := by omega
  have hq24 : nq ≤ 24 := by omega
  clear hnq
  have tna : ((na : Int) == (n : Int)) = false := by simp; omega
  obtain ⟨xr, hxr, hxq⟩ : ∃ xr, rs[na]? = some xr ∧ xr.rq = x := by
    have h1 := hx
    rw [← hrs, List.getElem?_map] at h1
    cases hr : rs[na]? with
    | none => rw [hr] at h1; cases h1
    | some z => rw [hr] at h1; exact ⟨z, rfl, Option.some.inj h1⟩
  have hws := (hy.2 xr (List.mem_of_getElem? hxr)).1
  obtain ⟨b2, o2, xr2, hAy, hxr2, d0, d1, d2⟩ := hy.1.elem3 (k := na) (fun s : Req => .string s.name) (fun s : Req => .bool s.g) (fun s : Req => .slice s.wa s.wn s.wc) (fun _ => rfl) hna1
  subst hAy
  obtain rfl := Option.some.inj (hxr2.symm.trans hxr)
  obtain ⟨name, g, wa, wn, wc, ws⟩ := xr2
  have hxg : x.g = g := by rw [← hxq]; rfl
  have hxw : x.ws = ws := by rw [← hxq]; rfl
  have hwl := hws.le
  have HWN := Lib.hid (hws.count (f := Wish.cells) (size := 2) (fun _ => rfl) (by decide))
  dsimp only at d0 d1 d2
  change Rd W (· < W.heap.size) 2 (.slice wa wn wc) wn (ws.flatMap Wish.cells) at hws
  change wn ≤ _ at hwl
  have HWS := Lib.hid hws
  have HXG := Lib.hid hxg
  have HXW := Lib.hid hxw
  have zy := World.block_lt_of_cell? W _ d2
  have HOLD : Hid (∀ w', Below W.heap.size W w' → w'.cell? ⟨b2, o2 + na * 3 + 1, none⟩ = some (.bool g) ∧ w'.cell? ⟨b2, o2 + na * 3 + 2, none⟩ = some (.slice wa wn wc)) := fun w' hb => ⟨(hb.cell (p := ⟨b2, o2 + na * 3 + 1, none⟩) zy).trans d1, (hb.cell (p := ⟨b2, o2 + na * 3 + 2, none⟩) zy).trans d2⟩
  obtain ⟨is, value, first, most⟩ := F
  clear hy ha hf hrs hna hpre hq hdr hle hll hlb hnr HNR hrl hx hxm hnl hxr hxr2 hxq hxg hxw hws d0 d1 d2 hdr' zy ok
  dsimp only at *
  have S0 := owv_new (((St.refl W).blk_new #[.bool is, .int .i64 value, .slice Af first.length cf, .int .i64 most] 40).blk_new #[.bool false, .int .i64 0, .slice none 0 0, .int .i64 0] 40) (.slice Af first.length cf) first
  simp only [List.cons_append, List.nil_append, World.size_alloc] at S0
  have HS0 := Lib.hid S0
  clear S0
  go_enter Tryz.func87, Tryz.ntmps87
  go_wp2_with fail
  generalize (W.alloc (.cells #[.bool is, .int .i64 value, .slice Af first.length cf, .int .i64 most] 40)).alloc (.cells #[.bool false, .int .i64 0, .slice none 0 0, .int .i64 0] 40) = w1 at HS0 ⊢
  have HGA : Hid (W.heap.size = W.heap.size) := rfl
  generalize hga : W.heap.size = ga at HS0 ⊢
  have HGB := Lib.hid hga
  clear HGA hga
  go_loopw [17] (fun i w' => ∃ (k : Nat) (FK : Fnd) (vfk : Value), k ≤ wn ∧ i = .int .i64 k ∧ Hid ((ws.take k).foldl (stepW RS sure pre rest left) ⟨is, value, first, most⟩ = FK) ∧
    St W w' [blk ga 40 #[.bool FK.is, .int .i64 FK.value, vfk, .int .i64 FK.most], blk (ga + 1) 40 #[.bool false, .int .i64 0, .slice none 0 0, .int .i64 0], owv (.slice Af first.length cf) first vfk FK.first]) (fun i _ => wn - (intOf i).toNat)
  case atStart => exact ⟨0, ⟨is, value, first, most⟩, _, Nat.zero_le _, rfl, rfl, HS0.out⟩
  case round =>
    obtain ⟨k, FK, vfk, hk, rfl, HFK, S⟩ := hrel
    clear HS0
    obtain ⟨fis, fva, ffi, fmo⟩ := FK
    dsimp only at *
    obtain ⟨Ak, ck, rfl, _, _, _⟩ := (owv_rd S (i := 2) rfl HF.out).open_
    obtain ⟨d1, d2⟩ := HOLD.out _ S.bel
    by_cases hkl : k < wn
    · obtain ⟨b3, o3, y, hA3, hy, e0, e1⟩ := (HWS.out.later S.bel).elem2 (k := k) (fun s : Wish => .int .i64 s.s) (fun s : Wish => .int .i64 s.w) (fun _ => rfl) hkl
      subst hA3
      have hyx : y ∈ x.ws := by rw [HXW.out]; exact List.mem_of_getElem? hy
      obtain ⟨⟨hy0, hyl⟩, _⟩ := HWSH.out y hyx
      obtain ⟨t, ht⟩ : ∃ t : Nat, y.s = (t : Int) := ⟨y.s.toNat, by omega⟩
      have htl : t < nq := by have := HNQ.out; have := HLL.out; omega
      obtain ⟨bq, oq, lt, hAq, hlt, cq1⟩ := Rd.int (q := .i64) (l := left) (HQ.out.later S.bel) (k := t) htl
      subst hAq
      have hlb := HLB.out t
      have hlt' : left.getD t 0 = lt := by rw [List.getD_eq_getElem?_getD, hlt, Option.getD_some]
      rw [hlt'] at hlb
      have hyt : y.s.toNat = t := by omega
      have HSTEP : Hid ((ws.take (k + 1)).foldl (stepW RS sure pre rest left) ⟨is, value, first, most⟩ = if lt = 0 then ⟨fis, fva, ffi, fmo⟩ else searchF RS sure (pre ++ [(t : Int)]) rest (left.set t (lt - 1)) ⟨fis, fva, ffi, fmo⟩) := by
        show _ = _
        rw [fold_take hy, HFK.out, stepW, hyt, hlt', ht]
      have HYX := Lib.hid hyx
      rw [ht] at e0
      have HLT := Lib.hid hlt
      clear hy hyx hy0 hyl hlt hlt' hyt
      by_cases hz : lt = 0
      · subst hz
        have HST2 : Hid ((ws.take (k + 1)).foldl (stepW RS sure pre rest left) ⟨is, value, first, most⟩ = ⟨fis, fva, ffi, fmo⟩) := by have := HSTEP.out; rw [if_pos rfl] at this; exact this
        clear HSTEP
        go_wp2
        go_roundw
        case rel => exact ⟨k + 1, _, _, by omega, by go_num, HST2.out, S⟩
        case measure => simp [intOf]; omega
      · have hz' : (lt == 0) = false := by simpa using hz
        have HST2 : Hid ((ws.take (k + 1)).foldl (stepW RS sure pre rest left) ⟨is, value, first, most⟩ = searchF RS sure (pre ++ [(t : Int)]) rest (left.set t (lt - 1)) ⟨fis, fva, ffi, fmo⟩) := by have := HSTEP.out; rw [if_neg hz] at this; exact this
        clear HSTEP
        have SQ := S.row_new (e := 3) (size := 1) (n := 0) #[] (by unfold maxLen; omega) rfl
        simp only [List.cons_append, List.nil_append] at SQ
        have hqw := HQ.out.later SQ.bel
        go_wp2_with (at_builtin; refine wpList_append_st eltI rfl _ _ rfl rfl SQ (k := 3) rfl rfl hqw (ints_one _ _) (by omega) (by omega) ?_; intro v' w5 S5 _; obtain ⟨g5, c5, hv5, m0, m1⟩ := row_slot S5 (i := 3) rfl (show t < 0 + nq by omega) HLT.out; subst hv5)
        try simp only [Nat.zero_add]
        simp only [List.set_cons_zero, List.set_cons_succ] at S5
        have SL := S5.row_set (i := 3) rfl t (.int .i64 (lt - 1))
        simp only [List.set_cons_zero, List.set_cons_succ, List.nil_append, Nat.zero_add] at SL
        rw [show (ints left).set t (.int .i64 (lt - 1)) = ints (left.set t (lt - 1)) by rw [ints, ints, List.map_set]] at SL
        generalize w5.setCell ⟨g5, t, none⟩ (.int .i64 (lt - 1)) = w6 at SL ⊢
        have HSL := Lib.hid SL
        clear S S5 SQ SL hqw m0 m1 cq1 e0 e1 d1 d2
        refine wp_head_tail3 2 11 4 [0, 1] [3, 5, 8, 9, 10] rfl (fun w' => w'.cell? ⟨ga, 0, none⟩ = some (.bool fis) ∧ w'.cell? ⟨ga, 1, none⟩ = some (.int .i64 fva) ∧ w'.cell? ⟨ga, 2, none⟩ = some (.slice Ak ffi.length ck) ∧ w'.cell? ⟨ga, 3, none⟩ = some (.int .i64 fmo))
          (fun a a' w' => ∃ (g1 g2 : Nat) (v1 vn : Value), St W w' [blk ga 40 #[.bool fis, .int .i64 fva, .slice Ak ffi.length ck, .int .i64 fmo], blk (ga + 1) 40 #[.bool false, .int .i64 0, .slice none 0 0, .int .i64 0], owv (.slice Af first.length cf) first (.slice Ak ffi.length ck) ffi, row 3 1 (.slice (some ⟨g5, 0, none⟩) nq c5) nq (ints (left.set t (lt - 1))), row 3 1 vn (0 + na + 1) (([] ++ ints pre) ++ [.int .i64 (t : Int)])] ∧
            a' = (((a.put (some 107) (.slice (some ⟨g1, 0, none⟩) 0 0)).put (some 109) v1).put (some 111) (.slice (some ⟨g2, 0, none⟩) 1 1)).put (some 112) vn)
          (by kernel_rfl) (by kernel_rfl) ⟨HSL.out.drew.blk_cell (i := 0) rfl 0, HSL.out.drew.blk_cell (i := 0) rfl 1, HSL.out.drew.blk_cell (i := 0) rfl 2, HSL.out.drew.blk_cell (i := 0) rfl 3⟩ ?_
        simp only [pick, List.filterMap_cons, List.filterMap_nil, List.getElem?_toArray, List.getElem?_cons_succ, List.getElem?_cons_zero]
        have SD := Lib.hid HSL.out.drew
        generalize hK : (fun w' : World => w'.cell? ⟨ga, 0, none⟩ = some (.bool fis) ∧ w'.cell? ⟨ga, 1, none⟩ = some (.int .i64 fva) ∧ w'.cell? ⟨ga, 2, none⟩ = some (.slice Ak ffi.length ck) ∧ w'.cell? ⟨ga, 3, none⟩ = some (.int .i64 fmo)) = K
        have hKd : ∀ (w' : World) (t : TypeId) (L : List Asr), St W w' (blk ga t #[.bool fis, .int .i64 fva, .slice Ak ffi.length ck, .int .i64 fmo] :: L) → K w' := by
          intro w' t L h
          subst hK
          exact ⟨h.blk_cell (i := 0) rfl 0, h.blk_cell (i := 0) rfl 1, h.blk_cell (i := 0) rfl 2, h.blk_cell (i := 0) rfl 3⟩
        have hne : Nonempty (Wd K) := ⟨⟨w6.drew, hKd _ _ _ SD.out⟩⟩
        have k0 : ∀ y : Wd K, y.w.cell? ⟨ga, 0, none⟩ = some (.bool fis) := by subst hK; exact fun y => y.h.1
        have k1 : ∀ y : Wd K, y.w.cell? ⟨ga, 1, none⟩ = some (.int .i64 fva) := by subst hK; exact fun y => y.h.2.1
        have k2 : ∀ y : Wd K, y.w.cell? ⟨ga, 2, none⟩ = some (.slice Ak ffi.length ck) := by subst hK; exact fun y => y.h.2.2.1
        have k3 : ∀ y : Wd K, y.w.cell? ⟨ga, 3, none⟩ = some (.int .i64 fmo) := by subst hK; exact fun y => y.h.2.2.2
        clear hK HSL
        generalize w6.drew = w7 at *
        change wpQuiet _ _ _ _ (_ :: _ :: []) _
        repeat (go_big_quiet_step ((fail)))
        refine wpQuiet_nil ?_
        change wpQuiet _ _ _ _ (_ :: _ :: _ :: _ :: _ :: []) _
        repeat (go_big_quiet_step ((fail)))
        refine wpQuiet_nil ?_
        have S3 := SD.out
        clear k0 k1 k2 k3 SD hne
        refine ⟨?_, ?_⟩
        · as_aux_lemma =>
          refine headW_all (rs := [2, 6]) (by kernel_rfl) (by decide) (by decide) (List.forall_mem_cons.2 ⟨?_, List.forall_mem_cons.2 ⟨?_, List.forall_mem_nil _⟩⟩)
          · refine wpOp_list (o := _) rfl ?_
            intro Q' hQ'
            go_wp2_with fail
            have U1 := S3.row_new (e := 3) (size := 1) (n := 0) #[] (by unfold maxLen; omega) rfl
            simp only [List.cons_append, List.nil_append, World.size_alloc] at U1
            refine ⟨hKd _ _ _ U1, ?_⟩
            refine headW_all (rs := [4, 6]) (by kernel_rfl) (by decide) (by decide) (List.forall_mem_cons.2 ⟨?_, List.forall_mem_cons.2 ⟨?_, List.forall_mem_nil _⟩⟩)
            · refine wpOp_list (o := _) rfl ?_
              intro Q' hQ'
              refine wpList_append_st eltI rfl _ _ rfl rfl U1 (k := 4) rfl rfl (HA.out.later U1.bel) (ints_one _ _) (by omega) (by omega) ?_
              intro va0 wa0 U2 _
              go_wp2_with fail
              simp only [List.set_cons_zero, List.set_cons_succ] at U2
              refine ⟨hKd _ _ _ U2, ?_⟩
              refine headW_all (rs := [6]) (by kernel_rfl) (by decide) (by decide) (List.forall_mem_cons.2 ⟨?_, List.forall_mem_nil _⟩)
              · refine wpOp_list (o := _) rfl ?_
                intro Q' hQ'
                go_wp2_with fail
                have U3 := U2.blk_new #[.int .i64 (t : Int)] 3
                simp only [List.cons_append, List.nil_append, World.size_alloc] at U3
                refine ⟨hKd _ _ _ U3, ?_⟩
                refine headW_all (rs := [7]) (by kernel_rfl) (by decide) (by decide) (List.forall_mem_cons.2 ⟨?_, List.forall_mem_nil _⟩)
                · refine wpOp_list (o := _) rfl ?_
                  intro Q' hQ'
                  refine wpList_append_st eltI rfl _ _ rfl rfl U3 (k := 4) rfl rfl (rd_of_blk U3 (i := 5) rfl) (one_int _ _) (by omega) (by omega) ?_
                  intro va1 wa1 U4 _
                  go_wp2_with fail
                  simp only [List.set_cons_zero, List.set_cons_succ] at U4
                  refine ⟨hKd _ _ _ U4, ?_⟩
                  exact ⟨by kernel_rfl, _, _, _, _, U4.perm_sub, rfl⟩
            · refine wpOp_list (o := _) rfl ?_
              intro Q' hQ'
              go_wp2_with fail
              have U2 := U1.blk_new #[.int .i64 (t : Int)] 3
              simp only [List.cons_append, List.nil_append, World.size_alloc] at U2
              refine ⟨hKd _ _ _ U2, ?_⟩
              refine headW_all (rs := [4]) (by kernel_rfl) (by decide) (by decide) (List.forall_mem_cons.2 ⟨?_, List.forall_mem_nil _⟩)
              · refine wpOp_list (o := _) rfl ?_
                intro Q' hQ'
                refine wpList_append_st eltI rfl _ _ rfl rfl U2 (k := 4) rfl rfl (HA.out.later U2.bel) (ints_one _ _) (by omega) (by omega) ?_
                intro va0 wa0 U3 _
                go_wp2_with fail
                simp only [List.set_cons_zero, List.set_cons_succ] at U3
                refine ⟨hKd _ _ _ U3, ?_⟩
                refine headW_all (rs := [7]) (by kernel_rfl) (by decide) (by decide) (List.forall_mem_cons.2 ⟨?_, List.forall_mem_nil _⟩)
                · refine wpOp_list (o := _) rfl ?_
                  intro Q' hQ'
                  refine wpList_append_st eltI rfl _ _ rfl rfl U3 (k := 4) rfl rfl (rd_of_blk U3 (i := 5) rfl) (one_int _ _) (by omega) (by omega) ?_
                  intro va1 wa1 U4 _
                  go_wp2_with fail
                  simp only [List.set_cons_zero, List.set_cons_succ] at U4
                  refine ⟨hKd _ _ _ U4, ?_⟩
                  exact ⟨by kernel_rfl, _, _, _, _, U4.perm_sub, rfl⟩
          · refine wpOp_list (o := _) rfl ?_
            intro Q' hQ'
            go_wp2_with fail
            have U1 := S3.blk_new #[.int .i64 (t : Int)] 3
            simp only [List.cons_append, List.nil_append, World.size_alloc] at U1
            refine ⟨hKd _ _ _ U1, ?_⟩
            refine headW_all (rs := [2]) (by kernel_rfl) (by decide) (by decide) (List.forall_mem_cons.2 ⟨?_, List.forall_mem_nil _⟩)
            · refine wpOp_list (o := _) rfl ?_
              intro Q' hQ'
              go_wp2_with fail
              have U2 := U1.row_new (e := 3) (size := 1) (n := 0) #[] (by unfold maxLen; omega) rfl
              simp only [List.cons_append, List.nil_append, World.size_alloc] at U2
              refine ⟨hKd _ _ _ U2, ?_⟩
              refine headW_all (rs := [4]) (by kernel_rfl) (by decide) (by decide) (List.forall_mem_cons.2 ⟨?_, List.forall_mem_nil _⟩)
              · refine wpOp_list (o := _) rfl ?_
                intro Q' hQ'
                refine wpList_append_st eltI rfl _ _ rfl rfl U2 (k := 5) rfl rfl (HA.out.later U2.bel) (ints_one _ _) (by omega) (by omega) ?_
                intro va0 wa0 U3 _
                go_wp2_with fail
                simp only [List.set_cons_zero, List.set_cons_succ] at U3
                refine ⟨hKd _ _ _ U3, ?_⟩
                refine headW_all (rs := [7]) (by kernel_rfl) (by decide) (by decide) (List.forall_mem_cons.2 ⟨?_, List.forall_mem_nil _⟩)
                · refine wpOp_list (o := _) rfl ?_
                  intro Q' hQ'
                  refine wpList_append_st eltI rfl _ _ rfl rfl U3 (k := 5) rfl rfl (rd_of_blk U3 (i := 4) rfl) (one_int _ _) (by omega) (by omega) ?_
                  intro va1 wa1 U4 _
                  go_wp2_with fail
                  simp only [List.set_cons_zero, List.set_cons_succ] at U4
                  refine ⟨hKd _ _ _ U4, ?_⟩
                  exact ⟨by kernel_rfl, _, _, _, _, U4.perm_sub2, rfl⟩
        · as_aux_lemma =>
          rintro a' w8 ⟨g1, g2, v1, vn, S8, rfl⟩
          clear S3 hKd
          simp only [List.drop_succ_cons, List.drop_zero]
          have hvn := (S8.row_rd (i := 4) rfl).now
          have hvl := (S8.row_rd (i := 3) rfl).now
          rw [show ([] ++ ints pre) ++ [Value.int .i64 (t : Int)] = ints (pre ++ [(t : Int)]) by simp [ints], Nat.zero_add] at hvn
          obtain ⟨An, cn, hvne, _, _, _⟩ := hvn.open_
          subst hvne
          have hvf8 : Rd w8 (· < w8.heap.size) 1 (.slice Ak ffi.length ck) ffi.length (ints ffi) := owv_rd S8 (i := 2) rfl HF.out
          have hpre' : ∀ (i : Nat) z s, RS[i]? = some z → (pre ++ [(t : Int)])[i]? = some s → s = -1 ∨ hasWish z s = true := by
            intro i z s hz hs
            by_cases hi : i < pre.length
            · rw [List.getElem?_append_left hi] at hs
              exact HPRE.out i z s hz hs
            · rw [List.getElem?_append_right (by omega)] at hs
              have hi' : i = na := by
                have h1 := (List.getElem?_eq_some_iff.1 hs).1
                have h2 := HPL.out
                simp only [List.length_cons, List.length_nil] at h1
                omega
              subst hi'
              have hz' := Option.some.inj (hz.symm.trans HX.out)
              subst hz'
              rw [← HPL.out, Nat.sub_self] at hs
              simp at hs
              subst hs
              exact .inr (hasWish_iff.2 ⟨y, HYX.out, ht⟩)
          have HC := Lib.hid (ih (pre ++ [(t : Int)]) (left.set t (lt - 1)) ⟨fis, fva, ffi, fmo⟩ w8 _ _ _ _ n (na + 1) nq rs HRS.out (reqs_later HY.out S8.bel) hvn hvl hvf8 (by rw [List.length_append, ← HPL.out]; rfl) HDR.out (by omega) hpre' (by rw [List.length_set]; exact HLL.out)
            (fun q => by rw [getD_set]; have := HLB.out q; split <;> omega))
          have HS8 := Lib.hid S8
          clear S8 hvn hvl hvf8 hpre'
          generalize searchF RS sure (pre ++ [(t : Int)]) rest (left.set t (lt - 1)) ⟨fis, fva, ffi, fmo⟩ = G at *
          obtain ⟨gis, gva, gfi, gmo⟩ := G
          go_wp2_with fail
          refine HC.out.mono ?_
          rintro e w9 ⟨vf9, rfl, s9⟩
          have S9a := (HS8.out.call s9).sub (L' := [_, _] ++ [_, _]) (.cons_cons _ (.cons_cons _ (.cons_cons _ (.cons _ (.cons _ (List.Sublist.refl _))))))
          have S9 := owv_merge S9a
          simp only [List.cons_append, List.nil_append] at S9
          obtain ⟨A9, c9, rfl, _, _, _⟩ := (owv_rd S9 (i := 2) rfl HF.out).open_
          have q0 := S9.blk_cell (i := 0) rfl 0
          have q1 := S9.blk_cell (i := 0) rfl 1
          have q2 := S9.blk_cell (i := 0) rfl 2
          have q3 := S9.blk_cell (i := 0) rfl 3
          have r0 := S9.blk_frozen (i := 0) rfl 0
          have r1 := S9.blk_frozen (i := 0) rfl 1
          have r2 := S9.blk_frozen (i := 0) rfl 2
          have r3 := S9.blk_frozen (i := 0) rfl 3
          have SE := (((S9.blk_set (i := 0) rfl 0 (.bool gis)).blk_set (i := 0) rfl 1 (.int .i64 gva)).blk_set (i := 0) rfl 2 (.slice A9 gfi.length c9)).blk_set (i := 0) rfl 3 (.int .i64 gmo)
          have HSE := Lib.hid SE
          clear SE S9 S9a s9 HS8 HC
          go_wp2_with fail
          refine NoPanic.normal ?_
          go_wp2
          go_roundw
          case rel => exact ⟨k + 1, _, _, by omega, by go_num, HST2.out, HSE.out⟩
          case measure => simp [intOf]; omega
    · obtain rfl : k = wn := by omega
      have htk : ws.take k = ws := List.take_of_length_le (by rw [← HWN.out]; exact Nat.le_refl _)
      rw [htk] at HFK
      have HFW : Hid (x.ws.foldl (stepW RS sure pre rest left) ⟨is, value, first, most⟩ = ⟨fis, fva, ffi, fmo⟩) := by show _ = _; rw [HXW.out]; exact HFK.out
      clear HFK htk
      have tkn : decide ((k : Int) < (k : Int)) = false := by simp
      by_cases hd : sure = true ∧ g = true
      · obtain ⟨rfl, rfl⟩ := hd
        have HRES : Hid (searchF RS true pre (x :: rest) left ⟨is, value, first, most⟩ = ⟨fis, fva, ffi, fmo⟩) := by show _ = _; rw [HSF.out, if_pos ⟨rfl, HXG.out⟩]; exact HFW.out
        have q0 := S.blk_cell (i := 0) rfl 0
        have q1 := S.blk_cell (i := 0) rfl 1
        have q2 := S.blk_cell (i := 0) rfl 2
        have q3 := S.blk_cell (i := 0) rfl 3
        have j0 := S.blk_cell (i := 1) rfl 0
        have j1 := S.blk_cell (i := 1) rfl 1
        have j2 := S.blk_cell (i := 1) rfl 2
        have j3 := S.blk_cell (i := 1) rfl 3
        have r0 := S.blk_frozen (i := 1) rfl 0
        have r1 := S.blk_frozen (i := 1) rfl 1
        have r2 := S.blk_frozen (i := 1) rfl 2
        have r3 := S.blk_frozen (i := 1) rfl 3
        have SE := (((S.blk_set (i := 1) rfl 0 (.bool fis)).blk_set (i := 1) rfl 1 (.int .i64 fva)).blk_set (i := 1) rfl 2 (.slice Ak ffi.length ck)).blk_set (i := 1) rfl 3 (.int .i64 fmo)
        have HSE := Lib.hid SE
        have HFIN0 : RetFnd W (.slice Af first.length cf) first ⟨fis, fva, ffi, fmo⟩ (.returned (.agg #[.bool fis, .int .i64 fva, .slice Ak ffi.length ck, .int .i64 fmo])) _ := ⟨_, rfl, SE.sub (.cons _ (.cons _ (List.Sublist.refl _)))⟩
        rw [← HRES.out] at HFIN0
        have HFIN := Lib.hid HFIN0
        clear HFIN0 SE S
        go_wp2_with fail
        have e0 := HSE.out.blk_cell (i := 1) rfl 0
        have e1 := HSE.out.blk_cell (i := 1) rfl 1
        have e2 := HSE.out.blk_cell (i := 1) rfl 2
        have e3 := HSE.out.blk_cell (i := 1) rfl 3
        exact bodyPost_ret (v := .agg #[.bool fis, .int .i64 fva, .slice Ak ffi.length ck, .int .i64 fmo]) (res_fnd _ _ (ga + 1) (.bool fis) (.int .i64 fva) (.slice Ak ffi.length ck) (.int .i64 fmo) rfl e0 e1 e2 e3) rfl HFIN.out
      · have hd' : sure = false ∨ (sure = true ∧ g = false) := by
          cases sure
          · exact .inl rfl
          · cases g
            · exact .inr ⟨rfl, rfl⟩
            · exact absurd ⟨rfl, rfl⟩ hd
        have HRES : Hid (searchF RS sure pre (x :: rest) left ⟨is, value, first, most⟩ = searchF RS sure (pre ++ [(-1 : Int)]) rest left ⟨fis, fva, ffi, fmo⟩) := by
          show _ = _
          rw [HSF.out, if_neg, HFW.out]
          rw [HXG.out]
          exact hd
        have HS := Lib.hid S
        clear hd S HFW HSF
        rcases hd' with rfl | ⟨rfl, rfl⟩
        all_goals
          go_wp2_with fail
          refine wp_head_tail3 2 10 4 [0, 1] [3, 7, 8, 9] rfl (fun w' => w'.cell? ⟨ga, 0, none⟩ = some (.bool fis) ∧ w'.cell? ⟨ga, 1, none⟩ = some (.int .i64 fva) ∧ w'.cell? ⟨ga, 2, none⟩ = some (.slice Ak ffi.length ck) ∧ w'.cell? ⟨ga, 3, none⟩ = some (.int .i64 fmo))
            (fun a a' w' => ∃ (g1 g2 : Nat) (v1 vn : Value), St W w' [blk ga 40 #[.bool fis, .int .i64 fva, .slice Ak ffi.length ck, .int .i64 fmo], blk (ga + 1) 40 #[.bool false, .int .i64 0, .slice none 0 0, .int .i64 0], owv (.slice Af first.length cf) first (.slice Ak ffi.length ck) ffi, row 3 1 vn (0 + na + 1) (([] ++ ints pre) ++ [.int .i64 (-1 : Int)])] ∧
              a' = (((a.put (some 129) (.slice (some ⟨g1, 0, none⟩) 0 0)).put (some 131) v1).put (some 132) (.slice (some ⟨g2, 0, none⟩) 1 1)).put (some 133) vn)
            (by kernel_rfl) (by kernel_rfl) ⟨HS.out.drew.blk_cell (i := 0) rfl 0, HS.out.drew.blk_cell (i := 0) rfl 1, HS.out.drew.blk_cell (i := 0) rfl 2, HS.out.drew.blk_cell (i := 0) rfl 3⟩ ?_
          simp only [pick, List.filterMap_cons, List.filterMap_nil, List.getElem?_toArray, List.getElem?_cons_succ, List.getElem?_cons_zero]
          have SD := Lib.hid HS.out.drew
          generalize hK : (fun w' : World => w'.cell? ⟨ga, 0, none⟩ = some (.bool fis) ∧ w'.cell? ⟨ga, 1, none⟩ = some (.int .i64 fva) ∧ w'.cell? ⟨ga, 2, none⟩ = some (.slice Ak ffi.length ck) ∧ w'.cell? ⟨ga, 3, none⟩ = some (.int .i64 fmo)) = K
          have hKd : ∀ (w' : World) (t : TypeId) (L : List Asr), St W w' (blk ga t #[.bool fis, .int .i64 fva, .slice Ak ffi.length ck, .int .i64 fmo] :: L) → K w' := by
            intro w' t L h
            subst hK
            exact ⟨h.blk_cell (i := 0) rfl 0, h.blk_cell (i := 0) rfl 1, h.blk_cell (i := 0) rfl 2, h.blk_cell (i := 0) rfl 3⟩
          have hne : Nonempty (Wd K) := ⟨⟨wr.drew, hKd _ _ _ SD.out⟩⟩
          have k0 : ∀ y : Wd K, y.w.cell? ⟨ga, 0, none⟩ = some (.bool fis) := by subst hK; exact fun y => y.h.1
          have k1 : ∀ y : Wd K, y.w.cell? ⟨ga, 1, none⟩ = some (.int .i64 fva) := by subst hK; exact fun y => y.h.2.1
          have k2 : ∀ y : Wd K, y.w.cell? ⟨ga, 2, none⟩ = some (.slice Ak ffi.length ck) := by subst hK; exact fun y => y.h.2.2.1
          have k3 : ∀ y : Wd K, y.w.cell? ⟨ga, 3, none⟩ = some (.int .i64 fmo) := by subst hK; exact fun y => y.h.2.2.2
          clear hK HS
          generalize wr.drew = w7 at *
          change wpQuiet _ _ _ _ (_ :: _ :: []) _
          repeat (go_big_quiet_step ((fail)))
          refine wpQuiet_nil ?_
          change wpQuiet _ _ _ _ (_ :: _ :: _ :: _ :: []) _
          repeat (go_big_quiet_step ((fail)))
          refine wpQuiet_nil ?_
          have S3 := SD.out
          clear k0 k1 k2 k3 SD hne
          refine ⟨?_, ?_⟩
          · as_aux_lemma =>
            refine headW_all (rs := [2, 5]) (by kernel_rfl) (by decide) (by decide) (List.forall_mem_cons.2 ⟨?_, List.forall_mem_cons.2 ⟨?_, List.forall_mem_nil _⟩⟩)
            · refine wpOp_list (o := _) rfl ?_
              intro Q' hQ'
              go_wp2_with fail
              have U1 := S3.row_new (e := 3) (size := 1) (n := 0) #[] (by unfold maxLen; omega) rfl
              simp only [List.cons_append, List.nil_append, World.size_alloc] at U1
              refine ⟨hKd _ _ _ U1, ?_⟩
              refine headW_all (rs := [4, 5]) (by kernel_rfl) (by decide) (by decide) (List.forall_mem_cons.2 ⟨?_, List.forall_mem_cons.2 ⟨?_, List.forall_mem_nil _⟩⟩)
              · refine wpOp_list (o := _) rfl ?_
                intro Q' hQ'
                refine wpList_append_st eltI rfl _ _ rfl rfl U1 (k := 3) rfl rfl (HA.out.later U1.bel) (ints_one _ _) (by omega) (by omega) ?_
                intro va0 wa0 U2 _
                go_wp2_with fail
                simp only [List.set_cons_zero, List.set_cons_succ] at U2
                refine ⟨hKd _ _ _ U2, ?_⟩
                refine headW_all (rs := [5]) (by kernel_rfl) (by decide) (by decide) (List.forall_mem_cons.2 ⟨?_, List.forall_mem_nil _⟩)
                · refine wpOp_list (o := _) rfl ?_
                  intro Q' hQ'
                  go_wp2_with fail
                  have U3 := U2.blk_new #[.int .i64 (-1 : Int)] 3
                  simp only [List.cons_append, List.nil_append, World.size_alloc] at U3
                  refine ⟨hKd _ _ _ U3, ?_⟩
                  refine headW_all (rs := [6]) (by kernel_rfl) (by decide) (by decide) (List.forall_mem_cons.2 ⟨?_, List.forall_mem_nil _⟩)
                  · refine wpOp_list (o := _) rfl ?_
                    intro Q' hQ'
                    refine wpList_append_st eltI rfl _ _ rfl rfl U3 (k := 3) rfl rfl (rd_of_blk U3 (i := 4) rfl) (one_int _ _) (by omega) (by omega) ?_
                    intro va1 wa1 U4 _
                    go_wp2_with fail
                    simp only [List.set_cons_zero, List.set_cons_succ] at U4
                    refine ⟨hKd _ _ _ U4, ?_⟩
                    exact ⟨by kernel_rfl, _, _, _, _, U4.psub, rfl⟩
              · refine wpOp_list (o := _) rfl ?_
                intro Q' hQ'
                go_wp2_with fail
                have U2 := U1.blk_new #[.int .i64 (-1 : Int)] 3
                simp only [List.cons_append, List.nil_append, World.size_alloc] at U2
                refine ⟨hKd _ _ _ U2, ?_⟩
                refine headW_all (rs := [4]) (by kernel_rfl) (by decide) (by decide) (List.forall_mem_cons.2 ⟨?_, List.forall_mem_nil _⟩)
                · refine wpOp_list (o := _) rfl ?_
                  intro Q' hQ'
                  refine wpList_append_st eltI rfl _ _ rfl rfl U2 (k := 3) rfl rfl (HA.out.later U2.bel) (ints_one _ _) (by omega) (by omega) ?_
                  intro va0 wa0 U3 _
                  go_wp2_with fail
                  simp only [List.set_cons_zero, List.set_cons_succ] at U3
                  refine ⟨hKd _ _ _ U3, ?_⟩
                  refine headW_all (rs := [6]) (by kernel_rfl) (by decide) (by decide) (List.forall_mem_cons.2 ⟨?_, List.forall_mem_nil _⟩)
                  · refine wpOp_list (o := _) rfl ?_
                    intro Q' hQ'
                    refine wpList_append_st eltI rfl _ _ rfl rfl U3 (k := 3) rfl rfl (rd_of_blk U3 (i := 4) rfl) (one_int _ _) (by omega) (by omega) ?_
                    intro va1 wa1 U4 _
                    go_wp2_with fail
                    simp only [List.set_cons_zero, List.set_cons_succ] at U4
                    refine ⟨hKd _ _ _ U4, ?_⟩
                    exact ⟨by kernel_rfl, _, _, _, _, U4.psub, rfl⟩
            · refine wpOp_list (o := _) rfl ?_
              intro Q' hQ'
              go_wp2_with fail
              have U1 := S3.blk_new #[.int .i64 (-1 : Int)] 3
              simp only [List.cons_append, List.nil_append, World.size_alloc] at U1
              refine ⟨hKd _ _ _ U1, ?_⟩
              refine headW_all (rs := [2]) (by kernel_rfl) (by decide) (by decide) (List.forall_mem_cons.2 ⟨?_, List.forall_mem_nil _⟩)
              · refine wpOp_list (o := _) rfl ?_
                intro Q' hQ'
                go_wp2_with fail
                have U2 := U1.row_new (e := 3) (size := 1) (n := 0) #[] (by unfold maxLen; omega) rfl
                simp only [List.cons_append, List.nil_append, World.size_alloc] at U2
                refine ⟨hKd _ _ _ U2, ?_⟩
                refine headW_all (rs := [4]) (by kernel_rfl) (by decide) (by decide) (List.forall_mem_cons.2 ⟨?_, List.forall_mem_nil _⟩)
                · refine wpOp_list (o := _) rfl ?_
                  intro Q' hQ'
                  refine wpList_append_st eltI rfl _ _ rfl rfl U2 (k := 4) rfl rfl (HA.out.later U2.bel) (ints_one _ _) (by omega) (by omega) ?_
                  intro va0 wa0 U3 _
                  go_wp2_with fail
                  simp only [List.set_cons_zero, List.set_cons_succ] at U3
                  refine ⟨hKd _ _ _ U3, ?_⟩
                  refine headW_all (rs := [6]) (by kernel_rfl) (by decide) (by decide) (List.forall_mem_cons.2 ⟨?_, List.forall_mem_nil _⟩)
                  · refine wpOp_list (o := _) rfl ?_
                    intro Q' hQ'
                    refine wpList_append_st eltI rfl _ _ rfl rfl U3 (k := 4) rfl rfl (rd_of_blk U3 (i := 3) rfl) (one_int _ _) (by omega) (by omega) ?_
                    intro va1 wa1 U4 _
                    go_wp2_with fail
                    simp only [List.set_cons_zero, List.set_cons_succ] at U4
                    refine ⟨hKd _ _ _ U4, ?_⟩
                    exact ⟨by kernel_rfl, _, _, _, _, U4.psub2, rfl⟩
          · as_aux_lemma =>
            rintro a' w8 ⟨g1, g2, v1, vn, S8, rfl⟩
            clear S3 hKd
            simp only [List.drop_succ_cons, List.drop_zero]
            have hvn := (S8.row_rd (i := 3) rfl).now
            rw [show ([] ++ ints pre) ++ [Value.int .i64 (-1 : Int)] = ints (pre ++ [(-1 : Int)]) by simp [ints], Nat.zero_add] at hvn
            obtain ⟨An, cn, hvne, _, _, _⟩ := hvn.open_
            subst hvne
            have hvf8 : Rd w8 (· < w8.heap.size) 1 (.slice Ak ffi.length ck) ffi.length (ints ffi) := owv_rd S8 (i := 2) rfl HF.out
            have hpre' : ∀ (i : Nat) z s, RS[i]? = some z → (pre ++ [(-1 : Int)])[i]? = some s → s = -1 ∨ hasWish z s = true := by
              intro i z s hz hs
              by_cases hi : i < pre.length
              · rw [List.getElem?_append_left hi] at hs
                exact HPRE.out i z s hz hs
              · rw [List.getElem?_append_right (by omega)] at hs
                have h1 := (List.getElem?_eq_some_iff.1 hs).1
                simp only [List.length_cons, List.length_nil] at h1
                rw [show i - pre.length = 0 by omega] at hs
                simp at hs
                exact .inl hs.symm
            have HC := Lib.hid (ih (pre ++ [(-1 : Int)]) left ⟨fis, fva, ffi, fmo⟩ w8 _ _ _ _ n (na + 1) nq rs HRS.out (reqs_later HY.out S8.bel) hvn (HQ.out.later S8.bel) hvf8 (by rw [List.length_append, ← HPL.out]; rfl) HDR.out (by omega) hpre' HLL.out HLB.out)
            have HS8 := Lib.hid S8
            clear S8 hvn hvf8 hpre'
            generalize searchF RS _ (pre ++ [(-1 : Int)]) rest left ⟨fis, fva, ffi, fmo⟩ = G at *
            obtain ⟨gis, gva, gfi, gmo⟩ := G
            go_wp2_with fail
            refine HC.out.mono ?_
            rintro e w9 ⟨vf9, rfl, s9⟩
            have S9a := (HS8.out.call s9).sub (L' := [_, _] ++ [_, _]) (.cons_cons _ (.cons_cons _ (.cons_cons _ (.cons _ (List.Sublist.refl _)))))
            have S9 := owv_merge S9a
            simp only [List.cons_append, List.nil_append] at S9
            obtain ⟨A9, c9, rfl, _, _, _⟩ := (owv_rd S9 (i := 2) rfl HF.out).open_
            have q0 := S9.blk_cell (i := 0) rfl 0
            have q1 := S9.blk_cell (i := 0) rfl 1
            have q2 := S9.blk_cell (i := 0) rfl 2
            have q3 := S9.blk_cell (i := 0) rfl 3
            have r0 := S9.blk_frozen (i := 0) rfl 0
            have r1 := S9.blk_frozen (i := 0) rfl 1
            have r2 := S9.blk_frozen (i := 0) rfl 2
            have r3 := S9.blk_frozen (i := 0) rfl 3
            have SE0 := (((S9.blk_set (i := 0) rfl 0 (.bool gis)).blk_set (i := 0) rfl 1 (.int .i64 gva)).blk_set (i := 0) rfl 2 (.slice A9 gfi.length c9)).blk_set (i := 0) rfl 3 (.int .i64 gmo)
            have HSE0 := Lib.hid SE0
            clear SE0 S9 S9a s9 HS8 HC
            go_wp2_with fail
            refine NoPanic.normal ?_
            clear q0 q1 q2 q3 r0 r1 r2 r3
            generalize (((w9.setCell ⟨ga, 0, none⟩ (.bool gis)).setCell ⟨ga, 1, none⟩ (.int .i64 gva)).setCell ⟨ga, 2, none⟩ (.slice A9 gfi.length c9)).setCell ⟨ga, 3, none⟩ (.int .i64 gmo) = wz at HSE0 ⊢
            have S9 := HSE0.out
            simp only [List.set_cons_zero, List.set_cons_succ] at S9
            have S9' : St W wz [blk ga 40 #[.bool gis, .int .i64 gva, .slice A9 gfi.length c9, .int .i64 gmo], blk (ga + 1) 40 #[.bool false, .int .i64 0, .slice none 0 0, .int .i64 0], owv (.slice Af first.length cf) first (.slice A9 gfi.length c9) gfi] := S9
            have h0 := (S9'.blk_at (i := 0) rfl).2.2
            have h1 := (S9'.blk_at (i := 1) rfl).2.2
            have SE := S9'.blk_row (i := 1) rfl #[.bool gis, .int .i64 gva, .slice A9 gfi.length c9, .int .i64 gmo]
            simp only [List.set_cons_zero, List.set_cons_succ] at SE
            have HSE := Lib.hid SE
            have HFIN0 : RetFnd W (.slice Af first.length cf) first ⟨gis, gva, gfi, gmo⟩ (.returned (.agg #[.bool gis, .int .i64 gva, .slice A9 gfi.length c9, .int .i64 gmo])) (wz.setRow (ga + 1) #[.bool gis, .int .i64 gva, .slice A9 gfi.length c9, .int .i64 gmo]) := ⟨_, rfl, SE.sub (.cons _ (.cons _ (List.Sublist.refl _)))⟩
            rw [← HRES.out] at HFIN0
            have HFIN := Lib.hid HFIN0
            clear HFIN0 SE S9 S9' HSE0
            iterate 4 (first | go_values | go_skip | go_guarded | go_step | go_upon)
            refine wpList_load_row rfl 40 (.tmp 11) rfl ga rfl 40 _ (0, 0) _ h0 Tryz.underlying40 rfl (by kernel_rfl) ?_
            refine wpList_store_row rfl 40 (.tmp 12) (.tmp 138) rfl (ga + 1) #[.bool gis, .int .i64 gva, .slice A9 gfi.length c9, .int .i64 gmo] rfl rfl 40 _ h1 (by kernel_rfl) rfl (by simp [Value.oneCell']) ?_
            have e0 := HSE.out.blk_cell (i := 1) rfl 0
            have e1 := HSE.out.blk_cell (i := 1) rfl 1
            have e2 := HSE.out.blk_cell (i := 1) rfl 2
            have e3 := HSE.out.blk_cell (i := 1) rfl 3
            clear h0 h1 HSE
            generalize wz.setRow (ga + 1) #[.bool gis, .int .i64 gva, .slice A9 gfi.length c9, .int .i64 gmo] = wv at *
            go_wp2_with fail
            exact bodyPost_ret (v := .agg #[.bool gis, .int .i64 gva, .slice A9 gfi.length c9, .int .i64 gmo]) (res_fnd _ _ (ga + 1) (.bool gis) (.int .i64 gva) (.slice A9 gfi.length c9) (.int .i64 gmo) rfl e0 e1 e2 e3) rfl HFIN.out
end Go.Proofs.YtjfhncnpmelopaaGreatDoor
/- Walks of the reference: search, Search. -/
namespace Go.Proofs.YtjfhncnpmelopaaGreatDoor
open Go.RowKit Go.Mem Go.Sheet
theorem search_any (RS : List RQ) (l : List Slot) (ok : Okay l RS) (sure : Bool) (vl : Value) : ∀ rest, SearchAt RS l sure vl rest
  | [] => search_nil RS l ok sure vl
  | x :: rest => search_cons RS l ok sure vl x rest (search_any RS l ok sure vl rest)
/-- how Search ends -/
def RetFound (w : World) (F : Fnd) (e : Ending) (w' : World) : Prop :=
  ∃ vf, e = .returned (fndV F vf) ∧ Below w.heap.size w w' ∧ Rd w' (· < w'.heap.size) 1 vf F.first.length (ints F.first)
theorem res_fnd6 (tmps : Array Value) (w : World) (g : Nat) (a b c d : Value) (hp : tmps.getD 6 undef = .pointer (some ⟨g, 0, none⟩)) (h0 : w.cell? ⟨g, 0, none⟩ = some a) (h1 : w.cell? ⟨g, 1, none⟩ = some b) (h2 : w.cell? ⟨g, 2, none⟩ = some c) (h3 : w.cell? ⟨g, 3, none⟩ = some d) :
    (results Tryz.f23 tmps).run Tryz.prog w = .ok (.agg #[a, b, c, d]) w := by
  have hp' : tmps[6]?.getD undef = .pointer (some ⟨g, 0, none⟩) := by simpa using hp
  simp [results, Tryz.results23, hp', h0, h1, h2, h3, go_sem]
set_option maxRecDepth 100000 in
set_option maxHeartbeats 2000000 in
theorem Own.search {W w : World} {vx vy : Value} {nl n : Nat} {l : List Slot} {RS : List RQ} (h : Own W w vx vy nl n l RS) (h0 : checkRequests l RS = 0) (sure : Bool) :
    Calls Tryz.prog 23 #[vx, vy, .bool sure] w (RetFound w (searchF RS sure [] RS (capL l) fnd0)) := by
  have ok := okay_of h0
  have HNL := Lib.hid (h.x.count (f := Slot.cells) (size := 3) (fun _ => rfl) (by decide))
  have hnl24 : nl ≤ 24 := by have := ok.nl; have := HNL.out; omega
  have HX := Lib.hid h.x
  obtain ⟨rs', hrs, hy⟩ := h.y
  have HY := Lib.hid hy
  have HRS := Lib.hid hrs
  have hcl : (capL l).length = nl := by rw [capL, List.length_map]; exact HNL.out.symm
  have hcb : ∀ k, 0 ≤ (capL l).getD k 0 ∧ (capL l).getD k 0 ≤ 8 := fun k => by
    rw [capL, List.getD_eq_getElem?_getD, List.getElem?_map]
    cases hk : l[k]? with
    | none => decide
    | some s =>
      have := ok.slot s (List.mem_of_getElem? hk)
      show 0 ≤ s.p ∧ s.p ≤ 8
      omega
  have HS : Hid (∀ (w' : World) (vq : Value), Below w.heap.size w w' → Rd w' (· < w'.heap.size) 1 vq nl (ints (capL l)) →
      Calls Tryz.prog 87 #[vx, vy, .slice none 0 0, vq, .bool sure, fndV fnd0 (.slice none 0 0)] w' fun e w2 => ∃ vf, e = .returned (fndV (searchF RS sure [] RS (capL l) fnd0) vf) ∧ St w' w2 [owv (.slice none 0 0) [] vf (searchF RS sure [] RS (capL l) fnd0).first]) := by
    intro w' vq hb hq
    exact search_any RS l ok sure vx RS [] (capL l) fnd0 w' vy (.slice none 0 0) vq (.slice none 0 0) n 0 nl rs' HRS.out (reqs_later HY.out hb) (Rd.nil _ _ _) hq (Rd.nil _ _ _) rfl rfl (Nat.zero_le _) (fun i x s _ h => by simp at h) (by rw [hcl]; exact HNL.out) hcb
  obtain ⟨A, c, rfl, _, _, _⟩ := h.x.open_
  have HCL := Lib.hid hcl
  clear h hy hrs hcb hcl ok
  generalize searchF RS sure [] RS (capL l) fnd0 = F at *
  have S0 := ((St.refl w).blk_new #[.bool false, .int .i64 0, .slice none 0 0, .int .i64 0] 40).row_nil 3 1
  simp only [List.cons_append, List.nil_append] at S0
  go_enter Tryz.func23, Tryz.ntmps23
  go_wp2
  generalize w.alloc (.cells #[.bool false, .int .i64 0, .slice none 0 0, .int .i64 0] 40) = w1 at *
  generalize hga : w.heap.size = ga at S0 ⊢
  have HGA := Lib.hid hga
  clear hga
  go_loopw [8, 7] (fun i v w' => ∃ k : Nat, k ≤ nl ∧ i = .int .i64 k ∧ St w w' [blk ga 40 #[.bool false, .int .i64 0, .slice none 0 0, .int .i64 0], row 3 1 v k (ints ((capL l).take k))]) (fun i _ _ => nl - (intOf i).toNat)
  case atStart => exact ⟨0, Nat.zero_le _, rfl, S0⟩
  case round =>
    obtain ⟨k, hk, rfl, S⟩ := hrel
    clear S0
    by_cases hlt : k < nl
    · obtain ⟨b, o, x, rfl, hx, c0, c1, c2⟩ := (HX.out.below S.bel).elem3 (k := k) (fun s : Slot => .int .i64 s.m) (fun s : Slot => .int .i64 s.h) (fun s : Slot => .int .i64 s.p) (fun _ => rfl) hlt
      have HG : Hid ((capL l).take (k + 1) = (capL l).take k ++ [x.p]) := by
        show _ = _
        exact take_at (by rw [capL, List.getElem?_map, hx]; rfl)
      obtain ⟨xm, xh, xp⟩ := x
      dsimp only at c0 c1 c2 HG
      clear hx c0 c1
      go_wp2_with (first
        | (at_builtin
           refine wpList_append_st eltI rfl _ _ rfl rfl (S.alloc _) (k := 1) rfl rfl (rd_new (m := 1) wr #[.int .i64 xp] 3 rfl (by omega) (fun _ => True) trivial) (by simp [Value.oneCell']) (by omega) (by omega) ?_
           intro v' w' S' _))
      have HS' := Lib.hid S'
      clear S' S
      go_roundw
      case rel =>
        refine ⟨k + 1, by omega, by go_num, ?_⟩
        rw [HG.out]
        simpa [ints] using HS'.out
      case measure => simp [intOf]; omega
    · obtain rfl : k = nl := by omega
      rw [List.take_of_length_le (by have := HCL.out; omega)] at S
      have hv := (S.row_rd (i := 1) rfl).now
      obtain ⟨Av, cv, rfl, _, _, _⟩ := hv.open_
      have HC := Lib.hid (HS.out wr _ S.bel hv)
      have HSS := Lib.hid S
      clear S hv HS
      obtain ⟨fis, fva, ffi, fmo⟩ := F
      go_wp2_with fail
      refine HC.out.mono ?_
      rintro e w2 ⟨vf, rfl, s2⟩
      have S2 := HSS.out.call s2
      simp only [List.cons_append, List.nil_append] at S2
      obtain ⟨Af, cf, rfl, _, _, _⟩ := (owv_rd S2 (i := 2) rfl (Rd.nil _ _ _)).open_
      have q0 := S2.blk_cell (i := 0) rfl 0
      have q1 := S2.blk_cell (i := 0) rfl 1
      have q2 := S2.blk_cell (i := 0) rfl 2
      have q3 := S2.blk_cell (i := 0) rfl 3
      have r0 := S2.blk_frozen (i := 0) rfl 0
      have r1 := S2.blk_frozen (i := 0) rfl 1
      have r2 := S2.blk_frozen (i := 0) rfl 2
      have r3 := S2.blk_frozen (i := 0) rfl 3
      have SE := (((S2.blk_set (i := 0) rfl 0 (.bool fis)).blk_set (i := 0) rfl 1 (.int .i64 fva)).blk_set (i := 0) rfl 2 (.slice Af ffi.length cf)).blk_set (i := 0) rfl 3 (.int .i64 fmo)
      have HSE := Lib.hid SE
      have HFIN0 : RetFound w ⟨fis, fva, ffi, fmo⟩ (.returned (.agg #[.bool fis, .int .i64 fva, .slice Af ffi.length cf, .int .i64 fmo])) _ := ⟨_, rfl, SE.bel, owv_rd SE (i := 2) rfl (Rd.nil _ _ _)⟩
      have HFIN := Lib.hid HFIN0
      clear SE S2 s2 HSS HC HFIN0
      go_wp2_with fail
      have e0 := HSE.out.blk_cell (i := 0) rfl 0
      have e1 := HSE.out.blk_cell (i := 0) rfl 1
      have e2 := HSE.out.blk_cell (i := 0) rfl 2
      have e3 := HSE.out.blk_cell (i := 0) rfl 3
      exact bodyPost_ret (v := .agg #[.bool fis, .int .i64 fva, .slice Af ffi.length cf, .int .i64 fmo]) (res_fnd6 _ _ ga (.bool fis) (.int .i64 fva) (.slice Af ffi.length cf) (.int .i64 fmo) rfl e0 e1 e2 e3) rfl HFIN.out
set_option maxRecDepth 100000 in
set_option maxHeartbeats 2000000 in
theorem few_any (w : World) (vr : Value) (n : Nat) (rs : List Req) (m : Int) (h : RdReqs w (· < w.heap.size) vr n rs) :
    Calls Tryz.prog 77 #[vr, .int .i64 m] w fun e w' => IsB e ∧ w = w' := by
  have hn := h.1.le
  obtain ⟨A, c, rfl, _, _, hr⟩ := h.1.open_
  clear h
  go_enter Tryz.func77, Tryz.ntmps77
  go_wp2
  go_loop [5] (fun i => ∃ k : Nat, k ≤ n ∧ i = .int .i64 k) (fun i => n - (intOf i).toNat)
  case atStart => exact ⟨0, Nat.zero_le _, rfl⟩
  case round =>
    obtain ⟨k, hk, rfl⟩ := hrel
    by_cases hlt : k < n
    · obtain ⟨b, o, x, rfl, hx, c0, c1, c2⟩ := hr.elem3 (k := k) (fun s : Req => .string s.name) (fun s : Req => .bool s.g) (fun s : Req => .slice s.wa s.wn s.wc) (fun _ => rfl) hlt
      obtain ⟨name, g, wa, wn, wc, ws⟩ := x
      simp only at c0 c1 c2
      by_cases h4 : 4 < wn
      · have h4' : decide (4 < (wn : Int)) = true := by simp; omega
        clear hr h4
        go_wp2
        go_ret
        exact ⟨⟨_, rfl⟩, rfl⟩
      · have h4' : decide (4 < (wn : Int)) = false := by simp; omega
        clear hr h4
        go_wp2
        go_round
        case rel => exact ⟨k + 1, by omega, by go_num⟩
        case measure => simp [intOf]; omega
    · have hkn : decide ((k : Int) < n) = false := by simp; omega
      clear hr
      go_wp2
      go_ret
      exact ⟨⟨_, rfl⟩, rfl⟩
theorem Own.few {W w : World} {vx vy : Value} {nl n : Nat} {l : List Slot} {RS : List RQ} (h : Own W w vx vy nl n l RS) (m : Int) :
    Calls Tryz.prog 77 #[vy, .int .i64 m] w fun e w' => IsB e ∧ w = w' :=
  let ⟨rs', _, h2⟩ := h.y; few_any w vy n rs' m h2
set_option maxRecDepth 100000 in
set_option maxHeartbeats 2000000 in
theorem light_any (W : World) (vl : Value) (nl : Nat) (l : List Slot) (vr : Value) (n : Nat) (rs : List Req) (hl : Rd W (· < W.heap.size) 3 vl nl (l.flatMap Slot.cells)) (hrl : nl * 24 ≤ 140737488351232)
    (h : RdReqs W (· < W.heap.size) vr n rs) (hrr : n * 48 ≤ 140737488351232) (hrw : ∀ r ∈ rs, r.wn * 16 ≤ 140737488351232) :
    Calls Tryz.prog 15 #[vl, vr] W fun e w' => IsB e ∧ Below W.heap.size W w' := by
  have HL := Lib.hid hl
  have HR := Lib.hid h
  have HRW := Lib.hid hrw
  generalize HRS : rs.map Req.rq = RS
  have HRS := Lib.hid HRS
  clear hl h hrw
  go_enter Tryz.func15, Tryz.ntmps15
  go_wp2_with fail
  refine (ownSlots_any _ _ nl l HL.out hrl).mono ?_
  rintro e w1 ⟨v1, rfl, S1⟩
  have HS1 := Lib.hid S1
  clear S1
  go_wp2_with fail
  refine (ownRequests_any w1 _ n rs (reqs_later HR.out HS1.out.bel) hrr HRW.out).mono ?_
  rintro e w2 ⟨v2, rs', rfl, he, hnm, S2⟩
  have HO : Hid (Own W w2 v1 v2 nl n l RS) := ⟨HS1.out.bel.trans (S2.bel.mono HS1.out.bel.size), (HS1.out.row_rd (i := 0) rfl).now.later S2.bel, rs', he.trans HRS.out, own_reqs S2 hnm⟩
  clear HS1 he hnm S2
  go_wp2_with fail
  refine HO.out.short.mono ?_
  rintro e w' ⟨⟨b, rfl⟩, rfl⟩
  cases b with
  | false =>
    have hb := HO.out.bel
    go_wp2
    go_ret
    exact ⟨⟨_, rfl⟩, hb⟩
  | true =>
    have HC := Lib.hid HO.out.check
    generalize checkRequests l RS = E at *
    go_wp2_with fail
    refine HC.out.mono ?_
    rintro e w3 ⟨rfl, hb3⟩
    have HO3 := Lib.hid (HO.out.later hb3)
    have hb := HO3.out.bel
    clear HO HC hb3
    by_cases hE : (E != 0) = true
    · go_wp2
      go_ret
      exact ⟨⟨_, rfl⟩, hb⟩
    · have hE' : (E != 0) = false := by simpa using hE
      go_wp2_with fail
      refine (HO3.out.few 6).mono ?_
      rintro e w' ⟨⟨b, rfl⟩, rfl⟩
      go_wp2
      go_ret
      exact ⟨⟨_, rfl⟩, hb⟩
end Go.Proofs.YtjfhncnpmelopaaGreatDoor
