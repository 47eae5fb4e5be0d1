/- Walk of the reference: Few, up to 20 requests. -/
import Derived.Test.YtjfhncnpmelopaaGreatDoorB11
import Derived.Test.YtjfhncnpmelopaaGreatDoorB09
import Derived.Test.YtjfhncnpmelopaaGreatDoorB08
import Derived.Test.YtjfhncnpmelopaaGreatDoorB16
import Derived.Test.YtjfhncnpmelopaaGreatDoorB10
import Derived.Test.YtjfhncnpmelopaaGreatDoorB23
set_option linter.unusedVariables false
set_option linter.unusedSimpArgs false
set_option linter.unusedSectionVars false
set_option linter.constructorNameAsVariable false
namespace Go.Proofs.YtjfhncnpmelopaaGreatDoor
open Go.RowKit Go.Mem Go.Sheet
/-- how Few ends -/
def FewE20 (E : Int) (e : Ending) : Prop := ∃ b, e = .returned (.bool b) ∧ (b = true → E = 0)
set_option maxRecDepth 100000 in
set_option maxHeartbeats 2000000 in
theorem Own.few20 {W w : World} {vx : Value} {A : Option Addr} {nl n c : Nat} {l : List Slot} {RS : List RQ} (h : Own W w vx (.slice A n c) nl n l RS) :
    Calls Tryz.prog 25 #[vx, .slice A n c, .int .i64 20] w fun e w' => FewE20 (checkRequests l RS) e ∧ Below w.heap.size w w' := by
  have HS := Lib.hid h.short
  have HC := Lib.hid h.check
  have hn : n ≤ 9223372036854775807 := by obtain ⟨_, _, h2⟩ := h.y; exact h2.1.le
  generalize checkRequests l RS = E at *
  clear h
  go_enter Tryz.func25, Tryz.ntmps25
  by_cases h24 : n ≤ 20
  · have h24' : decide ((n : Int) ≤ 20) = true := by simp; omega
    go_wp2_with fail
    refine HS.out.mono ?_
    rintro e w' ⟨⟨b, rfl⟩, rfl⟩
    cases b with
    | false =>
      go_wp2
      go_ret
      exact ⟨⟨false, rfl, fun h => by cases h⟩, Below.refl _ _⟩
    | true =>
      go_wp2_with fail
      refine HC.out.mono ?_
      rintro e w' ⟨rfl, hb⟩
      by_cases hE : (E == 0) = true
      · go_wp2
        go_ret
        exact ⟨⟨_, rfl, fun _ => by simpa using hE⟩, hb⟩
      · have hE' : (E == 0) = false := by simpa using hE
        go_wp2
        go_ret
        exact ⟨⟨false, rfl, fun h => by cases h⟩, hb⟩
  · have h24' : decide ((n : Int) ≤ 20) = false := by simp; omega
    go_wp2
    go_ret
    exact ⟨⟨false, rfl, fun h => by cases h⟩, Below.refl _ _⟩
end Go.Proofs.YtjfhncnpmelopaaGreatDoor
/- Walk: Assign. -/
namespace Go.Proofs.YtjfhncnpmelopaaGreatDoor
open Go.RowKit Go.Mem Go.Sheet
theorem assign_any (W : World) (vl vr : Value) (nl n : Nat) (l : List Slot) (rs : List Req) (hl : Rd W (· < W.heap.size) 3 vl nl (l.flatMap Slot.cells)) (h : RdReqs W (· < W.heap.size) vr n rs) :
    Calls Tryz.prog 17 #[vl, vr] W (RetInts W (assign l (rs.map Req.rq))) := by
  have HC := Lib.hid (solved_any W vl vr nl n l rs hl h)
  clear hl h
  go_enter Tryz.func17, Tryz.ntmps17
  go_wp2_with fail
  refine HC.out.mono ?_
  clear HC
  rintro e w2 (⟨h1, rfl, hb⟩ | ⟨h1, M, hM, ⟨hr, rfl, hb⟩ | ⟨v, g, va, hr, rfl, S⟩⟩)
  · have HF : Hid (assign l (rs.map Req.rq) = ([], checkRequests l (rs.map Req.rq))) := by show _ = _; rw [assign, if_pos h1]
    clear h1
    go_wp2
    go_ret2
    rw [HF.out]
    exact RetInts.err hb
  · have HF : Hid (assign l (rs.map Req.rq) = ([], 23)) := by show _ = _; rw [assign, if_neg (fun h => h h1), hM.solveQ, hr]; rfl
    clear h1 hr hM
    go_wp2
    go_ret2
    rw [HF.out]
    exact RetInts.err hb
  · have HF : Hid (assign l (rs.map Req.rq) = (places M, 0)) := by show _ = _; rw [assign, if_neg (fun h => h h1), hM.solveQ, hr]; rfl
    have hlen : Hid ((places M).length = (rs.map Req.rq).length) := by show _ = _; rw [places_len, hM.rows]
    have HS := Lib.hid (S.sub (L' := [row 3 1 va (rs.map Req.rq).length (intsV (places M))]) (.cons _ (.cons_cons _ .slnil)))
    clear h1 hr hM S
    go_wp2
    go_ret2
    rw [HF.out]
    exact ⟨va, rfl, by rw [hlen.out]; exact HS.out⟩
end Go.Proofs.YtjfhncnpmelopaaGreatDoor
/- The greatest worth of assignments: prices, weak duality, and what the matching gives. Plain law. -/
namespace Go.Sheet
/-- how often a number stands in a list -/
def cntI (k : Int) : List Int → Int
  | [] => 0
  | s :: a => (if s = k then 1 else 0) + cntI k a
theorem cntI_nonneg (k : Int) : ∀ a, 0 ≤ cntI k a
  | [] => Int.le_refl _
  | s :: a => by have := cntI_nonneg k a; rw [cntI]; split <;> omega
theorem cntI_append (k : Int) : ∀ a b, cntI k (a ++ b) = cntI k a + cntI k b
  | [], b => by simp [cntI]
  | s :: a, b => by rw [List.cons_append, cntI, cntI, cntI_append k a b]; omega
theorem cntI_none (k : Int) : ∀ a, (∀ x ∈ a, x ≠ k) → cntI k a = 0
  | [], _ => rfl
  | s :: a, h => by rw [cntI, if_neg (h s (List.mem_cons_self ..)), cntI_none k a fun x hx => h x (List.mem_cons_of_mem _ hx)]; rfl
theorem cntI_replicate (k : Int) : ∀ n : Nat, cntI k (List.replicate n k) = n
  | 0 => rfl
  | n + 1 => by rw [List.replicate_succ, cntI, if_pos rfl, cntI_replicate k n]; omega
/-- an assignment: -1 or a wished slot for each request, no slot above its places -/
structure AOk (l : List Slot) (rs : List RQ) (a : List Int) : Prop where
  len : a.length = rs.length
  wish : ∀ (i : Nat) x s, rs[i]? = some x → a[i]? = some s → s = -1 ∨ hasWish x s = true
  cap : ∀ (k : Nat) s, l[k]? = some s → cntI (k : Int) a ≤ s.p
def wsv (sv : RQ → Wish → Int) (x : RQ) (s : Int) : Int := match x.ws.find? fun y => y.s == s with
  | some y => sv x y
  | none => 0
def worthA (sv : RQ → Wish → Int) : List RQ → List Int → Int
  | x :: rs, s :: a => wsv sv x s + worthA sv rs a
  | _, _ => 0
def priceAt (P : List Int) (s : Int) : Int := if s < 0 then 0 else P.getD s.toNat 0
def payA (P : List Int) : List Int → Int
  | [] => 0
  | s :: a => priceAt P s + payA P a
def payB (k : Nat) (P : List Int) : List Int → Int
  | [] => 0
  | s :: a => (if (k : Int) ≤ s then P.getD (s.toNat - k) 0 else 0) + payB k P a
theorem payA_payB (P : List Int) : ∀ a, payA P a = payB 0 P a
  | [] => rfl
  | s :: a => by
    rw [payA, payB, payA_payB P a, priceAt]
    by_cases h : s < 0
    · rw [if_pos h, if_neg (by omega)]
    · rw [if_neg h, if_pos (by omega), Nat.sub_zero]
theorem payB_nil (k : Nat) : ∀ a, payB k [] a = 0
  | [] => rfl
  | s :: a => by rw [payB, payB_nil k a]; simp
theorem payB_cons (k : Nat) (q : Int) (P : List Int) : ∀ a, payB k (q :: P) a = cntI k a * q + payB (k + 1) P a
  | [] => by simp [payB, cntI]
  | s :: a => by
    rw [payB, payB, cntI, payB_cons k q P a]
    have key : (if (k : Int) ≤ s then (q :: P).getD (s.toNat - k) 0 else 0) = (if s = k then 1 else 0) * q + (if ((k + 1 : Nat) : Int) ≤ s then P.getD (s.toNat - (k + 1)) 0 else 0) := by
      by_cases h1 : s = k
      · subst h1; rw [if_pos (Int.le_refl _), if_pos rfl, if_neg (by omega)]; simp
      · by_cases h2 : (k : Int) ≤ s
        · rw [if_pos h2, if_neg h1, if_pos (by omega), show s.toNat - k = (s.toNat - (k + 1)) + 1 by omega, List.getD_cons_succ]; simp
        · rw [if_neg h2, if_neg h1, if_neg (by omega)]; simp
    rw [key, Int.add_mul]; omega
theorem payB_append (k : Nat) (P : List Int) : ∀ a b, payB k P (a ++ b) = payB k P a + payB k P b
  | [], b => by simp [payB]
  | s :: a, b => by rw [List.cons_append, payB, payB, payB_append k P a b]; omega
theorem pay_le : ∀ (l : List Slot) (P : List Int) (k : Nat) (a : List Int), P.length = l.length → (∀ x ∈ P, 0 ≤ x) → (∀ (j : Nat) s, l[j]? = some s → cntI ((k + j : Nat) : Int) a ≤ s.p) → payB k P a ≤ prSum P l
  | [], P, k, a, hl, _, _ => by
    have : P = [] := List.eq_nil_of_length_eq_zero (by simpa using hl)
    subst this
    rw [payB_nil]; exact Int.le_refl _
  | s :: l, [], k, a, hl, _, _ => by simp at hl
  | s :: l, q :: P, k, a, hl, h0, hc => by
    have h1 := pay_le l P (k + 1) a (by simpa using hl) (fun x hx => h0 x (List.mem_cons_of_mem _ hx)) (fun j t ht => by
      have := hc (j + 1) t (by simpa using ht)
      rwa [show k + (j + 1) = k + 1 + j by omega] at this)
    have h2 := hc 0 s rfl
    have h3 := h0 q (List.mem_cons_self ..)
    rw [Nat.add_zero] at h2
    have h4 : cntI (k : Int) a * q ≤ s.p * q := Int.mul_le_mul_of_nonneg_right h2 h3
    rw [payB_cons, prSum, Int.mul_comm q s.p]; omega
theorem worth_pay (sv : RQ → Wish → Int) (P : List Int) : ∀ (rs : List RQ) (a U : List Int), a.length = rs.length → U.length = rs.length →
    (∀ (i : Nat) x s u, rs[i]? = some x → a[i]? = some s → U[i]? = some u → wsv sv x s ≤ u + priceAt P s) → worthA sv rs a ≤ sumF U + payA P a
  | [], a, U, ha, hU, _ => by
    have h1 : a = [] := List.eq_nil_of_length_eq_zero (by simpa using ha)
    have h2 : U = [] := List.eq_nil_of_length_eq_zero (by simpa using hU)
    subst h1 h2
    exact Int.le_refl _
  | x :: rs, [], U, ha, _, _ => by simp at ha
  | x :: rs, s :: a, [], _, hU, _ => by simp at hU
  | x :: rs, s :: a, u :: U, ha, hU, h => by
    have h1 := worth_pay sv P rs a U (by simpa using ha) (by simpa using hU) (fun i x s u a b c => h (i + 1) x s u (by simpa using a) (by simpa using b) (by simpa using c))
    have h2 := h 0 x s u rfl rfl rfl
    rw [worthA, sumF, payA]; omega
/-- WEAK DUALITY -/
theorem weak_duality {l : List Slot} {rs : List RQ} {a U P : List Int} {sv : RQ → Wish → Int} (ha : AOk l rs a) (hU : U.length = rs.length) (hP : P.length = l.length) (h0 : ∀ x ∈ P, 0 ≤ x)
    (h : ∀ (i : Nat) x s u, rs[i]? = some x → a[i]? = some s → U[i]? = some u → wsv sv x s ≤ u + priceAt P s) : worthA sv rs a ≤ sumF U + prSum P l := by
  have h1 := worth_pay sv P rs a U ha.len hU h
  have h2 := pay_le l P 0 a hP h0 (fun j s hs => by rw [Nat.zero_add]; exact ha.cap j s hs)
  rw [payA_payB] at h1
  omega
/- the columns -/
theorem plc_bd : ∀ (l : List Slot) (k : Nat), ∀ x ∈ plc k l, (k : Int) ≤ x ∧ x < ((k + l.length : Nat) : Int)
  | [], _ => fun x hx => by cases hx
  | s :: l, k => fun x hx => by
    rw [plc, List.mem_append] at hx
    rcases hx with hx | hx
    · have := List.eq_of_mem_replicate hx
      subst this
      simp only [List.length_cons]; omega
    · have := plc_bd l (k + 1) x hx
      simp only [List.length_cons]; omega
theorem pay_plc : ∀ (l : List Slot) (P : List Int) (k : Nat), P.length = l.length → (∀ s ∈ l, 0 ≤ s.p) → payB k P (plc k l) = prSum P l
  | [], P, k, hl, _ => by
    have : P = [] := List.eq_nil_of_length_eq_zero (by simpa using hl)
    subst this
    rfl
  | s :: l, [], k, hl, _ => by simp at hl
  | s :: l, q :: P, k, hl, h0 => by
    have h1 := pay_plc l P (k + 1) (by simpa using hl) (fun x hx => h0 x (List.mem_cons_of_mem _ hx))
    have h2 := h0 s (List.mem_cons_self ..)
    rw [plc, payB_cons, cntI_append, cntI_replicate, cntI_none _ (plc (k + 1) l) (fun x hx => by have := plc_bd l (k + 1) x hx; omega), payB_append, h1, prSum]
    have e : payB (k + 1) P (List.replicate s.p.toNat (k : Int)) = 0 := by
      generalize s.p.toNat = n
      induction n with
      | zero => rfl
      | succ n ih => rw [List.replicate_succ, payB, if_neg (by omega), ih]; rfl
    rw [e, Int.toNat_of_nonneg h2, Int.mul_comm q s.p, Int.add_zero]; omega
theorem cnt_plc : ∀ (l : List Slot) (k j : Nat) (s : Slot), l[j]? = some s → 0 ≤ s.p → cntI ((k + j : Nat) : Int) (plc k l) = s.p
  | [], _, _, _, h, _ => by simp at h
  | t :: l, k, 0, s, h, h0 => by
    simp at h
    subst h
    rw [plc, cntI_append, Nat.add_zero, cntI_replicate, cntI_none _ (plc (k + 1) l) (fun x hx => by have := plc_bd l (k + 1) x hx; omega)]
    omega
  | t :: l, k, j + 1, s, h, h0 => by
    have h1 := cnt_plc l (k + 1) j s (by simpa using h) h0
    rw [plc, cntI_append, cntI_none _ (List.replicate t.p.toNat (k : Int)) (fun x hx => by have := List.eq_of_mem_replicate hx; omega), show k + (j + 1) = k + 1 + j by omega, h1]
    omega
/- finite sums -/
def sm : Nat → (Nat → Int) → Int
  | 0, _ => 0
  | n + 1, f => sm n f + f n
theorem sm_congr {n : Nat} {f g : Nat → Int} (h : ∀ i, i < n → f i = g i) : sm n f = sm n g := by
  induction n with
  | zero => rfl
  | succ n ih => rw [sm, sm, ih fun i hi => h i (by omega), h n (by omega)]
theorem sm_le {n : Nat} {f g : Nat → Int} (h : ∀ i, i < n → f i ≤ g i) : sm n f ≤ sm n g := by
  induction n with
  | zero => exact Int.le_refl _
  | succ n ih => have := ih fun i hi => h i (by omega); have := h n (by omega); rw [sm, sm]; omega
theorem sm_zero (n : Nat) : sm n (fun _ => 0) = 0 := by
  induction n with
  | zero => rfl
  | succ n ih => rw [sm, ih]; rfl
theorem sm_add (n : Nat) (f g : Nat → Int) : sm n (fun i => f i + g i) = sm n f + sm n g := by
  induction n with
  | zero => rfl
  | succ n ih => rw [sm, sm, sm, ih]; omega
theorem sm_swap (n m : Nat) (f : Nat → Nat → Int) : sm n (fun i => sm m fun k => f i k) = sm m (fun k => sm n fun i => f i k) := by
  induction n with
  | zero => rw [sm]; exact (sm_zero m).symm
  | succ n ih =>
    rw [sm, ih, ← sm_add]
    exact sm_congr fun k _ => rfl
theorem sm_single {n j : Nat} {f : Nat → Int} (hj : j < n) (h : ∀ i, i < n → i ≠ j → f i = 0) : sm n f = f j := by
  induction n with
  | zero => omega
  | succ n ih =>
    rw [sm]
    by_cases e : j = n
    · subst e
      rw [sm_congr (g := fun _ => 0) (fun i hi => h i (by omega) (by omega)), sm_zero]; omega
    · rw [ih (by omega) (fun i hi hn => h i (by omega) hn), h n (by omega) (by omega)]; omega
theorem sm_shift (n : Nat) (f : Nat → Int) : sm (n + 1) f = f 0 + sm n (fun i => f (i + 1)) := by
  induction n with
  | zero => rw [sm, sm, sm]; omega
  | succ n ih => rw [sm, ih, sm]; omega
theorem sumF_sm : ∀ U : List Int, sumF U = sm U.length (fun j => U.getD j 0)
  | [] => rfl
  | u :: U => by rw [sumF, List.length_cons, sm_shift, sumF_sm U]; rfl
theorem payA_sm (P : List Int) : ∀ a : List Int, payA P a = sm a.length (fun j => priceAt P (a.getD j 0))
  | [] => rfl
  | s :: a => by rw [payA, List.length_cons, sm_shift, payA_sm P a]; rfl
theorem cntI_sm (k : Int) : ∀ a : List Int, cntI k a = sm a.length (fun j => if a.getD j 0 = k then 1 else 0)
  | [] => rfl
  | s :: a => by rw [cntI, List.length_cons, sm_shift, cntI_sm k a]; rfl
def wAt (sv : RQ → Wish → Int) (rs : List RQ) (j : Nat) (s : Int) : Int := match rs[j]? with
  | some x => wsv sv x s
  | none => 0
theorem worthA_sm (sv : RQ → Wish → Int) : ∀ (rs : List RQ) (a : List Int), a.length = rs.length → worthA sv rs a = sm rs.length (fun j => wAt sv rs j (a.getD j 0))
  | [], a, _ => by rw [worthA]; rfl; intros; contradiction
  | x :: rs, [], h => by simp at h
  | x :: rs, s :: a, h => by rw [worthA, List.length_cons, sm_shift, worthA_sm sv rs a (by simpa using h)]; rfl
/- where the matching puts the rows -/
theorem placesL_keep (M : Mt) : ∀ (m k : Nat) (out : List Int) (j : Nat), (∀ c, k ≤ c → c < k + m → M.taken.getD c 0 ≠ j + 1) → (placesL M m k out).getD j 0 = out.getD j 0 := by
  intro m
  induction m with
  | zero => intro k out j _; rfl
  | succ m ih =>
    intro k out j h
    rw [placesL, ih _ _ _ fun c h1 h2 => h c (by omega) (by omega)]
    have := h k (Nat.le_refl _) (by omega)
    split
    · rfl
    · rw [getD_set, if_neg (by omega)]
theorem placesL_hit (M : Mt) : ∀ (m k : Nat) (out : List Int) (j c : Nat), j < out.length → k ≤ c → c < k + m → M.taken.getD c 0 = j + 1 → (∀ c', k ≤ c' → c' < k + m → M.taken.getD c' 0 = j + 1 → c' = c) →
    (placesL M m k out).getD j 0 = M.slot c := by
  intro m
  induction m with
  | zero => intro k out j c _ h1 h2; omega
  | succ m ih =>
    intro k out j c hj h1 h2 ht hu
    rw [placesL]
    by_cases e : c = k
    · subst e
      rw [placesL_keep M m _ _ j fun c' a b hc => by have := hu c' (by omega) (by omega) hc; omega]
      rw [if_neg (by omega), getD_set, if_pos ⟨by omega, by omega⟩]
    · refine ih (k + 1) _ j c ?_ (by omega) (by omega) ht fun c' a b hc => hu c' (by omega) (by omega) hc
      split
      · exact hj
      · rw [List.length_set]; exact hj
theorem places_at {M : Mt} {R : Nat} (h : HM M R) (hr : M.rows = R) {j c : Nat} (hj : j < R) (h1 : 1 ≤ c) (h2 : c ≤ M.n) (ht : M.taken.getD c 0 = j + 1) : (places M).getD j 0 = M.slot c := by
  refine placesL_hit M M.n 1 _ j c (by rw [List.length_replicate]; omega) h1 (by omega) ht fun c' a b hc => ?_
  exact h.pinj c' c a h1 (by omega) h2 (by show M.taken.getD c' 0 = M.taken.getD c 0; omega) (by show M.taken.getD c' 0 ≠ 0; omega)
/- the worth of a row in a column -/
theorem wishAll_at (cs : List Int) (sv : RQ → Wish → Int) (rs : List RQ) (a b : Nat) (hb : 1 ≤ b ∧ b ≤ cs.length) : ∀ (ps : List (Nat × Wish)) (f : Nat → Nat → Int),
    ((∀ p ∈ ps, ¬ (p.1 + 1 = a ∧ p.2.s = slotOf cs b)) → wishAll cs sv rs f ps a b = f a b) ∧
    (∀ q ∈ ps, (q.1 + 1 = a ∧ q.2.s = slotOf cs b) → (∀ p ∈ ps, p.1 + 1 = a → p.2.s = slotOf cs b → p = q) → wishAll cs sv rs f ps a b = svI sv rs q) := by
  intro ps
  induction ps with
  | nil => intro f; exact ⟨fun _ => rfl, fun q hq => by cases hq⟩
  | cons p ps ih =>
    intro f
    have hw : wishAll cs sv rs f (p :: ps) a b = wishAll cs sv rs (wishF cs (svI sv rs p) p.1 p.2.s (cs.length + 1) f) ps a b := rfl
    rw [hw]
    obtain ⟨i1, i2⟩ := ih (wishF cs (svI sv rs p) p.1 p.2.s (cs.length + 1) f)
    constructor
    · intro h
      rw [i1 fun q hq => h q (List.mem_cons_of_mem _ hq), wishF, if_neg]
      rintro ⟨⟨h1, _⟩, h2⟩
      exact h p (List.mem_cons_self ..) ⟨h1.symm, h2.symm⟩
    · intro q hq hm hu
      by_cases hex : ∃ r ∈ ps, r.1 + 1 = a ∧ r.2.s = slotOf cs b
      · obtain ⟨r, hr, hr1, hr2⟩ := hex
        have e := hu r (List.mem_cons_of_mem _ hr) hr1 hr2
        subst e
        exact i2 r hr ⟨hr1, hr2⟩ fun p' hp' => hu p' (List.mem_cons_of_mem _ hp')
      · have hn : ∀ r ∈ ps, ¬ (r.1 + 1 = a ∧ r.2.s = slotOf cs b) := fun r hr hc => hex ⟨r, hr, hc⟩
        have e : q = p := by
          rcases List.mem_cons.1 hq with e | e
          · exact e
          · exact absurd hm (hn q e)
        subst e
        rw [i1 hn, wishF, if_pos ⟨⟨hm.1.symm, hb.1, by omega⟩, hm.2.symm⟩]
theorem mem_wlQ : ∀ (rs : List RQ) (k i : Nat) (x : RQ) (w : Wish), rs[i]? = some x → w ∈ x.ws → (k + i, w) ∈ wlQ k rs
  | [], _, _, _, _, h, _ => by simp at h
  | y :: rs, k, 0, x, w, h, hw => by
    simp at h
    subst h
    rw [wlQ, List.mem_append]
    exact .inl (List.mem_map.2 ⟨w, hw, rfl⟩)
  | y :: rs, k, i + 1, x, w, h, hw => by
    rw [wlQ, List.mem_append]
    right
    have := mem_wlQ rs (k + 1) i x w (by simpa using h) hw
    rwa [show k + (i + 1) = k + 1 + i by omega]
/-- each request wishes for a slot but once -/
def Once (rs : List RQ) : Prop := ∀ x ∈ rs, ∀ y ∈ x.ws, ∀ z ∈ x.ws, y.s = z.s → y = z
theorem worth_at {l : List Slot} {rs : List RQ} (sv : RQ → Wish → Int) (ho : Once rs) {i k : Nat} {x : RQ} (hx : rs[i]? = some x) (h1 : 1 ≤ k) (h2 : k ≤ (colsL l rs.length).length) :
    (m0 l rs sv).worth (i + 1) k = match x.ws.find? fun y => y.s == slotOf (colsL l rs.length) k with
      | some y => sv x y
      | none => if slotOf (colsL l rs.length) k < 0 then 0 else -Far := by
  have hi : i < rs.length := (List.getElem?_eq_some_iff.1 hx).1
  have hxm := List.mem_of_getElem? hx
  show wishAll (colsL l rs.length) sv rs (fillF (colsL l rs.length) rs.length 1) (wlQ 0 rs) (i + 1) k = _
  generalize colsL l rs.length = cs at *
  obtain ⟨i1, i2⟩ := wishAll_at cs sv rs (i + 1) k ⟨h1, h2⟩ (wlQ 0 rs) (fillF cs rs.length 1)
  have hmem : ∀ p ∈ wlQ 0 rs, p.1 + 1 = i + 1 → p.2 ∈ x.ws := fun p hp e => by
    obtain ⟨y, hy, _, hw⟩ := wlQ_mem hp
    rw [Nat.sub_zero, show p.1 = i by omega, hx] at hy
    cases hy
    exact hw
  cases hf : x.ws.find? fun y => y.s == slotOf cs k with
  | none =>
    rw [i1 fun p hp hc => by
      have := hmem p hp hc.1
      have hn := List.find?_eq_none.1 hf p.2 this
      simp [hc.2] at hn]
    dsimp only
    rw [fillF, if_pos (by omega)]
  | some y =>
    obtain ⟨hy, hs⟩ := find_mem hf
    have hq := mem_wlQ rs 0 i x y hx hy
    rw [Nat.zero_add] at hq
    rw [i2 (i, y) hq ⟨rfl, hs⟩ fun p hp e1 e2 => by
      have h3 := ho x hxm p.2 (hmem p hp e1) y hy (by rw [e2, hs])
      have h4 : p.1 = i := by omega
      obtain ⟨a, b⟩ := p
      simp only at h3 h4
      rw [h3, h4]]
    show svI sv rs (i, y) = sv x y
    rw [svI]
    simp only [hx]
end Go.Sheet
/- The matching's assignment has the greatest worth, which the prices prove. Plain law. -/
namespace Go.Sheet
/-- the price of a slot, as Proof takes it: that of its last column -/
def pricesL (M : Mt) : Nat → Nat → List Int → List Int
  | 0, _, out => out
  | m + 1, k, out => pricesL M m (k + 1) (if 0 ≤ M.slot k then out.set (M.slot k).toNat (M.col.getD k 0) else out)
def slotPrices (M : Mt) (nl : Nat) : List Int := pricesL M M.n 1 (List.replicate nl 0)
def rowPrices (M : Mt) (R : Nat) : List Int := (List.range R).map fun j => M.row.getD (j + 1) 0
theorem pricesL_len (M : Mt) : ∀ (m k : Nat) (out : List Int), (pricesL M m k out).length = out.length := by
  intro m
  induction m with
  | zero => intro k out; rfl
  | succ m ih =>
    intro k out
    rw [pricesL, ih]
    split
    · rw [List.length_set]
    · rfl
theorem pricesL_at (M : Mt) : ∀ (m k : Nat) (out : List Int) (s : Nat), s < out.length →
    (∃ c, k ≤ c ∧ c < k + m ∧ M.slot c = (s : Int) ∧ (pricesL M m k out).getD s 0 = M.col.getD c 0) ∨ ((∀ c, k ≤ c → c < k + m → M.slot c ≠ (s : Int)) ∧ (pricesL M m k out).getD s 0 = out.getD s 0) := by
  intro m
  induction m with
  | zero => intro k out s _; exact .inr ⟨fun c h1 h2 => by omega, rfl⟩
  | succ m ih =>
    intro k out s hs
    rw [pricesL]
    by_cases h0 : 0 ≤ M.slot k
    · rw [if_pos h0]
      rcases ih (k + 1) (out.set (M.slot k).toNat (M.col.getD k 0)) s (by rw [List.length_set]; exact hs) with ⟨c, h1, h2, h3, h4⟩ | ⟨h1, h2⟩
      · exact .inl ⟨c, by omega, by omega, h3, h4⟩
      · by_cases e : M.slot k = (s : Int)
        · left
          refine ⟨k, Nat.le_refl _, by omega, e, ?_⟩
          rw [h2, getD_set, if_pos ⟨by omega, by omega⟩]
        · right
          refine ⟨fun c a b => ?_, ?_⟩
          · by_cases ec : c = k
            · subst ec; exact e
            · exact h1 c (by omega) (by omega)
          · rw [h2, getD_set, if_neg (by omega)]
    · rw [if_neg h0]
      rcases ih (k + 1) out s hs with ⟨c, h1, h2, h3, h4⟩ | ⟨h1, h2⟩
      · exact .inl ⟨c, by omega, by omega, h3, h4⟩
      · right
        refine ⟨fun c a b => ?_, h2⟩
        by_cases ec : c = k
        · subst ec; omega
        · exact h1 c (by omega) (by omega)
/-- the prices of a matching and its assignment -/
structure Best (l : List Slot) (rs : List RQ) (sv : RQ → Wish → Int) (U P a : List Int) : Prop where
  ul : U.length = rs.length
  pl : P.length = l.length
  u0 : ∀ x ∈ U, 0 ≤ x
  p0 : ∀ x ∈ P, 0 ≤ x
  feas : ∀ (i : Nat) x y, rs[i]? = some x → y ∈ x.ws → sv x y ≤ U.getD i 0 + P.getD y.s.toNat 0
  aok : AOk l rs a
  eq : worthA sv rs a = sumF U + prSum P l
/-- what is asked of the data -/
structure Fit (l : List Slot) (rs : List RQ) : Prop where
  mok : MOk l rs
  once : Once rs
  inn : ∀ x ∈ rs, ∀ y ∈ x.ws, y.s < l.length
theorem slotOf_cases (l : List Slot) (R k : Nat) (h1 : 1 ≤ k) (h2 : k ≤ (colsL l R).length) : slotOf (colsL l R) k = -1 ∨ (0 ≤ slotOf (colsL l R) k ∧ slotOf (colsL l R) k < l.length) := by
  obtain ⟨j, rfl⟩ : ∃ j, k = j + 1 := ⟨k - 1, by omega⟩
  rw [slotOf, List.getD_eq_getElem?_getD, List.getElem?_eq_getElem (by omega), Option.getD_some]
  have hm : (colsL l R)[j] ∈ colsL l R := List.getElem_mem _
  generalize (colsL l R)[j] = x at *
  rw [colsL, List.mem_append] at hm
  rcases hm with hm | hm
  · right
    have := plc_bd l 0 x hm
    omega
  · left; exact List.eq_of_mem_replicate hm
theorem slot_col (l : List Slot) (R s : Nat) (t : Slot) (hs : l[s]? = some t) (hp : 1 ≤ t.p) : ∃ k, 1 ≤ k ∧ k ≤ (colsL l R).length ∧ slotOf (colsL l R) k = (s : Int) := by
  have h1 := cnt_plc l 0 s t hs (by omega)
  rw [Nat.zero_add] at h1
  have hm : (s : Int) ∈ plc 0 l := by
    apply Classical.byContradiction
    intro hc
    rw [cntI_none _ _ (fun x hx (e : x = (s : Int)) => hc (by rw [← e]; exact hx))] at h1
    omega
  obtain ⟨j, hj, e⟩ := List.mem_iff_getElem.1 hm
  refine ⟨j + 1, by omega, by rw [colsL, List.length_append]; omega, ?_⟩
  rw [slotOf, colsL, List.getD_eq_getElem?_getD, List.getElem?_append_left hj, List.getElem?_eq_getElem hj, e]; rfl
theorem matched_best {l : List Slot} {rs : List RQ} {sv : RQ → Wish → Int} {M : Mt} (h : Matched l rs sv M) (hf : Fit l rs) (hsv : SvOk rs sv) : Best l rs sv (rowPrices M rs.length) (slotPrices M l.length) (places M) := by
  have b := wishAll_base l rs sv hsv
  have H : HInv (m0 l rs sv).worth M.n rs.length (fun k => M.taken.getD k 0) (fun j => M.row.getD j 0) (fun k => M.col.getD k 0) := h.worth ▸ h.hm
  have hN := h.n
  have hNc : (colsL l rs.length).length = M.n := by rw [colsL_len, hN]
  have hunn : ∀ j, 1 ≤ j → j ≤ rs.length → 0 ≤ M.row.getD j 0 := fun j a c => H.unn b hN (Nat.le_refl _) a c
  have hsl : ∀ k, M.slot k = slotOf (colsL l rs.length) k := fun k => by rw [h.slot]; rfl
  have hwo : ∀ (i k : Nat) x, rs[i]? = some x → 1 ≤ k → k ≤ M.n → (m0 l rs sv).worth (i + 1) k = match x.ws.find? fun y => y.s == M.slot k with
      | some y => sv x y
      | none => if M.slot k < 0 then 0 else -Far := fun i k x hx h1 h2 => by rw [hsl]; exact worth_at sv hf.once hx h1 (by rw [hNc]; exact h2)
  have hcase : ∀ k, 1 ≤ k → k ≤ M.n → M.slot k = -1 ∨ (0 ≤ M.slot k ∧ M.slot k < l.length) := fun k a c => by rw [hsl]; exact slotOf_cases l rs.length k a (by rw [hNc]; exact c)
  -- the columns of one slot have one price
  have hle : ∀ k k', 1 ≤ k → k ≤ M.n → 1 ≤ k' → k' ≤ M.n → M.slot k = M.slot k' → M.col.getD k 0 ≤ M.col.getD k' 0 := by
    intro k k' a c a' c' e
    have v' := H.vnn k' a' c'
    by_cases ht : M.taken.getD k 0 = 0
    · have := H.free k a c ht
      try simp only at this v'
      omega
    · have h1 := H.tight k a c ht
      have h2 := H.ple k a c
      have h3 := H.feas (M.taken.getD k 0) k' (by omega) h2 a' c'
      try simp only at h1 h2 h3
      obtain ⟨i, hi⟩ : ∃ i, M.taken.getD k 0 = i + 1 := ⟨M.taken.getD k 0 - 1, by omega⟩
      rw [hi] at h1 h3
      have hx : rs[i]? = some rs[i] := List.getElem?_eq_getElem (by omega)
      rw [hwo i k _ hx a c, e] at h1
      rw [hwo i k' _ hx a' c'] at h3
      omega
  have hpr : ∀ k, 1 ≤ k → k ≤ M.n → 0 ≤ M.slot k → (slotPrices M l.length).getD (M.slot k).toNat 0 = M.col.getD k 0 := by
    intro k a c h0
    have hlt : M.slot k < l.length := by rcases hcase k a c with e | e <;> omega
    rcases pricesL_at M M.n 1 (List.replicate l.length 0) (M.slot k).toNat (by rw [List.length_replicate]; omega) with ⟨q, h1, h2, h3, h4⟩ | ⟨h1, h2⟩
    · rw [slotPrices, h4]
      have e : M.slot q = M.slot k := by omega
      have := hle q k h1 (by omega) a c e
      have := hle k q a c h1 (by omega) e.symm
      omega
    · exact absurd (Int.toNat_of_nonneg h0).symm (h1 k a (by omega))
  -- at home the price is 0
  have hhome : ∀ k, 1 ≤ k → k ≤ M.n → M.slot k = -1 → M.col.getD k 0 = 0 := by
    intro k a c e
    have v0 := H.vnn k a c
    try simp only at v0
    by_cases ht : M.taken.getD k 0 = 0
    · exact H.free k a c ht
    · have h1 := H.tight k a c ht
      have h2 := H.ple k a c
      try simp only at h1 h2
      obtain ⟨i, hi⟩ : ∃ i, M.taken.getD k 0 = i + 1 := ⟨M.taken.getD k 0 - 1, by omega⟩
      have hx : rs[i]? = some rs[i] := List.getElem?_eq_getElem (by omega)
      have hu := hunn (i + 1) (by omega) (by omega)
      rw [hi, hwo i k _ hx a c] at h1
      have hn : (rs[i]).ws.find? (fun y => y.s == M.slot k) = none := List.find?_eq_none.2 fun y hy hc => by
        have := (hf.mok.ws _ (List.mem_of_getElem? hx) y hy).1
        have : y.s = M.slot k := by simpa using hc
        omega
      rw [hn] at h1
      dsimp only at h1
      rw [if_pos (by omega)] at h1
      omega
  have hprice : ∀ k, 1 ≤ k → k ≤ M.n → priceAt (slotPrices M l.length) (M.slot k) = M.col.getD k 0 := by
    intro k a c
    rw [priceAt]
    rcases hcase k a c with e | e
    · rw [if_pos (by omega), hhome k a c e]
    · rw [if_neg (by omega), hpr k a c e.1]
  have hU : ∀ j, j < rs.length → (rowPrices M rs.length).getD j 0 = M.row.getD (j + 1) 0 := fun j hj => by
    rw [rowPrices, List.getD_eq_getElem?_getD, List.getElem?_map, List.getElem?_range hj]; rfl
  have hplen : (places M).length = rs.length := by rw [places_len, h.rows]
  -- where a row is, and what it is worth there
  have hcol : ∀ j, j < rs.length → ∃ c, 1 ≤ c ∧ c ≤ M.n ∧ M.taken.getD c 0 = j + 1 ∧ (places M).getD j 0 = M.slot c := fun j hj => by
    obtain ⟨c, c1, c2, c3⟩ := H.psurj (j + 1) (by omega) (by omega)
    exact ⟨c, c1, c2, c3, places_at h.hm h.rows hj c1 c2 c3⟩
  have hrow : ∀ (j : Nat) x, rs[j]? = some x → ∃ c, 1 ≤ c ∧ c ≤ M.n ∧ M.taken.getD c 0 = j + 1 ∧ (places M).getD j 0 = M.slot c ∧ (M.slot c = -1 ∨ hasWish x (M.slot c) = true) ∧ wsv sv x (M.slot c) = M.row.getD (j + 1) 0 + M.col.getD c 0 := by
    intro j x hx
    have hj : j < rs.length := (List.getElem?_eq_some_iff.1 hx).1
    obtain ⟨c, c1, c2, c3, c4⟩ := hcol j hj
    refine ⟨c, c1, c2, c3, c4, ?_⟩
    have h1 := H.tight c c1 c2 (by show M.taken.getD c 0 ≠ 0; omega)
    simp only [c3] at h1
    rw [hwo j c x hx c1 c2] at h1
    have hu := hunn (j + 1) (by omega) (by omega)
    have hv := H.vnn c c1 c2
    try simp only at hv
    rw [hasWish, wsv]
    cases hfd : x.ws.find? fun y => y.s == M.slot c with
    | some y =>
      rw [hfd] at h1
      exact ⟨.inr rfl, h1.symm⟩
    | none =>
      rw [hfd] at h1
      dsimp only at h1
      rcases hcase c c1 c2 with e | e
      · rw [if_pos (by omega)] at h1
        exact ⟨.inl e, h1.symm⟩
      · rw [if_neg (by omega)] at h1
        unfold Far at h1
        omega
  refine ⟨by simp [rowPrices], by rw [slotPrices, pricesL_len, List.length_replicate], ?_, ?_, ?_, ⟨hplen, ?_, ?_⟩, ?_⟩
  · intro x hx
    obtain ⟨j, hj, rfl⟩ := List.mem_map.1 hx
    have := List.mem_range.1 hj
    exact hunn (j + 1) (by omega) (by omega)
  · intro x hx
    obtain ⟨s, hs, rfl⟩ := List.mem_iff_getElem.1 hx
    have hs' : s < (List.replicate l.length (0 : Int)).length := by rw [slotPrices, pricesL_len] at hs; exact hs
    have e : (slotPrices M l.length)[s] = (slotPrices M l.length).getD s 0 := by rw [List.getD_eq_getElem?_getD, List.getElem?_eq_getElem hs, Option.getD_some]
    rw [e]
    rcases pricesL_at M M.n 1 (List.replicate l.length 0) s hs' with ⟨q, h1, h2, h3, h4⟩ | ⟨h1, h2⟩
    · rw [slotPrices, h4]; exact H.vnn q h1 (by omega)
    · rw [slotPrices, h2, List.getD_eq_getElem?_getD, List.getElem?_replicate]
      split <;> simp
  · intro i x y hx hy
    have hi : i < rs.length := (List.getElem?_eq_some_iff.1 hx).1
    have hxm := List.mem_of_getElem? hx
    have hy0 := (hf.mok.ws x hxm y hy).1
    have hyl := hf.inn x hxm y hy
    have hs : l[y.s.toNat]? = some l[y.s.toNat] := List.getElem?_eq_getElem (by omega)
    obtain ⟨k, k1, k2, k3⟩ := slot_col l rs.length y.s.toNat _ hs (hf.mok.sp _ (List.getElem_mem _)).1
    rw [hNc] at k2
    rw [← hsl] at k3
    have ek : M.slot k = y.s := by omega
    have h1 := H.feas (i + 1) k (by omega) (by omega) k1 k2
    try simp only at h1
    rw [hwo i k x hx k1 k2] at h1
    have hfd : x.ws.find? (fun z => z.s == M.slot k) = some y := by
      cases hfd : x.ws.find? fun z => z.s == M.slot k with
      | none =>
        have := List.find?_eq_none.1 hfd y hy
        simp [ek] at this
      | some z =>
        obtain ⟨hz, hzs⟩ := find_mem hfd
        rw [hf.once x hxm z hz y hy (by omega)]
    rw [hfd] at h1
    rw [hU i hi, ← ek, hpr k k1 k2 (by omega)]
    exact h1
  · intro i x s hx hs
    obtain ⟨c, _, _, _, c4, c5, _⟩ := hrow i x hx
    have e : s = M.slot c := by rw [← c4, List.getD_eq_getElem?_getD, hs, Option.getD_some]
    rw [e]; exact c5
  · intro k t ht
    have htp := (hf.mok.sp t (List.mem_of_getElem? ht)).1
    have hkl : k < l.length := (List.getElem?_eq_some_iff.1 ht).1
    have e1 : cntI (k : Int) (places M) = sm rs.length (fun j => sm M.n fun c => if M.taken.getD (c + 1) 0 = j + 1 ∧ M.slot (c + 1) = (k : Int) then 1 else 0) := by
      rw [cntI_sm, hplen]
      refine sm_congr fun j hj => ?_
      obtain ⟨c, c1, c2, c3, c4⟩ := hcol j hj
      rw [sm_single (j := c - 1) (by omega) fun i hi hn => if_neg fun hc => hn (by
        have := H.pinj (i + 1) c (by omega) c1 (by omega) c2 (by show M.taken.getD (i + 1) 0 = M.taken.getD c 0; omega) (by show M.taken.getD (i + 1) 0 ≠ 0; omega)
        omega)]
      rw [show c - 1 + 1 = c by omega, c4]
      exact ifc ⟨fun h => ⟨c3, h⟩, fun h => h.2⟩
    have e2 : cntI (k : Int) (colsL l rs.length) = t.p := by
      rw [colsL, cntI_append, cntI_none _ (List.replicate _ _) (fun x hx => by have := List.eq_of_mem_replicate hx; omega)]
      have := cnt_plc l 0 k t ht (by omega)
      rw [Nat.zero_add] at this
      omega
    rw [e1, sm_swap, ← e2, cntI_sm, hNc]
    refine sm_le fun c hc => ?_
    have es : (colsL l rs.length).getD c 0 = M.slot (c + 1) := by rw [hsl]; rfl
    rw [es]
    by_cases h1 : M.slot (c + 1) = (k : Int)
    · rw [if_pos h1]
      by_cases h2 : M.taken.getD (c + 1) 0 = 0
      · rw [sm_congr (g := fun _ => 0) fun j hj => if_neg (by omega), sm_zero]; omega
      · have h3 := H.ple (c + 1) (by omega) (by omega)
        try simp only at h3
        rw [sm_single (j := M.taken.getD (c + 1) 0 - 1) (by omega) fun i hi hn => if_neg (by omega)]
        split <;> omega
    · rw [if_neg h1, sm_congr (g := fun _ => 0) fun j hj => if_neg (by omega), sm_zero]; exact Int.le_refl _
  · rw [worthA_sm sv rs _ hplen]
    have e1 : sm rs.length (fun j => wAt sv rs j ((places M).getD j 0)) = sm rs.length (fun j => (rowPrices M rs.length).getD j 0 + sm M.n fun c => if M.taken.getD (c + 1) 0 = j + 1 then M.col.getD (c + 1) 0 else 0) := by
      refine sm_congr fun j hj => ?_
      have hx : rs[j]? = some rs[j] := List.getElem?_eq_getElem hj
      obtain ⟨c, c1, c2, c3, c4, _, c6⟩ := hrow j _ hx
      rw [wAt, hx, c4]
      dsimp only
      rw [c6, hU j hj, sm_single (j := c - 1) (by omega) fun i hi hn => if_neg fun hc => hn (by
        have := H.pinj (i + 1) c (by omega) c1 (by omega) c2 (by show M.taken.getD (i + 1) 0 = M.taken.getD c 0; omega) (by show M.taken.getD (i + 1) 0 ≠ 0; omega)
        omega)]
      rw [show c - 1 + 1 = c by omega, if_pos c3]
    rw [e1, sm_add, sm_swap]
    have e2 : sumF (rowPrices M rs.length) = sm rs.length (fun j => (rowPrices M rs.length).getD j 0) := by
      rw [sumF_sm]; congr 1; simp [rowPrices]
    have e3 : sm M.n (fun c => sm rs.length fun j => if M.taken.getD (c + 1) 0 = j + 1 then M.col.getD (c + 1) 0 else 0) = prSum (slotPrices M l.length) l := by
      have e4 : prSum (slotPrices M l.length) l = payA (slotPrices M l.length) (colsL l rs.length) := by
        rw [payA_payB, colsL, payB_append, pay_plc l _ 0 (by rw [slotPrices, pricesL_len, List.length_replicate]) (fun s hs => by have := hf.mok.sp s hs; omega)]
        have : ∀ n, payB 0 (slotPrices M l.length) (List.replicate n (-1)) = 0 := by
          intro n
          induction n with
          | zero => rfl
          | succ n ih => rw [List.replicate_succ, payB, if_neg (by decide), ih]; rfl
        rw [this]; omega
      rw [e4, payA_sm, hNc]
      refine sm_congr fun c hc => ?_
      have es : (colsL l rs.length).getD c 0 = M.slot (c + 1) := by rw [hsl]; rfl
      rw [es, hprice (c + 1) (by omega) (by omega)]
      by_cases h2 : M.taken.getD (c + 1) 0 = 0
      · rw [sm_congr (g := fun _ => 0) fun j hj => if_neg (by omega), sm_zero]
        exact (H.free (c + 1) (by omega) (by omega) h2).symm
      · have h3 := H.ple (c + 1) (by omega) (by omega)
        try simp only at h3
        rw [sm_single (j := M.taken.getD (c + 1) 0 - 1) (by omega) fun i hi hn => if_neg (by omega), if_pos (by omega)]
    rw [e2, e3]
/-- no assignment is worth more -/
theorem Best.le {l : List Slot} {rs : List RQ} {sv : RQ → Wish → Int} {U P a b : List Int} (h : Best l rs sv U P a) (hn : ∀ x ∈ rs, ∀ y ∈ x.ws, 0 ≤ y.s) (hb : AOk l rs b) : worthA sv rs b ≤ worthA sv rs a := by
  rw [h.eq]
  refine weak_duality hb h.ul h.pl h.p0 fun i x s u hx hs hu => ?_
  have hu0 := h.u0 u (List.mem_of_getElem? hu)
  have eu : U.getD i 0 = u := by rw [List.getD_eq_getElem?_getD, hu, Option.getD_some]
  rw [wsv]
  cases hfd : x.ws.find? fun y => y.s == s with
  | some y =>
    obtain ⟨hy, hys⟩ := find_mem hfd
    have h1 := h.feas i x y hx hy
    have h2 := hn x (List.mem_of_getElem? hx) y hy
    rw [priceAt, if_neg (by omega), ← hys, ← eu]
    exact h1
  | none =>
    dsimp only
    have : 0 ≤ priceAt P s := by
      rw [priceAt]
      split
      · exact Int.le_refl _
      · rw [List.getD_eq_getElem?_getD]
        cases hp : P[s.toNat]? with
        | none => simp
        | some q => exact h.p0 q (List.mem_of_getElem? hp)
    omega
end Go.Sheet
/- What solve and match answer: the greatest value of the assignments that serve all guaranteed requests, and the greatest number. Plain law. -/
namespace Go.Sheet
def valQ (_ : RQ) (y : Wish) : Int := y.w
def SureA (rs : List RQ) (a : List Int) : Prop := ∀ (i : Nat) x s, rs[i]? = some x → a[i]? = some s → x.g = true → hasWish x s = true
/-- guaranteed requests that are served -/
def gN : List RQ → List Int → Int
  | x :: rs, s :: a => (if x.g = true ∧ hasWish x s = true then 1 else 0) + gN rs a
  | _, _ => 0
def gT : List RQ → Int
  | [] => 0
  | x :: rs => (if x.g = true then 1 else 0) + gT rs
theorem hasWish_some {x : RQ} {s : Int} (h : hasWish x s = true) : ∃ y, x.ws.find? (fun y => y.s == s) = some y := by
  rw [hasWish] at h
  exact Option.isSome_iff_exists.1 h
theorem hasWish_none {x : RQ} {s : Int} (h : ¬ hasWish x s = true) : x.ws.find? (fun y => y.s == s) = none := by
  rw [hasWish] at h
  cases hf : x.ws.find? fun y => y.s == s with
  | none => rfl
  | some y => rw [hf] at h; exact absurd rfl h
theorem wsv_bonus (x : RQ) (s : Int) : wsv weightQ x s = wsv valQ x s + 1000000 * (if x.g = true ∧ hasWish x s = true then 1 else 0) := by
  by_cases h : hasWish x s = true
  · obtain ⟨y, hy⟩ := hasWish_some h
    rw [wsv, wsv, hy]
    show weightQ x y = valQ x y + _
    rw [weightQ, valQ]
    cases hg : x.g
    · rw [if_neg (by decide), if_neg (by rintro ⟨a, _⟩; cases a)]; omega
    · rw [if_pos rfl, if_pos ⟨rfl, h⟩]; omega
  · rw [wsv, wsv, hasWish_none h, if_neg (fun hc => h hc.2)]; rfl
theorem worth_bonus : ∀ (rs : List RQ) (a : List Int), worthA weightQ rs a = worthA valQ rs a + 1000000 * gN rs a
  | [], a => by simp [worthA, gN]
  | x :: rs, [] => by simp [worthA, gN]
  | x :: rs, s :: a => by rw [worthA, worthA, gN, worth_bonus rs a, wsv_bonus]; omega
theorem gN_le : ∀ (rs : List RQ) (a : List Int), gN rs a ≤ gT rs
  | [], a => by simp [gN, gT]
  | x :: rs, [] => by
    have := gN_le rs []
    have e : gN rs [] = 0 := by cases rs <;> simp [gN]
    rw [e] at this
    have e2 : gN (x :: rs) [] = 0 := by simp [gN]
    rw [e2, gT]; split <;> omega
  | x :: rs, s :: a => by
    have := gN_le rs a
    rw [gN, gT]
    by_cases hg : x.g = true
    · rw [if_pos hg]; split <;> omega
    · rw [if_neg hg, if_neg (fun h => hg h.1)]; omega
theorem sure_cons {x : RQ} {rs : List RQ} {s : Int} {a : List Int} : SureA (x :: rs) (s :: a) ↔ (x.g = true → hasWish x s = true) ∧ SureA rs a := by
  constructor
  · intro h
    exact ⟨h 0 x s rfl rfl, fun i y t hy ht => h (i + 1) y t (by simpa using hy) (by simpa using ht)⟩
  · rintro ⟨h1, h2⟩ i y t hy ht
    cases i with
    | zero => simp at hy ht; subst hy ht; exact h1
    | succ i => exact h2 i y t (by simpa using hy) (by simpa using ht)
theorem gN_eq : ∀ (rs : List RQ) (a : List Int), a.length = rs.length → (gT rs ≤ gN rs a ↔ SureA rs a)
  | [], a, _ => by
    have e : gN [] a = 0 := by simp [gN]
    rw [e]
    exact ⟨fun _ i x s h => by simp at h, fun _ => Int.le_refl _⟩
  | x :: rs, [], h => by simp at h
  | x :: rs, s :: a, h => by
    have h1 := gN_eq rs a (by simpa using h)
    have h2 := gN_le rs a
    rw [gN, gT, sure_cons, ← h1]
    by_cases hg : x.g = true
    · by_cases hw : hasWish x s = true
      · rw [if_pos hg, if_pos ⟨hg, hw⟩]
        exact ⟨fun h => ⟨fun _ => hw, by omega⟩, fun h => by omega⟩
      · rw [if_pos hg, if_neg (fun h => hw h.2)]
        exact ⟨fun h => by omega, fun h => absurd (h.1 hg) hw⟩
    · rw [if_neg hg, if_neg (fun h => hg h.1)]
      exact ⟨fun h => ⟨fun h => absurd h hg, by omega⟩, fun h => by omega⟩
theorem val_bd : ∀ (rs : List RQ) (a : List Int), (∀ x ∈ rs, ∀ y ∈ x.ws, 0 ≤ y.w ∧ y.w ≤ 10000) → 0 ≤ worthA valQ rs a ∧ worthA valQ rs a ≤ 10000 * rs.length
  | [], a, _ => by simp [worthA]
  | x :: rs, [], _ => by simp [worthA]; omega
  | x :: rs, s :: a, h => by
    have h1 := val_bd rs a fun y hy => h y (List.mem_cons_of_mem _ hy)
    have h2 : 0 ≤ wsv valQ x s ∧ wsv valQ x s ≤ 10000 := by
      rw [wsv]
      cases hf : x.ws.find? fun y => y.s == s with
      | none => dsimp only; omega
      | some y => exact h x (List.mem_cons_self ..) y (find_mem hf).1
    rw [worthA, List.length_cons]; omega
theorem solveV_sure : ∀ (rs : List RQ) (a : List Int) (v : Int), a.length = rs.length → SureA rs a → solveV rs a v = some (v + worthA valQ rs a)
  | [], a, v, _, _ => by simp [solveV, worthA]
  | x :: rs, [], v, h, _ => by simp at h
  | x :: rs, s :: a, v, h, hs => by
    obtain ⟨h1, h2⟩ := sure_cons.1 hs
    rw [solveV, worthA, wsv]
    cases hf : x.ws.find? fun y => y.s == s with
    | some y =>
      dsimp only
      rw [solveV_sure rs a _ (by simpa using h) h2, valQ]
      congr 1; omega
    | none =>
      dsimp only
      have hg : x.g = false := by
        cases hg : x.g
        · rfl
        · have := h1 hg
          rw [hasWish, hf] at this; cases this
      rw [hg, if_neg (by decide), solveV_sure rs a _ (by simpa using h) h2]
      congr 1; omega
theorem solveV_not : ∀ (rs : List RQ) (a : List Int) (v : Int), a.length = rs.length → ¬ SureA rs a → solveV rs a v = none
  | [], a, v, _, hs => absurd (fun i x s h => by simp at h) hs
  | x :: rs, [], v, h, _ => by simp at h
  | x :: rs, s :: a, v, h, hs => by
    rw [solveV]
    cases hf : x.ws.find? fun y => y.s == s with
    | some y =>
      dsimp only
      refine solveV_not rs a _ (by simpa using h) fun hc => hs (sure_cons.2 ⟨fun _ => ?_, hc⟩)
      rw [hasWish, hf]; rfl
    | none =>
      dsimp only
      cases hg : x.g
      · rw [if_neg (by decide)]
        exact solveV_not rs a _ (by simpa using h) fun hc => hs (sure_cons.2 ⟨(fun h => by rw [hg] at h; cases h), hc⟩)
      · rw [if_pos rfl]
theorem matched_of {l : List Slot} {rs : List RQ} {sv : RQ → Wish → Int} (hm : MOk l rs) (hsv : SvOk rs sv) : ∃ M, Matched l rs sv M := by
  have b := wishAll_base l rs sv hsv
  have hp := plc_len (l := l) (fun s hs => (hm.sp s hs).2) 0
  have hnl := hm.nl
  have hnr := hm.nr
  have hn0 : (m0 l rs sv).n = (plc 0 l).length + rs.length + 1 := colsL_len l rs.length
  obtain ⟨M, e, h1, h2, h3, h4, h5, h6⟩ := addAll_ok (m0 l rs sv).worth b hnr rs.length 0 (m0 l rs sv) (by omega) rfl hn0 (by rw [hn0]; omega) (m0_hm l rs sv) (m0_lens l rs sv)
  exact ⟨M, e, h1, h2, h3, h4, h5, h6.trans hn0⟩
/-- THE LAW of solve -/
theorem solve_spec {l : List Slot} {rs : List RQ} (hf : Fit l rs) :
    (∃ a v, solveQ l rs = some (a, v) ∧ AOk l rs a ∧ SureA rs a ∧ v = worthA valQ rs a ∧ ∀ b, AOk l rs b → SureA rs b → worthA valQ rs b ≤ v) ∨ (solveQ l rs = none ∧ ∀ b, AOk l rs b → ¬ SureA rs b) := by
  obtain ⟨M, hM⟩ := matched_of hf.mok hf.mok.sv
  have hB := matched_best hM hf hf.mok.sv
  have hnn : ∀ x ∈ rs, ∀ y ∈ x.ws, 0 ≤ y.s := fun x hx y hy => (hf.mok.ws x hx y hy).1
  have hw : ∀ x ∈ rs, ∀ y ∈ x.ws, 0 ≤ y.w ∧ y.w ≤ 10000 := fun x hx y hy => (hf.mok.ws x hx y hy).2
  have hR := hf.mok.nr
  have hle : ∀ b, AOk l rs b → worthA valQ rs b + 1000000 * gN rs b ≤ worthA valQ rs (places M) + 1000000 * gN rs (places M) := fun b hb => by
    have := hB.le hnn hb
    rwa [worth_bonus, worth_bonus] at this
  have hv := val_bd rs (places M) hw
  have hlen := hB.aok.len
  rw [hM.solveQ]
  by_cases hs : SureA rs (places M)
  · left
    refine ⟨places M, worthA valQ rs (places M), ?_, hB.aok, hs, rfl, fun b hb hsb => ?_⟩
    · rw [solveV_sure rs _ 0 hlen hs]
      show some (places M, 0 + worthA valQ rs (places M)) = _
      rw [Int.zero_add]
    · have h1 := hle b hb
      have h2 := (gN_eq rs b hb.len).2 hsb
      have h3 := gN_le rs (places M)
      omega
  · right
    refine ⟨by rw [solveV_not rs _ 0 hlen hs]; rfl, fun b hb hsb => hs ?_⟩
    have h1 := hle b hb
    have h2 := (gN_eq rs b hb.len).2 hsb
    have h3 := val_bd rs b hw
    exact (gN_eq rs _ hlen).1 (by omega)
/-- the number that is served -/
theorem served_worth {l : List Slot} {rs : List RQ} (hnn : ∀ x ∈ rs, ∀ y ∈ x.ws, 0 ≤ y.s) {a : List Int} (hl : a.length = rs.length) (hw : ∀ (i : Nat) x s, rs[i]? = some x → a[i]? = some s → s = -1 ∨ hasWish x s = true) : worthA oneQ rs a = servedN a := by
  induction rs generalizing a with
  | nil =>
    have : a = [] := List.eq_nil_of_length_eq_zero (by simpa using hl)
    subst this
    simp [worthA, servedN]
  | cons x rs ih =>
    cases a with
    | nil => simp at hl
    | cons s a =>
      rw [worthA, servedN, ih (fun y hy => hnn y (List.mem_cons_of_mem _ hy)) (by simpa using hl) (fun i y t a b => hw (i + 1) y t (by simpa using a) (by simpa using b))]
      congr 1
      rw [wsv]
      cases hf : x.ws.find? fun y => y.s == s with
      | some y =>
        obtain ⟨hy, hs⟩ := find_mem hf
        have := hnn x (List.mem_cons_self ..) y hy
        rw [if_pos (by omega)]; rfl
      | none =>
        rcases hw 0 x s rfl rfl with h | h
        · subst h; rfl
        · rw [hasWish, hf] at h; cases h
theorem most_spec {l : List Slot} {rs : List RQ} (hf : Fit l rs) : (∃ a, AOk l rs a ∧ servedN a = mostM l rs) ∧ ∀ b, AOk l rs b → servedN b ≤ mostM l rs := by
  obtain ⟨M, hM⟩ := matched_of hf.mok hf.mok.sv1
  have hB := matched_best hM hf hf.mok.sv1
  have hnn : ∀ x ∈ rs, ∀ y ∈ x.ws, 0 ≤ y.s := fun x hx y hy => (hf.mok.ws x hx y hy).1
  have e : mostM l rs = servedN (places M) := by rw [mostM, hM.eq]
  rw [e]
  refine ⟨⟨places M, hB.aok, rfl⟩, fun b hb => ?_⟩
  have h1 := hB.le hnn hb
  rwa [served_worth (l := l) hnn hb.len hb.wish, served_worth (l := l) hnn hB.aok.len hB.aok.wish] at h1
theorem okay_fit {l : List Slot} {rs : List RQ} (h : Okay l rs) : Fit l rs where
  mok := okay_mok h
  once := fun x hx y hy z hz e => by
    obtain ⟨i, hi, rfl⟩ := List.mem_iff_getElem.1 hy
    obtain ⟨j, hj, rfl⟩ := List.mem_iff_getElem.1 hz
    have key : ∀ (d i : Nat) (h1 : i < x.ws.length) (h2 : i + d + 1 < x.ws.length), (x.ws[i]).s < (x.ws[i + d + 1]).s := by
      intro d
      induction d with
      | zero => intro i h1 h2; exact h.asc x hx i _ _ (List.getElem?_eq_getElem h1) (List.getElem?_eq_getElem h2)
      | succ d ih =>
        intro i h1 h2
        have a1 := ih i h1 (by omega)
        have a2 := h.asc x hx (i + d + 1) _ _ (List.getElem?_eq_getElem (by omega)) (List.getElem?_eq_getElem h2)
        exact Int.lt_trans a1 a2
    by_cases h1 : i = j
    · subst h1; rfl
    · rcases Nat.lt_or_ge i j with h2 | h2
      · have := key (j - i - 1) i hi (by omega)
        simp only [show i + (j - i - 1) + 1 = j by omega] at this
        omega
      · have := key (i - j - 1) j hj (by omega)
        simp only [show j + (i - j - 1) + 1 = i by omega] at this
        omega
  inn := fun x hx y hy => (h.wish x hx y hy).1.2
end Go.Sheet
/- A further place, or no guarantee: what becomes of the greatest value. Plain law. -/
namespace Go.Sheet
def moreS (s : Slot) : Slot := ⟨s.m, s.h, s.p + 1⟩
def moreL (l : List Slot) (k : Nat) : List Slot := l.modify k moreS
def looseQ (x : RQ) : RQ := ⟨x.name, false, x.ws⟩
def looseR (rs : List RQ) : List RQ := rs.map looseQ
theorem moreL_len (l : List Slot) (k : Nat) : (moreL l k).length = l.length := by simp [moreL]
theorem moreL_at (l : List Slot) (k j : Nat) : (moreL l k)[j]? = (l[j]?).map fun s => if k = j then moreS s else s := by
  rw [moreL, List.getElem?_modify]
  cases l[j]? <;> rfl
theorem checkSlots_more {l : List Slot} {k : Nat} (h : checkSlots l = 0) (hp : ∀ s, l[k]? = some s → s.p < 8) : checkSlots (moreL l k) = 0 := by
  have hS := checkSlots_slot h
  rw [checkSlots] at h ⊢
  rw [moreL_len]
  by_cases h1 : 24 < l.length
  · rw [if_pos h1] at h; exact absurd h (by decide)
  · rw [if_neg h1, eachF_zero] at h ⊢
    intro i x hx
    rw [moreL_at] at hx
    cases hs : l[i]? with
    | none => rw [hs] at hx; cases hx
    | some s =>
      rw [hs] at hx
      have h2 := h i s hs
      have h3 := hS.2 s (List.mem_of_getElem? hs)
      have hx' : x = if k = i then moreS s else s := by simpa using hx.symm
      have e1 : x.m = s.m ∧ x.h = s.h ∧ 1 ≤ x.p ∧ x.p ≤ 8 := by
        rw [hx']
        by_cases e : k = i
        · subst e
          have := hp s hs
          rw [if_pos rfl]
          exact ⟨rfl, rfl, by show 1 ≤ s.p + 1; omega, by show s.p + 1 ≤ 8; omega⟩
        · rw [if_neg e]; exact ⟨rfl, rfl, by omega, by omega⟩
      obtain ⟨a1, a2, a3, a4⟩ := e1
      rw [Nat.zero_add] at h2 ⊢
      have z1 : fst [outE s.m 0 10000, outE s.h 1 36, outE s.p 1 8] = 0 := by
        rw [fst_zero]
        simp only [List.mem_cons, List.not_mem_nil, or_false, forall_eq_or_imp, forall_eq, outE_zero]
        omega
      have z2 : fst [outE x.m 0 10000, outE x.h 1 36, outE x.p 1 8] = 0 := by
        rw [fst_zero]
        simp only [List.mem_cons, List.not_mem_nil, or_false, forall_eq_or_imp, forall_eq, outE_zero]
        omega
      rw [slotE, if_neg (by rw [z1]; simp)] at h2
      rw [slotE, if_neg (by rw [z2]; simp)]
      by_cases h0 : i = 0
      · rw [if_pos h0]
      · rw [if_neg h0] at h2 ⊢
        rw [moreL_at]
        cases hb : l[i - 1]? with
        | none => rfl
        | some b =>
          rw [hb] at h2
          have e2 : (if k = i - 1 then moreS b else b).m = b.m ∧ (if k = i - 1 then moreS b else b).h = b.h := by
            split <;> exact ⟨rfl, rfl⟩
          show whenE _ 11 = 0
          rw [e2.1, e2.2, a1, a2]
          exact h2
theorem checkRequests_more {l : List Slot} {rs : List RQ} {k : Nat} (h : checkRequests l rs = 0) (hp : ∀ s, l[k]? = some s → s.p < 8) : checkRequests (moreL l k) rs = 0 := by
  have h0 := okay_of h
  have e := checkSlots_more h0.slots hp
  rw [checkRequests] at h ⊢
  rw [e, moreL_len]
  rw [h0.slots] at h
  exact h
theorem reqE_loose (nl : Nat) (rs : List RQ) (i : Nat) (x : RQ) : reqE nl (looseR rs) i (looseQ x) = reqE nl rs i x := by
  have e : ((looseR rs).take i).any (fun y => y.name == (looseQ x).name) = (rs.take i).any (fun y => y.name == x.name) := by
    rw [looseR, ← List.map_take, List.any_map]; rfl
  rw [reqE, reqE, e]; rfl
theorem checkRequests_loose (l : List Slot) (rs : List RQ) : checkRequests l (looseR rs) = checkRequests l rs := by
  have e1 : (looseR rs).length = rs.length := by simp [looseR]
  have e2 : eachF (reqE l.length (looseR rs)) 0 (looseR rs) = eachF (reqE l.length rs) 0 rs := by
    rw [show eachF (reqE l.length (looseR rs)) 0 (looseR rs) = eachF (reqE l.length (looseR rs)) 0 (rs.map looseQ) from rfl, eachF_map]
    congr 1
    funext i x
    exact reqE_loose _ _ _ _
  rw [checkRequests, checkRequests, e1, e2]
theorem aok_more {l : List Slot} {rs : List RQ} {b : List Int} (k : Nat) (h : AOk l rs b) : AOk (moreL l k) rs b := by
  refine ⟨h.len, h.wish, fun j s hs => ?_⟩
  rw [moreL_at] at hs
  cases ht : l[j]? with
  | none => rw [ht] at hs; cases hs
  | some t =>
    rw [ht] at hs
    have := h.cap j t ht
    have e : s = if k = j then moreS t else t := by simpa using hs.symm
    rw [e]
    split
    · show _ ≤ t.p + 1; omega
    · exact this
theorem loose_at (rs : List RQ) (i : Nat) : (looseR rs)[i]? = (rs[i]?).map looseQ := by rw [looseR, List.getElem?_map]
theorem aok_loose {l : List Slot} {rs : List RQ} {b : List Int} : AOk l (looseR rs) b ↔ AOk l rs b := by
  have e1 : (looseR rs).length = rs.length := by simp [looseR]
  constructor
  · rintro ⟨h1, h2, h3⟩
    exact ⟨by rw [h1, e1], fun i x s hx hs => h2 i (looseQ x) s (by rw [loose_at, hx]; rfl) hs, h3⟩
  · rintro ⟨h1, h2, h3⟩
    refine ⟨by rw [h1, e1], fun i x s hx hs => ?_, h3⟩
    rw [loose_at] at hx
    cases hy : rs[i]? with
    | none => rw [hy] at hx; cases hx
    | some y =>
      rw [hy] at hx
      have e : x = looseQ y := by simpa using hx.symm
      rw [e]; exact h2 i y s hy hs
theorem sure_loose (rs : List RQ) (b : List Int) : SureA (looseR rs) b := by
  intro i x s hx hs hg
  rw [loose_at] at hx
  cases hy : rs[i]? with
  | none => rw [hy] at hx; cases hx
  | some y =>
    rw [hy] at hx
    have e : x = looseQ y := by simpa using hx.symm
    rw [e] at hg; cases hg
theorem worth_loose : ∀ (rs : List RQ) (b : List Int), worthA valQ (looseR rs) b = worthA valQ rs b
  | [], b => rfl
  | x :: rs, [] => by simp [looseR, worthA]
  | x :: rs, s :: b => by
    show wsv valQ (looseQ x) s + worthA valQ (looseR rs) b = _
    rw [worth_loose rs b, worthA]; rfl
/- one request gives up its place -/
theorem cntI_set : ∀ (b : List Int) (i : Nat) (s j : Int), b[i]? = some s → 0 ≤ j → cntI j (b.set i (-1)) + (if s = j then 1 else 0) = cntI j b
  | [], _, _, _, h, _ => by simp at h
  | t :: b, 0, s, j, h, hj => by
    simp at h
    subst h
    rw [List.set_cons_zero, cntI, cntI, if_neg (by omega)]; omega
  | t :: b, i + 1, s, j, h, hj => by
    have := cntI_set b i s j (by simpa using h) hj
    rw [List.set_cons_succ, cntI, cntI]; omega
theorem servedN_set : ∀ (b : List Int) (i : Nat) (s : Int), b[i]? = some s → servedN (b.set i (-1)) + (if 0 ≤ s then 1 else 0) = servedN b
  | [], _, _, h => by simp at h
  | t :: b, 0, s, h => by
    simp at h
    subst h
    rw [List.set_cons_zero, servedN, servedN, if_neg (by decide)]; omega
  | t :: b, i + 1, s, h => by
    have := servedN_set b i s (by simpa using h)
    rw [List.set_cons_succ, servedN, servedN]; omega
theorem worth_set : ∀ (rs : List RQ) (b : List Int) (i : Nat) (x : RQ) (s : Int), rs[i]? = some x → b[i]? = some s → worthA valQ rs (b.set i (-1)) + wsv valQ x s = worthA valQ rs b + wsv valQ x (-1)
  | [], _, _, _, _, h, _ => by simp at h
  | y :: rs, [], _, _, _, _, h => by simp at h
  | y :: rs, t :: b, 0, x, s, hx, h => by
    simp at h hx
    subst h hx
    rw [List.set_cons_zero, worthA, worthA]; omega
  | y :: rs, t :: b, i + 1, x, s, hx, h => by
    have := worth_set rs b i x s (by simpa using hx) (by simpa using h)
    rw [List.set_cons_succ, worthA, worthA]; omega
theorem cntI_pos (k : Int) : ∀ b : List Int, 1 ≤ cntI k b → ∃ i : Nat, b[i]? = some k
  | [], h => by simp [cntI] at h
  | t :: b, h => by
    by_cases e : t = k
    · exact ⟨0, by simp [e]⟩
    · rw [cntI, if_neg e] at h
      obtain ⟨i, hi⟩ := cntI_pos k b (by omega)
      exact ⟨i + 1, by simpa using hi⟩
theorem give_up {l : List Slot} {rs : List RQ} {b : List Int} {k : Nat} {G : Int} (hf : Fit l rs) (hG : 0 ≤ G ∧ ∀ x ∈ rs, ∀ y ∈ x.ws, y.w ≤ G) (h : AOk (moreL l k) rs b) :
    ∃ b', AOk l rs b' ∧ servedN b ≤ servedN b' + 1 ∧ worthA valQ rs b ≤ worthA valQ rs b' + G := by
  have hcap : ∀ (j : Nat) s, l[j]? = some s → cntI (j : Int) b ≤ if k = j then s.p + 1 else s.p := fun j s hs => by
    have := h.cap j (if k = j then moreS s else s) (by rw [moreL_at, hs]; rfl)
    split
    · rename_i e; rw [if_pos e] at this; exact this
    · rename_i e; rw [if_neg e] at this; exact this
  by_cases hc : ∀ s, l[k]? = some s → cntI (k : Int) b ≤ s.p
  · refine ⟨b, ⟨h.len, h.wish, fun j s hs => ?_⟩, by omega, by omega⟩
    by_cases e : k = j
    · subst e; exact hc s hs
    · have := hcap j s hs; rw [if_neg e] at this; exact this
  · have hc' : ∃ s, l[k]? = some s ∧ ¬ cntI (k : Int) b ≤ s.p := by
      apply Classical.byContradiction
      intro hn
      exact hc fun s hs => Classical.byContradiction fun hq => hn ⟨s, hs, hq⟩
    obtain ⟨s, hs, hq⟩ := hc'
    have hsp := hf.mok.sp s (List.mem_of_getElem? hs)
    obtain ⟨i, hi⟩ := cntI_pos (k : Int) b (by omega)
    have hil : i < rs.length := by rw [← h.len]; exact (List.getElem?_eq_some_iff.1 hi).1
    have hx : rs[i]? = some rs[i] := List.getElem?_eq_getElem hil
    refine ⟨b.set i (-1), ⟨by rw [List.length_set]; exact h.len, fun j x t hx' ht => ?_, fun j t ht => ?_⟩, ?_, ?_⟩
    · by_cases e : i = j
      · subst e
        rw [List.getElem?_set_self (by rw [h.len]; exact hil)] at ht
        exact .inl (Option.some.inj ht).symm
      · rw [List.getElem?_set_ne e] at ht
        exact h.wish j x t hx' ht
    · have h1 := cntI_set b i (k : Int) (j : Int) hi (by omega)
      have h2 := hcap j t ht
      by_cases e : k = j
      · subst e
        rw [if_pos rfl] at h1 h2
        omega
      · rw [if_neg e] at h2
        rw [if_neg (by omega)] at h1
        omega
    · have := servedN_set b i (k : Int) hi
      rw [if_pos (by omega)] at this
      omega
    · have h1 := worth_set rs b i rs[i] (k : Int) hx hi
      have h2 : wsv valQ rs[i] (k : Int) ≤ G := by
        rw [wsv]
        cases hfd : (rs[i]).ws.find? fun y => y.s == (k : Int) with
        | none => dsimp only; omega
        | some y => exact hG.2 _ (List.mem_of_getElem? hx) y (find_mem hfd).1
      have h3 : wsv valQ rs[i] (-1) = 0 := by
        rw [wsv]
        cases hfd : (rs[i]).ws.find? fun y => y.s == (-1 : Int) with
        | none => rfl
        | some y =>
          obtain ⟨hy, hys⟩ := find_mem hfd
          have := (hf.mok.ws _ (List.mem_of_getElem? hx) y hy).1
          omega
      omega
/-- what solve answers, as a value and an error -/
theorem best_cases {l : List Slot} {rs : List RQ} (h : checkRequests l rs = 0) :
    ((best l rs).2 = 0 ∧ (∃ a, assign l rs = (a, 0) ∧ AOk l rs a ∧ SureA rs a ∧ worthA valQ rs a = (best l rs).1) ∧ ∀ b, AOk l rs b → SureA rs b → worthA valQ rs b ≤ (best l rs).1) ∨
    ((best l rs).2 = 23 ∧ ∀ b, AOk l rs b → ¬ SureA rs b) := by
  have hf := okay_fit (okay_of h)
  rcases solve_spec hf with ⟨a, v, e, h1, h2, h3, h4⟩ | ⟨e, h1⟩
  · left
    have eb : best l rs = (v, 0) := by rw [best, h, e]; rfl
    rw [eb]
    exact ⟨rfl, ⟨a, by rw [assign, h, e]; rfl, h1, h2, h3.symm⟩, h4⟩
  · right
    have eb : best l rs = (0, 23) := by rw [best, h, e]; rfl
    rw [eb]
    exact ⟨rfl, h1⟩
/-- THE LAW of SheetGrows -/
theorem grows {l : List Slot} {rs : List RQ} {k : Nat} {G : Int} (h : checkRequests l rs = 0) (hp : ∀ s, l[k]? = some s → s.p < 8) (hG : 0 ≤ G ∧ ∀ x ∈ rs, ∀ y ∈ x.ws, y.w ≤ G) :
    ((most l rs).2 = 0 ∧ (most (moreL l k) rs).2 = 0 ∧ (best l (looseR rs)).2 = 0 ∧ (most l rs).1 ≤ (most (moreL l k) rs).1 ∧ (most (moreL l k) rs).1 ≤ (most l rs).1 + 1) ∧
    ((best l rs).2 ≠ 0 → (best l rs).2 = 23) ∧
    ((best l rs).2 = 0 → (best (moreL l k) rs).2 = 0 ∧ (assign l rs).2 = 0 ∧ (assign l rs).1.length = rs.length ∧ (best l rs).1 ≤ (best (moreL l k) rs).1 ∧ (best l rs).1 ≤ (best l (looseR rs)).1 ∧ servedN (assign l rs).1 ≤ (most l rs).1 ∧
      (best (moreL l k) (looseR rs)).2 = 0 ∧ (best l (looseR rs)).1 ≤ (best (moreL l k) (looseR rs)).1 ∧ (best (moreL l k) (looseR rs)).1 ≤ (best l (looseR rs)).1 + G) := by
  have hm := checkRequests_more h hp
  have hl : checkRequests l (looseR rs) = 0 := by rw [checkRequests_loose]; exact h
  have hml : checkRequests (moreL l k) (looseR rs) = 0 := by rw [checkRequests_loose]; exact hm
  have hf := okay_fit (okay_of h)
  have hfm := okay_fit (okay_of hm)
  have em1 : most l rs = (mostM l rs, 0) := by rw [most, h]; rfl
  have em2 : most (moreL l k) rs = (mostM (moreL l k) rs, 0) := by rw [most, hm]; rfl
  obtain ⟨⟨b1, hb1, eb1⟩, hle1⟩ := most_spec hf
  obtain ⟨⟨b2, hb2, eb2⟩, hle2⟩ := most_spec hfm
  obtain ⟨b3, hb3, g1, _⟩ := give_up hf hG hb2
  have q1 := hle2 b1 (aok_more k hb1)
  have q2 := hle1 b3 hb3
  -- nothing is guaranteed: there is always a value
  have free : ∀ l', checkRequests l' (looseR rs) = 0 → (∃ b, AOk l' rs b) → (best l' (looseR rs)).2 = 0 ∧ (∃ a, AOk l' rs a ∧ worthA valQ rs a = (best l' (looseR rs)).1) ∧ ∀ b, AOk l' rs b → worthA valQ rs b ≤ (best l' (looseR rs)).1 := by
    intro l' hc' ⟨b, hb⟩
    rcases best_cases hc' with ⟨h1, ⟨a, _, h2, _, h3⟩, h4⟩ | ⟨_, h1⟩
    · refine ⟨h1, ⟨a, aok_loose.1 h2, by rw [← worth_loose]; exact h3⟩, fun b hb => ?_⟩
      have := h4 b (aok_loose.2 hb) (sure_loose rs b)
      rwa [worth_loose] at this
    · exact absurd (sure_loose rs b) (h1 b (aok_loose.2 hb))
  obtain ⟨f1, ⟨a1, fa1, fv1⟩, fl1⟩ := free l hl ⟨b1, hb1⟩
  obtain ⟨f2, ⟨a2, fa2, fv2⟩, fl2⟩ := free (moreL l k) hml ⟨b2, hb2⟩
  refine ⟨⟨by rw [em1], by rw [em2], f1, by rw [em1, em2]; show mostM l rs ≤ mostM (moreL l k) rs; omega, by rw [em1, em2]; show mostM (moreL l k) rs ≤ mostM l rs + 1; omega⟩, fun hne => ?_, fun h0 => ?_⟩
  · rcases best_cases h with ⟨h1, _⟩ | ⟨h1, _⟩
    · exact absurd h1 hne
    · exact h1
  · rcases best_cases h with ⟨_, ⟨a, ea, ha, hs, hv⟩, hle⟩ | ⟨h1, _⟩
    · rcases best_cases hm with ⟨m1, _, mle⟩ | ⟨_, m2⟩
      · obtain ⟨b4, hb4, _, g4⟩ := give_up hf hG fa2
        have r1 := mle a (aok_more k ha) hs
        have r2 := fl1 a ha
        have r3 := hle1 a ha
        have r4 := fl2 a1 (aok_more k fa1)
        have r5 := fl1 b4 hb4
        rw [ea, em1]
        exact ⟨m1, rfl, ha.len, by omega, by omega, r3, f2, by omega, by omega⟩
      · exact absurd hs (m2 a (aok_more k ha))
    · rw [h1] at h0; exact absurd h0 (by decide)
end Go.Sheet
/- The law SheetGrows, walked. -/
namespace Go.Sheet
def Req.loose (r : Req) : Req := ⟨r.name, false, r.wa, r.wn, r.wc, r.ws⟩
theorem loose_rq (rs : List Req) : (rs.map Req.loose).map Req.rq = looseR (rs.map Req.rq) := by
  rw [looseR, List.map_map, List.map_map]; rfl
theorem flat_set {l : List Slot} : ∀ {k : Nat} {s : Slot}, l[k]? = some s → (l.flatMap Slot.cells).set (k * 3 + 2) (.int .i64 (s.p + 1)) = (moreL l k).flatMap Slot.cells := by
  induction l with
  | nil => intro k s h; simp at h
  | cons t l ih =>
    intro k s h
    cases k with
    | zero =>
      simp at h
      subst h
      rw [moreL, List.modify_zero_cons, List.flatMap_cons, List.flatMap_cons]; rfl
    | succ k =>
      have := ih (k := k) (s := s) (by simpa using h)
      rw [moreL, List.modify_succ_cons, List.flatMap_cons, List.flatMap_cons, ← moreL, ← this]
      have e : (k + 1) * 3 + 2 = k * 3 + 2 + 3 := by omega
      rw [e]; rfl
theorem slots_one (l : List Slot) : ∀ u ∈ l.flatMap Slot.cells, u.oneCell' = true := by
  intro u hu
  obtain ⟨x, _, hx⟩ := List.mem_flatMap.1 hu
  simp [Slot.cells] at hx
  rcases hx with rfl | rfl | rfl <;> rfl
theorem servedN_bd : ∀ a : List Int, 0 ≤ servedN a ∧ servedN a ≤ a.length
  | [] => by simp [servedN]
  | s :: a => by have := servedN_bd a; rw [servedN, List.length_cons]; split <;> omega
theorem best_bd {l : List Slot} {rs : List RQ} (h : checkRequests l rs = 0) : 0 ≤ (best l rs).1 ∧ (best l rs).1 ≤ 240000 := by
  have hf := okay_fit (okay_of h)
  rcases solve_spec hf with ⟨a, v, e, h1, h2, h3, h4⟩ | ⟨e, h1⟩
  · have eb : best l rs = (v, 0) := by rw [best, h, e]; rfl
    have := val_bd rs a fun x hx y hy => (hf.mok.ws x hx y hy).2
    have := hf.mok.nr
    rw [eb]
    show 0 ≤ v ∧ v ≤ 240000
    omega
  · have eb : best l rs = (0, 23) := by rw [best, h, e]; rfl
    rw [eb]
    show (0 : Int) ≤ 0 ∧ (0 : Int) ≤ 240000
    omega
theorem most_bd {l : List Slot} {rs : List RQ} (h : checkRequests l rs = 0) : 0 ≤ (most l rs).1 ∧ (most l rs).1 ≤ 24 := by
  have hf := okay_fit (okay_of h)
  obtain ⟨⟨a, ha, e⟩, _⟩ := most_spec hf
  have := servedN_bd a
  have := hf.mok.nr
  have em : most l rs = (mostM l rs, 0) := by rw [most, h]; rfl
  rw [em, ← e]
  have hl := ha.len
  show 0 ≤ servedN a ∧ servedN a ≤ 24
  omega
/-- the greatest weight so far -/
def GrInv (RS : List RQ) (k : Nat) (G : Int) : Prop := (0 ≤ G ∧ G ≤ 10000) ∧ ∀ x ∈ RS.take k, ∀ y ∈ x.ws, y.w ≤ G
end Go.Sheet
namespace Go.Proofs.YtjfhncnpmelopaaGreatDoor
open Go.RowKit Go.Mem Go.Sheet
/-- what stays: the arguments, the copy with a further place -/
structure GEnv (W w : World) (vl vm vr : Value) (nl n : Nat) (l ml : List Slot) (rs : List Req) : Prop where
  bel : Below W.heap.size W w
  l : Rd w (· < w.heap.size) 3 vl nl (l.flatMap Slot.cells)
  m : Rd w (· < w.heap.size) 3 vm nl (ml.flatMap Slot.cells)
  r : RdReqs w (· < w.heap.size) vr n rs
theorem GEnv.later {W w w' : World} {vl vm vr : Value} {nl n : Nat} {l ml : List Slot} {rs : List Req} (h : GEnv W w vl vm vr nl n l ml rs) (hb : Below w.heap.size w w') : GEnv W w' vl vm vr nl n l ml rs :=
  ⟨h.bel.trans (hb.mono h.bel.size), h.l.later hb, h.m.later hb, reqs_later h.r hb⟩
set_option maxRecDepth 100000 in
set_option maxHeartbeats 0 in
theorem sheetGrows_any (W : World) (vl : Value) (nl : Nat) (l : List Slot) (vr : Value) (n : Nat) (rs : List Req) (x : Nat) (hl : Rd W (· < W.heap.size) 3 vl nl (l.flatMap Slot.cells)) (hrl : nl * 24 ≤ 140737488351232)
    (h : RdReqs W (· < W.heap.size) vr n rs) (hrr : n * 48 ≤ 140737488351232) (hrw : ∀ r ∈ rs, r.wn * 16 ≤ 140737488351232) (hx : x ≤ 255) :
    Calls Tryz.prog 4 #[vl, vr, .int .u8 (x : Int)] W fun e w' => e = .returned (.bool true) ∧ Below W.heap.size W w' := by
  have HL := Lib.hid hl
  have HR := Lib.hid h
  have HRW := Lib.hid hrw
  have HNL := Lib.hid (hl.count (f := Slot.cells) (size := 3) (fun _ => rfl) (by decide))
  have HNR := Lib.hid (h.1.count (f := Req.cells) (size := 3) (fun _ => rfl) (by decide))
  have hnl0 := hl.le
  have hn0 := h.1.le
  obtain ⟨Al, cl, rfl, _, _, _⟩ := hl.open_
  obtain ⟨Ar, cr, rfl, _, _, _⟩ := h.1.open_
  generalize HRS : rs.map Req.rq = RS
  have HRS := Lib.hid HRS
  clear hl h hrw
  go_enter Tryz.func4, Tryz.ntmps4
  go_wp2_with fail
  refine (ownSlots_any _ _ nl l HL.out hrl).mono ?_
  rintro e w1 ⟨v1, rfl, S1⟩
  have HS1 := Lib.hid S1
  clear S1
  go_wp2_with fail
  refine (ownRequests_any w1 _ n rs (reqs_later HR.out HS1.out.bel) hrr HRW.out).mono ?_
  rintro e w2 ⟨v2, rs', rfl, he, hnm, S2⟩
  have HO : Hid (Own W w2 v1 v2 nl n l RS) := ⟨HS1.out.bel.trans (S2.bel.mono HS1.out.bel.size), (HS1.out.row_rd (i := 0) rfl).now.later S2.bel, rs', he.trans HRS.out, own_reqs S2 hnm⟩
  obtain ⟨A2, c2, rfl, _, _, _⟩ := (S2.row_rd (i := 0) rfl).open_
  clear HS1 he hnm S2
  go_wp2_with fail
  refine (awake_any w2).mono ?_
  rintro e w3 ⟨rfl, hb3⟩
  have HO3 := Lib.hid (HO.out.later hb3)
  clear HO hb3
  go_wp2_with fail
  refine HO3.out.few20.mono ?_
  rintro e w4 ⟨⟨b, rfl, hE⟩, hb4⟩
  have HO4 := Lib.hid (HO3.out.later hb4)
  clear HO3 hb4
  cases b with
  | false =>
    go_wp2_with fail
    refine (awake_any w4).mono ?_
    rintro e w5 ⟨rfl, hb5⟩
    have hbW := HO4.out.bel.trans (hb5.mono HO4.out.bel.size)
    go_wp2
    go_ret
    exact ⟨rfl, hbW⟩
  | true =>
    have HC := Lib.hid (hE rfl)
    clear hE
    by_cases h0 : nl = 0
    · have h0' : ((nl : Int) == 0) = true := by simp; omega
      clear h0
      go_wp2_with fail
      refine (awake_any w4).mono ?_
      rintro e w5 ⟨rfl, hb5⟩
      have hbW := HO4.out.bel.trans (hb5.mono HO4.out.bel.size)
      go_wp2
      go_ret
      exact ⟨rfl, hbW⟩
    have h0' : ((nl : Int) == 0) = false := by simp; omega
    have hok := okay_of HC.out
    have hnl24 : nl ≤ 24 := by have := hok.nl; have := HNL.out; omega
    have hn24 : n ≤ 24 := by have := hok.nr; rw [← HRS.out, List.length_map] at this; have := HNR.out; omega
    have hk : x % nl < nl := Nat.mod_lt _ (by omega)
    have hkk : (x : Int).tmod (nl : Int) = ((x % nl : Nat) : Int) := rfl
    generalize x % nl = k at *
    obtain ⟨s, hs⟩ : ∃ s, l[k]? = some s := ⟨_, List.getElem?_eq_getElem (by have := HNL.out; omega)⟩
    have hsp := (hok.slot s (List.mem_of_getElem? hs)).2.2.2.2
    have HSK := Lib.hid hs
    have hbW4 := HO4.out.bel
    have S0 := (St.of_below hbW4).row_new (e := 46) (size := 3) (n := 0) #[] (by unfold maxLen; omega) rfl
    simp only [List.nil_append] at S0
    have hl4 := HL.out.later S0.bel
    have HB4 := Lib.hid hbW4
    clear hok hs HO4 hbW4
    go_wp2_with (first
      | (at_builtin
         refine wpList_append_st eltS rfl _ _ rfl rfl S0 (k := 0) rfl rfl hl4 (slots_one l) (by omega) (by omega) ?_
         intro v' w5 S5 _
         obtain ⟨g5, c5, hv, _, _, _, hcc, hfr⟩ := S5.row_form (i := 0) rfl (by omega)
         have hc2 := hcc (k * 3 + 2) (by omega)
         simp only [List.nil_append] at hc2
         rw [flatMap_at (f := Slot.cells) (s := 3) (fun _ _ => rfl) HSK.out (j := 2) rfl] at hc2
         have hf2 := hfr (k * 3 + 2)
         subst hv
         clear hcc hfr))
    · go_ret
      exact ⟨rfl, S5.bel⟩
    have h8 : (s.p == 8) = false := by assumption
    have hp8 : s.p ≠ 8 := by simpa using h8
    simp only [List.nil_append, List.set_cons_zero, Nat.zero_add] at S5
    have S6 := S5.row_set (i := 0) rfl (k * 3 + 2) (.int .i64 (s.p + 1))
    simp only [List.set_cons_zero] at S6
    rw [flat_set HSK.out] at S6
    try simp only [Nat.zero_add]
    have HE6 : Hid (GEnv W (w5.setCell ⟨g5, k * 3 + 2, none⟩ (.int .i64 (s.p + 1))) (.slice Al nl cl) (.slice (some ⟨g5, 0, none⟩) nl c5) (.slice Ar n cr) nl n l (moreL l k) rs) := ⟨S6.bel, HL.out.later S6.bel, (S6.row_rd (i := 0) rfl).now, reqs_later HR.out S6.bel⟩
    have hGall := fun G hG => grows (k := k) (G := G) HC.out (fun t ht => by have := Option.some.inj (ht.symm.trans HSK.out); subst this; omega) hG
    have hCL : checkRequests l (looseR RS) = 0 := by rw [checkRequests_loose]; exact HC.out
    have hW : ∀ y ∈ RS, ∀ z ∈ y.ws, z.w ≤ 10000 := fun y hy z hz => ((okay_of HC.out).wish y hy z hz).2.2
    have hg0 := hGall 10000 ⟨by omega, hW⟩
    have hmb := most_bd HC.out
    have hbb := best_bd hCL
    have HB1 : Hid (∀ w vm ml, GEnv W w (.slice Al nl cl) vm (.slice Ar n cr) nl n l ml rs → Calls Tryz.prog 16 #[.slice Al nl cl, .slice Ar n cr] w fun e w' => e = .returned (.tuple #[.int .i64 (best l RS).1, .int .i64 (best l RS).2]) ∧ Below w.heap.size w w') :=
      fun w vm ml h => by have := best_any w _ _ nl n l rs h.l h.r; rw [HRS.out] at this; exact this
    have HB2 : Hid (∀ w vm ml, GEnv W w (.slice Al nl cl) vm (.slice Ar n cr) nl n l ml rs → Calls Tryz.prog 16 #[vm, .slice Ar n cr] w fun e w' => e = .returned (.tuple #[.int .i64 (best ml RS).1, .int .i64 (best ml RS).2]) ∧ Below w.heap.size w w') :=
      fun w vm ml h => by have := best_any w _ _ nl n ml rs h.m h.r; rw [HRS.out] at this; exact this
    have HM1 : Hid (∀ w vm ml, GEnv W w (.slice Al nl cl) vm (.slice Ar n cr) nl n l ml rs → Calls Tryz.prog 19 #[.slice Al nl cl, .slice Ar n cr] w fun e w' => e = .returned (.tuple #[.int .i64 (most l RS).1, .int .i64 (most l RS).2]) ∧ Below w.heap.size w w') :=
      fun w vm ml h => by have := most_any w _ _ nl n l rs h.l h.r; rw [HRS.out] at this; exact this
    have HM2 : Hid (∀ w vm ml, GEnv W w (.slice Al nl cl) vm (.slice Ar n cr) nl n l ml rs → Calls Tryz.prog 19 #[vm, .slice Ar n cr] w fun e w' => e = .returned (.tuple #[.int .i64 (most ml RS).1, .int .i64 (most ml RS).2]) ∧ Below w.heap.size w w') :=
      fun w vm ml h => by have := most_any w _ _ nl n ml rs h.m h.r; rw [HRS.out] at this; exact this
    have HB3 : Hid (∀ w vm vz ml, GEnv W w (.slice Al nl cl) vm (.slice Ar n cr) nl n l ml rs → RdReqs w (· < w.heap.size) vz n (rs.map Req.loose) → Calls Tryz.prog 16 #[.slice Al nl cl, vz] w fun e w' => e = .returned (.tuple #[.int .i64 (best l (looseR RS)).1, .int .i64 (best l (looseR RS)).2]) ∧ Below w.heap.size w w') :=
      fun w vm vz ml h hz => by have := best_any w _ _ nl n l (rs.map Req.loose) h.l hz; rw [loose_rq, HRS.out] at this; exact this
    have HB4' : Hid (∀ w vm vz ml, GEnv W w (.slice Al nl cl) vm (.slice Ar n cr) nl n l ml rs → RdReqs w (· < w.heap.size) vz n (rs.map Req.loose) → Calls Tryz.prog 16 #[vm, vz] w fun e w' => e = .returned (.tuple #[.int .i64 (best ml (looseR RS)).1, .int .i64 (best ml (looseR RS)).2]) ∧ Below w.heap.size w w') :=
      fun w vm vz ml h hz => by have := best_any w _ _ nl n ml (rs.map Req.loose) h.m hz; rw [loose_rq, HRS.out] at this; exact this
    have HAS : Hid (∀ w vm ml, GEnv W w (.slice Al nl cl) vm (.slice Ar n cr) nl n l ml rs → Calls Tryz.prog 17 #[.slice Al nl cl, .slice Ar n cr] w (RetInts w (assign l RS))) :=
      fun w vm ml h => by have := assign_any w _ _ nl n l rs h.l h.r; rw [HRS.out] at this; exact this
    have HRSN : Hid (RS.length = n) := by show _ = _; rw [← HRS.out, List.length_map]; exact HNR.out.symm
    have HWW := Lib.hid hW
    replace HB2 := Lib.hid (fun w vm h => HB2.out w vm (moreL l k) h)
    replace HM2 := Lib.hid (fun w vm h => HM2.out w vm (moreL l k) h)
    replace HB4' := Lib.hid (fun w vm vz h hz => HB4'.out w vm vz (moreL l k) h hz)
    generalize w5.setCell ⟨g5, k * 3 + 2, none⟩ (.int .i64 (s.p + 1)) = w6 at HE6 ⊢
    generalize best l RS = b1 at *
    generalize most l RS = m1 at *
    generalize best l (looseR RS) = b3 at *
    generalize assign l RS = asg at *
    generalize moreL l k = ml at *
    generalize best ml RS = b2 at *
    generalize most ml RS = m2 at *
    generalize best ml (looseR RS) = b4 at *
    have HGR := Lib.hid hGall
    obtain ⟨b11, b12⟩ := b1
    obtain ⟨b21, b22⟩ := b2
    obtain ⟨b31, b32⟩ := b3
    obtain ⟨b41, b42⟩ := b4
    obtain ⟨m11, m12⟩ := m1
    obtain ⟨m21, m22⟩ := m2
    obtain ⟨a1, a2⟩ := asg
    dsimp only at *
    obtain ⟨⟨z1, z2, z3, z4, z5⟩, z6, z7⟩ := hg0
    subst z1 z2 z3
    have HZ6 := Lib.hid z6
    have HZ7 := Lib.hid z7
    clear S5 S6 S0 hl4 hc2 hf2 h8 hp8 HSK hsp hkk HL HR HB4 hGall hCL hW z6 z7 hk HNL h0
    refine (HB1.out w6 _ _ HE6.out).mono ?_
    rintro e w7 ⟨rfl, hb7⟩
    have HE7 := Lib.hid (HE6.out.later hb7)
    clear HE6 hb7 HB1
    go_wp2_with fail
    refine (HB2.out w7 _ HE7.out).mono ?_
    rintro e w8 ⟨rfl, hb8⟩
    have HE8 := Lib.hid (HE7.out.later hb8)
    clear HE7 hb8 HB2
    go_wp2_with fail
    refine (HM1.out w8 _ _ HE8.out).mono ?_
    rintro e w9 ⟨rfl, hb9⟩
    have HE9 := Lib.hid (HE8.out.later hb9)
    clear HE8 hb9 HM1
    go_wp2_with fail
    refine (HM2.out w9 _ HE9.out).mono ?_
    rintro e w10 ⟨rfl, hb10⟩
    have HE10 := Lib.hid (HE9.out.later hb10)
    clear HE9 hb10 HM2
    have SL0 : St w10 w10 [row 49 3 (.slice none 0 0) 0 (((rs.take 0).map Req.loose).flatMap Req.cells)] := (St.refl w10).row_nil 49 3
    go_wp2_with fail
    go_loopw [21, 19, 20] (fun i vz vg w' => ∃ (m : Nat) (G : Int), m ≤ n ∧ i = .int .i64 m ∧ vg = .int .i64 G ∧ Hid (GrInv RS m G) ∧ St w10 w' [row 49 3 vz m (((rs.take m).map Req.loose).flatMap Req.cells)]) (fun i _ _ _ => n - (intOf i).toNat)
    case atStart => exact ⟨0, 0, Nat.zero_le _, rfl, rfl, ⟨by omega, fun y hy => by simp at hy⟩, SL0⟩
    case round =>
      obtain ⟨m, G, hm, rfl, rfl, HG, S⟩ := hrel
      clear SL0
      by_cases hlt : m < n
      · obtain ⟨b, o, xr, hA, hxr, c0, c1, c2⟩ := ((HE10.out.later S.bel).r.1).elem3 (k := m) (fun s : Req => .string s.name) (fun s : Req => .bool s.g) (fun s : Req => .slice s.wa s.wn s.wc) (fun _ => rfl) hlt
        subst hA
        have HXR := Lib.hid hxr
        have hws := (HE10.out.r.2 xr (List.mem_of_getElem? hxr)).1
        obtain ⟨name, g, wa, wn, wc, ws⟩ := xr
        change Rd w10 (· < w10.heap.size) 2 (.slice wa wn wc) wn (ws.flatMap Wish.cells) at hws
        have HWS := Lib.hid hws
        have hwn := hws.le
        simp only at c0 c1 c2
        clear hxr hws
        have SZ := S.blk_new #[.string name, .bool false, .slice wa wn wc] 49
        simp only [List.cons_append, List.nil_append] at SZ
        have HGZ : Hid (wr.heap.size = wr.heap.size) := rfl
        go_wp2_with (at_builtin; refine wpList_append_st eltR rfl _ _ rfl rfl (SZ.alloc _) (k := 0) rfl rfl (rd_one3 (by simp)) (by simp [Value.oneCell']) (by omega) (by omega) ?_; intro v' w11 S' _; have z2 := S'.blk_cell (i := 1) rfl 2)
        simp only [List.set_cons_zero] at S'
        have HS' := Lib.hid S'
        clear SZ S S' c0 c1 c2
        have HRSM : Hid (RS[m]? = some (Req.rq ⟨name, g, wa, wn, wc, ws⟩)) := by show _ = _; rw [← HRS.out, List.getElem?_map, HXR.out]; rfl
        generalize wr.heap.size = gz at *
        go_loop [23, 20] (fun jj vg => ∃ (j : Nat) (G' : Int), j ≤ wn ∧ jj = .int .i64 j ∧ vg = .int .i64 G' ∧ Hid (GrInv RS m G' ∧ ∀ y ∈ ws.take j, y.w ≤ G')) (fun jj _ => wn - (intOf jj).toNat)
        case atStart => exact ⟨0, G, Nat.zero_le _, rfl, rfl, HG.out, fun y hy => by simp at hy⟩
        case round =>
          obtain ⟨j, G', hj, rfl, rfl, HG'⟩ := hrel
          by_cases hjl : j < wn
          · obtain ⟨b3, o3, y, hA3, hy, d0, d1⟩ := (HWS.out.later HS'.out.bel).elem2 (k := j) (fun s : Wish => .int .i64 s.s) (fun s : Wish => .int .i64 s.w) (fun _ => rfl) hjl
            subst hA3
            obtain ⟨G2, hG2⟩ : ∃ G2, max G' y.w = G2 := ⟨_, rfl⟩
            have hyw := HWW.out _ (List.mem_of_getElem? HRSM.out) y (List.mem_of_getElem? hy)
            have HN : Hid (GrInv RS m G2 ∧ ∀ z ∈ ws.take (j + 1), z.w ≤ G2) := by
              obtain ⟨⟨⟨q1, q2⟩, q3⟩, q4⟩ := HG'.out
              have hle : G' ≤ G2 ∧ y.w ≤ G2 ∧ G2 ≤ 10000 := by omega
              refine ⟨⟨⟨by omega, by omega⟩, fun z hz t ht => Int.le_trans (q3 z hz t ht) hle.1⟩, fun z hz => ?_⟩
              rw [take_at hy] at hz
              rcases List.mem_append.1 hz with hz | hz
              · exact Int.le_trans (q4 z hz) hle.1
              · obtain rfl := List.mem_singleton.1 hz; exact hle.2.1
            clear hy hyw HG'
            go_wp2
            go_round
            case rel => exact ⟨j + 1, G2, by omega, by go_num, by first | rfl | rw [hG2], HN.out⟩
            case measure => simp [intOf]; omega
          · have hjn : decide ((j : Int) < wn) = false := by simp; omega
            have HN : Hid (GrInv RS (m + 1) G') := by
              obtain ⟨⟨q1, q2⟩, q3⟩ := HG'.out
              refine ⟨q1, fun z hz t ht => ?_⟩
              rw [take_at HRSM.out] at hz
              rcases List.mem_append.1 hz with hz | hz
              · exact q2 z hz t ht
              · obtain rfl := List.mem_singleton.1 hz
                refine q3 t ?_
                rw [List.take_of_length_le]
                · exact ht
                · have := HWS.out.count (f := Wish.cells) (size := 2) (fun _ => rfl) (by decide)
                  omega
            have HS2 : Hid (St w10 w11 [row 49 3 v' (m + 1) (((rs.take (m + 1)).map Req.loose).flatMap Req.cells)]) := by
              have := HS'.out.sub (L' := [row 49 3 v' (m + 1) (((rs.take m).map Req.loose).flatMap Req.cells ++ [.string name, .bool false, .slice wa wn wc])]) (List.sublist_append_left [_] [_])
              rw [take_at HXR.out, List.map_append, List.flatMap_append]
              exact this
            clear HG'
            go_wp2
            go_roundw
            case rel => exact ⟨m + 1, G', by omega, by go_num, rfl, HN.out, HS2.out⟩
            case measure => simp [intOf]; omega
      · have hmn : decide ((m : Int) < n) = false := by simp; omega
        obtain rfl : m = n := by omega
        have hz : RdReqs wr (· < wr.heap.size) u19 m (rs.map Req.loose) := by
          have h1 := (S.row_rd (i := 0) rfl).now
          rw [List.take_of_length_le (by have := HNR.out; omega)] at h1
          refine ⟨h1, fun r hr => ?_⟩
          obtain ⟨q, hq, rfl⟩ := List.mem_map.1 hr
          have := (HE10.out.later S.bel).r.2 q hq
          exact this
        have HE11 := Lib.hid (HE10.out.later S.bel)
        have HZ := Lib.hid hz
        have HG2 : Hid (0 ≤ G ∧ G ≤ 10000 ∧ ∀ y ∈ RS, ∀ z ∈ y.ws, z.w ≤ G) := by
          obtain ⟨⟨q1, q2⟩, q3⟩ := HG.out
          rw [List.take_of_length_le (by rw [HRSN.out]; exact Nat.le_refl _)] at q3
          exact ⟨q1, q2, q3⟩
        clear hz S HG HE10
        obtain ⟨⟨_, _, _, y4, y5⟩, _, y7⟩ := HGR.out G ⟨HG2.out.1, HG2.out.2.2⟩
        have HY7 := Lib.hid y7
        clear y7
        have hG10 : 0 ≤ G ∧ G ≤ 10000 := ⟨HG2.out.1, HG2.out.2.1⟩
        have ty4 : decide (m21 < m11) = false := by simp; omega
        have ty5 : decide (m11 + 1 < m21) = false := by simp; omega
        clear HGR HG2 y4 y5
        go_wp2_with fail
        refine (HB3.out wr _ _ _ HE11.out HZ.out).mono ?_
        rintro e w12 ⟨rfl, hb12⟩
        have HE12 := Lib.hid (HE11.out.later hb12)
        have HZ12 := Lib.hid (reqs_later HZ.out hb12)
        clear HE11 HZ hb12 HB3
        by_cases hb1 : b12 = 0
        case neg =>
          have hb1' : (b12 != 0) = true := by simpa using hb1
          have h23 : (b12 == 23) = true := by simpa using HZ6.out hb1
          have hbW := HE12.out.bel
          clear hb1
          go_wp2
          go_ret
          exact ⟨rfl, hbW⟩
        case pos =>
          obtain ⟨q1, q2, q3, q4, q5, q6, q7, q8, q9⟩ := HY7.out hb1
          subst hb1 q1 q2 q7
          have HA2 := Lib.hid q6
          have HA1 := Lib.hid q3
          have t4 : decide (b21 < b11) = false := by simp; omega
          have t5 : decide (b31 < b11) = false := by simp; omega
          have t8 : decide (b31 ≤ b41) = true := by simp; omega
          have t9 : decide (b41 ≤ b31 + G) = true := by simp; omega
          have hbq : b41 ≤ b31 + G := q9
          clear HY7 HZ6 HZ7 q3 q4 q5 q6 q8 q9
          go_wp2_with fail
          refine (HAS.out w12 _ _ HE12.out).mono ?_
          rintro e w13 ⟨v13, rfl, S13⟩
          have hb13 := S13.bel
          have HE13 := Lib.hid (HE12.out.later hb13)
          have HZ13 := Lib.hid (reqs_later HZ12.out hb13)
          have ha := (S13.row_rd (i := 0) rfl).now
          dsimp only at ha
          have hAl : a1.length = m := by rw [HA1.out]; exact HRSN.out
          rw [hAl] at ha
          obtain ⟨Aa, ca, rfl, _, _, _⟩ := ha.open_
          have HAA := Lib.hid ha
          have HAL := Lib.hid hAl
          clear HE12 HZ12 hb13 S13 HAS ha
          try dsimp only [hAl]
          try simp only [hAl]
          clear hAl
          go_wp2_with fail
          go_loop [29, 28] (fun i vs => ∃ j : Nat, j ≤ m ∧ i = .int .i64 j ∧ vs = .int .i64 (servedN (a1.take j))) (fun i _ => m - (intOf i).toNat)
          case atStart => exact ⟨0, Nat.zero_le _, rfl, by simp [servedN]⟩
          case round =>
            obtain ⟨j, hj, rfl, rfl⟩ := hrel
            by_cases hjl : j < m
            · obtain ⟨ba, oa, z, hAz, hz, cz⟩ := HAA.out.int (k := j) hjl
              subst hAz
              have HST : Hid (servedN (a1.take (j + 1)) = servedN (a1.take j) + if 0 ≤ z then 1 else 0) := by show _ = _; rw [take_at hz, servedN_snoc]
              have hsb := servedN_bd (a1.take j)
              rw [List.length_take] at hsb
              have hsb' : 0 ≤ servedN (a1.take j) ∧ servedN (a1.take j) ≤ 24 := by omega
              generalize servedN (a1.take j) = sv at *
              clear hz hsb
              by_cases hz0 : 0 ≤ z
              · have tz : decide (0 ≤ z) = true := by simpa using hz0
                have HST2 : Hid (servedN (a1.take (j + 1)) = sv + 1) := by have := HST.out; rw [if_pos hz0] at this; exact this
                clear HST hz0
                go_wp2
                go_round
                case rel => exact ⟨j + 1, by omega, by go_num, by rw [HST2.out]⟩
                case measure => simp [intOf]; omega
              · have tz : decide (0 ≤ z) = false := by simpa using hz0
                have HST2 : Hid (servedN (a1.take (j + 1)) = sv) := by have := HST.out; rw [if_neg hz0, Int.add_zero] at this; exact this
                clear HST hz0
                go_wp2
                go_round
                case rel => exact ⟨j + 1, by omega, by go_num, by rw [HST2.out]⟩
                case measure => simp [intOf]; omega
            · have hjn : decide ((j : Int) < m) = false := by simp; omega
              have hsv : servedN (a1.take j) ≤ m11 := by rw [List.take_of_length_le (by rw [HAL.out]; omega)]; exact HA2.out
              generalize servedN (a1.take j) = sv at *
              have ts : decide (sv ≤ m11) = true := by simpa using hsv
              go_wp2_with fail
              refine (HB4'.out w13 _ _ HE13.out HZ13.out).mono ?_
              rintro e w14 ⟨rfl, hb14⟩
              have hbW := HE13.out.bel.trans (hb14.mono HE13.out.bel.size)
              clear hsv hbq
              go_wp2
              go_ret
              exact ⟨rfl, hbW⟩
end Go.Proofs.YtjfhncnpmelopaaGreatDoor
