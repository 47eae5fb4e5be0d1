/- TopDivotCut, plain: a cut line, ranks, and who qualifies. -/
import Derived.Test.YtkkkfjinflepmaaGreatDoorB45
import Derived.Test.YtkkkfjinflepmaaGreatDoorB40
import Derived.Test.YtkkkfjinflepmaaGreatDoorB08
import Derived.BigQuiet
import Derived.RangeFuncBox
import Derived.RangeFuncLeaves
import Derived.Shelf.Abstract
import Derived.WalkKit
import Derived.OwnWalkIn
import Derived.TacticsInMore
import Derived.LoopNIn
import Derived.LoopIn
import Derived.Maps.AppendAt
import Derived.Test.YtkkkfjinflepmaaGreatDoorB31
set_option linter.unusedVariables false
set_option linter.unusedSimpArgs false
set_option linter.unusedSectionVars false
set_option linter.constructorNameAsVariable false
namespace Go.Proofs.YtkkkfjinflepmaaGreatDoor
open Go.RowKit Go.Mem Go.Sheet Go.Adj
theorem cN_pre {P : Nat → Bool} : ∀ {n a : Nat}, a < n → (∀ x, x ≤ a → P x = true) → a + 1 ≤ cN P n
  | n + 1, a, h, hp => by
    unfold cN
    rcases Nat.lt_or_ge a n with h1 | h1
    · have := cN_pre h1 hp; split <;> omega
    · obtain rfl : a = n := by omega
      rw [hp a (Nat.le_refl _)]
      cases a with
      | zero => simp
      | succ a => have := cN_pre (n := a + 1) (a := a) (by omega) (fun x hx => hp x (by omega)); simp; omega
theorem cN_post {P : Nat → Bool} {a : Nat} : ∀ {n : Nat}, (∀ x, a ≤ x → x < n → P x = false) → cN P n ≤ a
  | 0, _ => Nat.zero_le _
  | n + 1, hp => by
    unfold cN
    rcases Nat.lt_or_ge n a with h1 | h1
    · have := cN_le P n; split <;> omega
    · rw [hp n h1 (by omega)]
      have := cN_post (n := n) (fun x h h2 => hp x h (by omega))
      simp; exact this
theorem cN_orU {P Q R : Nat → Bool} : ∀ {n}, (∀ i, i < n → R i = (P i || Q i)) → (∀ i, i < n → (P i && Q i) = false) → cN R n = cN P n + cN Q n
  | 0, _, _ => rfl
  | n + 1, h, hd => by
    have ih := cN_orU (n := n) (fun i hi => h i (by omega)) (fun i hi => hd i (by omega))
    have h1 := h n (by omega)
    have h2 := hd n (by omega)
    unfold cN
    rw [ih, h1]
    cases hp : P n <;> cases hq : Q n <;> simp [hp, hq] at h2 ⊢ <;> omega
/-- in order -/
def Ord0 (Y : Nat → Int) (n : Nat) : Prop := ∀ a b, a < b → b < n → Y a ≤ Y b
/-- the same numbers, counted from below -/
def Cnt0 (f Y : Nat → Int) (n : Nat) : Prop := ∀ x : Int, cN (fun i => decide (Y i < x)) n = cN (fun i => decide (f i < x)) n
theorem ord_lt {Y : Nat → Int} {n a : Nat} {x : Int} (h : Ord0 Y n) (ha : a < n) : Y a < x ↔ a < cN (fun i => decide (Y i < x)) n := by
  constructor
  · intro hl
    have := cN_pre (P := fun i => decide (Y i < x)) ha (fun i hi => decide_eq_true (by
      rcases Nat.lt_or_ge i a with h1 | h1
      · have := h i a h1 ha; omega
      · rw [show i = a by omega]; exact hl))
    omega
  · intro hc
    rcases Int.lt_or_le (Y a) x with h1 | h1
    · exact h1
    · have := cN_post (P := fun i => decide (Y i < x)) (a := a) (n := n) (fun i h2 h3 => decide_eq_false (by
        rcases Nat.lt_or_ge a i with h4 | h4
        · have := h a i h4 h3; omega
        · rw [show i = a by omega]; omega))
      omega
def rk0 (f : Nat → Int) (n i : Nat) : Nat := 1 + cN (fun j => decide (f j < f i)) n
theorem rk0_le {f : Nat → Int} {n i : Nat} (hi : i < n) : rk0 f n i ≤ n := by
  have : cN (fun j => decide (f j < f i)) n < cN (fun _ => true) n := cN_lt (x := i) (fun _ _ _ => rfl) hi (decide_eq_false (by omega)) rfl
  have h2 := cN_le (fun _ => true) n
  unfold rk0; omega
/-- who is not behind the cut line has a rank of at most k -/
theorem cut_rank {f Y : Nat → Int} {n k i : Nat} (ho : Ord0 Y n) (hc : Cnt0 f Y n) (hk : 1 ≤ k) (hi : i < n) : f i ≤ Y (min k n - 1) ↔ rk0 f n i ≤ k := by
  have hn : min k n - 1 < n := by omega
  have h1 := ord_lt (x := f i) ho hn
  rw [hc] at h1
  have h2 := rk0_le (f := f) hi
  unfold rk0 at *
  omega
/-- who qualifies, and who is tied -/
def inQ (f Y : Nat → Int) (n k i : Nat) : Bool := if n ≤ k then true else decide (f i < Y k)
def cQ (f Y : Nat → Int) (n k : Nat) : Nat := cN (fun i => decide (f i < Y k)) n
def tiQ (f Y : Nat → Int) (n k i : Nat) : Bool := if n ≤ k then false else if cQ f Y n k = k then false else f i == Y k
def leftQ (f Y : Nat → Int) (n k : Nat) : Nat := if n ≤ k then 0 else if cQ f Y n k = k then 0 else k - cQ f Y n k
theorem cQ_le {f Y : Nat → Int} {n k : Nat} (ho : Ord0 Y n) (hc : Cnt0 f Y n) (hk : k < n) : cQ f Y n k ≤ k := by
  have h1 := ord_lt (x := Y k) ho hk
  rw [hc] at h1
  unfold cQ
  omega
theorem cut_in {f Y : Nat → Int} {n k i : Nat} (ho : Ord0 Y n) (hc : Cnt0 f Y n) (hk : 1 ≤ k) (hi : i < n) : decide (f i ≤ Y (min k n - 1)) = (inQ f Y n k i || tiQ f Y n k i) := by
  have hr := cut_rank ho hc hk hi
  have h2 := rk0_le (f := f) hi
  unfold inQ tiQ
  by_cases hnk : n ≤ k
  · rw [if_pos hnk, if_pos hnk, Bool.or_false]
    exact decide_eq_true (hr.2 (by omega))
  · rw [if_neg hnk, if_neg hnk]
    have hm : min k n - 1 = k - 1 := by omega
    rw [hm] at hr ⊢
    have hcl := cQ_le ho hc (show k < n by omega)
    have h3 := ord_lt (x := Y k) ho (a := k - 1) (by omega)
    rw [hc] at h3
    have h4 := ho (k - 1) k (by omega) (by omega)
    by_cases hck : cQ f Y n k = k
    · rw [if_pos hck, Bool.or_false]
      unfold cQ at hck
      have h5 : Y (k - 1) < Y k := h3.2 (by omega)
      by_cases hlt : f i < Y k
      · rw [decide_eq_true hlt]
        refine decide_eq_true (hr.2 ?_)
        have h6 : cN (fun j => decide (f j < f i)) n < cN (fun j => decide (f j < Y k)) n := cN_lt (x := i) (fun j _ h => decide_eq_true (by have := of_decide_eq_true h; omega)) hi (decide_eq_false (by omega)) (decide_eq_true hlt)
        unfold rk0; omega
      · rw [decide_eq_false hlt]
        exact decide_eq_false (by omega)
    · rw [if_neg hck]
      unfold cQ at hck hcl
      have h5 : Y (k - 1) = Y k := by
        have : ¬ Y (k - 1) < Y k := fun h => by have := h3.1 h; omega
        omega
      rw [h5]
      rcases Int.lt_trichotomy (f i) (Y k) with h | h | h
      · rw [decide_eq_true h, decide_eq_true (show f i ≤ Y k by omega)]; rfl
      · rw [decide_eq_false (show ¬ f i < Y k by omega), decide_eq_true (show f i ≤ Y k by omega), h]; simp
      · rw [decide_eq_false (show ¬ f i < Y k by omega), decide_eq_false (show ¬ f i ≤ Y k by omega)]
        have : f i ≠ Y k := by omega
        simp [this]
theorem inQ_tiQ (f Y : Nat → Int) (n k i : Nat) : (inQ f Y n k i && tiQ f Y n k i) = false := by
  unfold inQ tiQ
  split
  · rfl
  · split
    · simp
    · by_cases h : f i < Y k
      · have : f i ≠ Y k := by omega
        simp [this]
      · simp [h]
/-- the numbers of them -/
theorem cut_count {f Y : Nat → Int} {n k : Nat} (ho : Ord0 Y n) (hc : Cnt0 f Y n) (hk : 1 ≤ k) :
    cN (fun i => decide (f i ≤ Y (min k n - 1))) n = cN (inQ f Y n k) n + cN (tiQ f Y n k) n ∧ (cN (tiQ f Y n k) n = 0 ↔ leftQ f Y n k = 0) ∧ cN (inQ f Y n k) n + leftQ f Y n k ≤ (if n ≤ k then n else k) ∧
      (cN (tiQ f Y n k) n = 0 ∨ cN (inQ f Y n k) n + leftQ f Y n k = k ∧ leftQ f Y n k < cN (tiQ f Y n k) n) := by
  refine ⟨cN_orU (fun i hi => cut_in ho hc hk hi) (fun i _ => inQ_tiQ f Y n k i), ?_⟩
  have hfalse : ∀ n, cN (fun _ => false) n = 0 := fun n => by
    induction n with
    | zero => rfl
    | succ n ih => unfold cN; rw [ih]; rfl
  have hin : ∀ i, inQ f Y n k i = if n ≤ k then true else decide (f i < Y k) := fun _ => rfl
  by_cases hnk : n ≤ k
  · have e1 : cN (tiQ f Y n k) n = 0 := by
      rw [cN_congr (Q := fun _ => false) (fun i _ => by unfold tiQ; rw [if_pos hnk])]; exact hfalse n
    have e2 : leftQ f Y n k = 0 := by unfold leftQ; rw [if_pos hnk]
    rw [e1, e2, if_pos hnk]
    have := cN_le (inQ f Y n k) n
    exact ⟨by omega, by omega, .inl rfl⟩
  · have e0 : cN (inQ f Y n k) n = cQ f Y n k := cN_congr fun i _ => by rw [hin, if_neg hnk]
    have hcl := cQ_le ho hc (show k < n by omega)
    rw [e0, if_neg hnk]
    by_cases hck : cQ f Y n k = k
    · have e1 : cN (tiQ f Y n k) n = 0 := by
        rw [cN_congr (Q := fun _ => false) (fun i _ => by unfold tiQ; rw [if_neg hnk, if_pos hck])]; exact hfalse n
      have e2 : leftQ f Y n k = 0 := by unfold leftQ; rw [if_neg hnk, if_pos hck]
      rw [e1, e2]
      exact ⟨by omega, by omega, .inl rfl⟩
    · have e2 : leftQ f Y n k = k - cQ f Y n k := by unfold leftQ; rw [if_neg hnk, if_neg hck]
      have e1 : cN (tiQ f Y n k) n = cN (fun i => f i == Y k) n := cN_congr fun i _ => by unfold tiQ; rw [if_neg hnk, if_neg hck]
      have e3 : cN (fun i => decide (f i < Y k + 1)) n = cN (fun i => decide (f i < Y k)) n + cN (fun i => f i == Y k) n := cN_orU (fun i _ => by
        rcases Int.lt_trichotomy (f i) (Y k) with h | h | h
        · rw [decide_eq_true h, decide_eq_true (show f i < Y k + 1 by omega)]; rfl
        · rw [decide_eq_false (show ¬ f i < Y k by omega), decide_eq_true (show f i < Y k + 1 by omega), h]; simp
        · rw [decide_eq_false (show ¬ f i < Y k by omega), decide_eq_false (show ¬ f i < Y k + 1 by omega)]
          have : f i ≠ Y k := by omega
          simp [this]) (fun i _ => by
        by_cases h : f i < Y k
        · have : f i ≠ Y k := by omega
          simp [this]
        · simp [h])
      have h1 := (ord_lt (x := Y k + 1) ho (show k < n by omega)).1 (by omega)
      rw [hc, e3, ← e1] at h1
      unfold cQ at *
      rw [e2]
      refine ⟨by omega, by omega, .inr ⟨by omega, by omega⟩⟩
end Go.Proofs.YtkkkfjinflepmaaGreatDoor
/- TopDivotCut: the library's sort of a short list of numbers. -/
namespace Go.Proofs.YtkkkfjinflepmaaGreatDoor
open Go.RowKit Go.Mem Go.Sheet Go.Adj
/-- in order up to i, but for the one at j, which is below all behind it -/
def Srt (Y : Nat → Int) (i j : Nat) : Prop := ∀ a b, a < b → b ≤ i → b ≠ j → Y a ≤ Y b
def swp (Y : Nat → Int) (j : Nat) : Nat → Int := fun a => if a = j then Y (j - 1) else if a + 1 = j then Y j else Y a
theorem Srt.swap {Y : Nat → Int} {i j : Nat} (h : Srt Y i j) (hj : 1 ≤ j) (hji : j ≤ i) (hl : Y j < Y (j - 1)) : Srt (swp Y j) i (j - 1) := by
  intro a b hab hbi hbj
  unfold swp
  by_cases e : b = j
  · subst e
    rw [if_pos rfl, if_neg (by omega : ¬ a = b)]
    by_cases e2 : a + 1 = b
    · rw [if_pos e2]; omega
    · rw [if_neg e2]; exact h a (b - 1) (by omega) (by omega) (by omega)
  · rw [if_neg e, if_neg (by omega : ¬ b + 1 = j)]
    by_cases e2 : a = j
    · rw [if_pos e2]; exact h (j - 1) b (by omega) hbi e
    · rw [if_neg e2]
      by_cases e3 : a + 1 = j
      · rw [if_pos e3]; exact h j b (by omega) hbi e
      · rw [if_neg e3]; exact h a b hab hbi e
theorem Srt.done {Y : Nat → Int} {i j : Nat} (h : Srt Y i j) (hl : j = 0 ∨ ¬ Y j < Y (j - 1)) : ∀ a b, a < b → b ≤ i → Y a ≤ Y b := by
  intro a b hab hbi
  by_cases e : b = j
  · subst e
    rcases hl with hl | hl
    · omega
    · by_cases e2 : a = b - 1
      · subst e2; omega
      · have := h a (b - 1) (by omega) (by omega) (by omega)
        omega
  · exact h a b hab hbi e
theorem gl_swp (Y : Nat → Int) {q j : Nat} (hj : 1 ≤ j) (hq : j < q) : ((intsI (gl Y q)).set j (.int .i64 (Y (j - 1)))).set (j - 1) (.int .i64 (Y j)) = intsI (gl (swp Y j) q) := by
  apply List.ext_getElem?
  intro a
  unfold intsI gl swp
  simp only [List.getElem?_set, List.getElem?_map, List.length_set, List.length_map, List.length_range]
  by_cases h1 : j - 1 = a
  · have h2 : ¬ a = j := by omega
    have h3 : a + 1 = j := by omega
    rw [if_pos h1, if_pos (by omega), List.getElem?_range (by omega)]
    simp only [Option.map_some, if_neg h2, if_pos h3]
  · rw [if_neg h1]
    by_cases h2 : j = a
    · rw [if_pos h2, if_pos hq, ← h2, List.getElem?_range (by omega)]
      simp
    · rw [if_neg h2]
      by_cases h3 : a < q
      · rw [List.getElem?_range h3]
        simp only [Option.map_some]
        rw [if_neg (by omega), if_neg (by omega)]
      · rw [List.getElem?_eq_none (by simp; omega)]
        rfl
theorem cN_swp (Y : Nat → Int) (x : Int) {j : Nat} (hj : 1 ≤ j) : ∀ q, cN (fun i => decide (swp Y j i < x)) q + (if q = j then (if Y (j - 1) < x then 1 else 0) else 0) = cN (fun i => decide (Y i < x)) q + (if q = j then (if Y j < x then 1 else 0) else 0)
  | 0 => by rw [if_neg (by omega), if_neg (by omega)]; rfl
  | q + 1 => by
    have ih := cN_swp Y x hj q
    unfold cN
    by_cases h1 : q + 1 = j
    · have e : swp Y j q = Y j := by unfold swp; rw [if_neg (by omega), if_pos h1]
      rw [e, if_pos h1, if_pos h1]
      rw [if_neg (by omega), if_neg (by omega)] at ih
      have e2 : Y (j - 1) = Y q := by rw [show j - 1 = q by omega]
      rw [e2]
      simp only [decide_eq_true_eq]
      omega
    · rw [if_neg h1, if_neg h1]
      by_cases h2 : q = j
      · have e : swp Y j q = Y (j - 1) := by unfold swp; rw [if_pos h2]
        rw [e]
        rw [if_pos h2, if_pos h2] at ih
        rw [h2] at ih ⊢
        simp only [decide_eq_true_eq]
        omega
      · have e : swp Y j q = Y q := by unfold swp; rw [if_neg h2, if_neg h1]
        rw [e]
        rw [if_neg h2, if_neg h2] at ih
        omega
theorem Cnt0.swap {f Y : Nat → Int} {q j : Nat} (h : Cnt0 f Y q) (hj : 1 ≤ j) (hq : j < q) : Cnt0 f (swp Y j) q := fun x => by
  have := cN_swp Y x hj q
  rw [if_neg (by omega), if_neg (by omega)] at this
  rw [← h x]; omega
theorem nan_any (x : Int) (w : World) : Calls Tryz.prog 104 #[.int .i64 x] w fun e w' => e = .returned (.bool false) ∧ w = w' := by
  have h : (x != x) = false := by simp
  go_enter Tryz.func104, Tryz.ntmps104
  go_wp2
  go_ret
  exact ⟨rfl, rfl⟩
theorem less_any (x y : Int) (w : World) : Calls Tryz.prog 147 #[.int .i64 x, .int .i64 y] w fun e w' => e = .returned (.bool (decide (x < y))) ∧ w = w' := by
  go_enter Tryz.func147, Tryz.ntmps147
  go_wp2_with (go_at_call 104; refine (nan_any _ _).mono ?_; rintro e w' ⟨rfl, rfl⟩)
  go_ret
  exact ⟨rfl, rfl⟩
set_option maxRecDepth 100000 in
set_option maxHeartbeats 4000000 in
theorem insOrd_any (W w : World) (L : List Asr) (k0 g c q : Nat) (f Y : Nat → Int) (hq : q ≤ 20) (S : St W w L) (hL : L[k0]? = some (row 3 1 (.slice (some ⟨g, 0, none⟩) q c) q (intsI (gl Y q)))) (hP : Cnt0 f Y q) :
    Calls Tryz.prog 141 #[.slice (some ⟨g, 0, none⟩) q c, .int .i64 0, .int .i64 q] w fun e w' =>
      e = .returned (.tuple #[]) ∧ ∃ Y' : Nat → Int, Cnt0 f Y' q ∧ (∀ a b, a < b → b < q → Y' a ≤ Y' b) ∧ St W w' (L.set k0 (row 3 1 (.slice (some ⟨g, 0, none⟩) q c) q (intsI (gl Y' q)))) := by
  have S0 : St W w (L.set k0 (row 3 1 (.slice (some ⟨g, 0, none⟩) q c) q (intsI (gl Y q)))) := by
    have e : L.set k0 (row 3 1 (.slice (some ⟨g, 0, none⟩) q c) q (intsI (gl Y q))) = L := by
      apply List.ext_getElem?
      intro i
      rw [List.getElem?_set]
      split
      · rename_i h; subst h; split
        · exact hL.symm
        · rename_i h2; rw [List.getElem?_eq_none (by omega)] at hL; cases hL
      · rfl
    rw [e]; exact S
  have hk0 : k0 < L.length := by
    rcases Nat.lt_or_ge k0 L.length with h | h
    · exact h
    · rw [List.getElem?_eq_none h] at hL; cases hL
  have HIX : Hid (∀ Y' : Nat → Int, (L.set k0 (row 3 1 (.slice (some ⟨g, 0, none⟩) q c) q (intsI (gl Y' q))))[k0]? = some (row 3 1 (.slice (some ⟨g, 0, none⟩) q c) q (intsI (gl Y' q)))) := fun Y' => by rw [List.getElem?_set, if_pos rfl, if_pos hk0]
  have HSS : Hid (∀ A B : Asr, (L.set k0 A).set k0 B = L.set k0 B) := fun A B => List.set_set ..
  have HK0 := Lib.hid hk0
  have HP := Lib.hid hP
  clear S hL hk0 hP
  go_enter Tryz.func141, Tryz.ntmps141
  go_wp2
  go_loopw [6] (fun i w' => ∃ (k : Nat) (Y' : Nat → Int), 1 ≤ k ∧ (k ≤ q ∨ k = 1) ∧ i = .int .i64 k ∧ Hid (Cnt0 f Y' q) ∧ Hid (∀ a b, a < b → b < k → Y' a ≤ Y' b) ∧ St W w' (L.set k0 (row 3 1 (.slice (some ⟨g, 0, none⟩) q c) q (intsI (gl Y' q))))) (fun i _ => q - (intOf i).toNat)
  case atStart => exact ⟨1, Y, Nat.le_refl _, .inr rfl, rfl, HP, Lib.hid (fun a b h1 h2 => by omega), S0⟩
  case round =>
    obtain ⟨k, Y1, hk1, hk, rfl, hm1, hs1, S1⟩ := hrel
    clear S0
    by_cases hlt : k < q
    · have hlt' : (k : Int) < q := by omega
      have hst0 : Srt Y1 k k := fun a b h1 h2 h3 => hs1.out a b h1 (by omega)
      have HST := Lib.hid hst0
      have HS1 := Lib.hid S1
      clear hst0 hs1 S1
      go_wp2_with fail
      go_loopw [7] (fun i w' => ∃ (j : Nat) (Y' : Nat → Int), j ≤ k ∧ i = .int .i64 j ∧ Hid (Cnt0 f Y' q) ∧ Hid (Srt Y' k j) ∧ St W w' (L.set k0 (row 3 1 (.slice (some ⟨g, 0, none⟩) q c) q (intsI (gl Y' q))))) (fun i _ => (intOf i).toNat)
      case atStart => exact ⟨k, Y1, Nat.le_refl _, rfl, hm1, HST, HS1.out⟩
      case round =>
        obtain ⟨j, Y2, hjk, rfl, hm2, hs2, S2⟩ := hrel
        clear HS1 HST hm1
        have hjq : j < q := by omega
        have HS2 := Lib.hid S2
        have HROW := Lib.hid ((S2.row_form (HIX.out Y2) (by omega)).choose_spec)
        have HCE : Hid (∀ a, a < q → wr.cell? ⟨g, a, none⟩ = some (.int .i64 (Y2 a)) ∧ wr.frozen? ⟨g, a, none⟩ = false) := fun a ha => by
          obtain ⟨g', cap, hv, _, _, _, hc, hf⟩ := S2.row_form (HIX.out Y2) (by omega)
          cases hv
          refine ⟨?_, hf a⟩
          rw [hc a (by omega)]
          unfold intsI
          rw [List.getElem?_map, gl_at Y2 ha]
          rfl
        clear HROW S2
        by_cases hj0 : j = 0
        · subst hj0
          have t0 : decide ((0 : Int) < (0 : Nat)) = false := by simp
          go_wp2_with fail
          refine wp_cls 14 (fun w' => ∃ n, w' = wr.drewN n) (by kernel_rfl) (by kernel_rfl) ⟨1, rfl⟩ ?_
          simp only [List.take_succ_cons, List.take_zero, List.drop_succ_cons, List.drop_zero]
          generalize hK : (fun w' => ∃ n, w' = wr.drewN n) = K
          intro hne
          have kw : ∀ y : Wd K, ∃ n, y.w = wr.drewN n := by subst hK; exact fun y => y.h
          clear hK
          repeat (go_big_quiet_step ((fail)))
          refine wpQuiet_nil ?_
          intro y
          obtain ⟨nn, hyn⟩ := kw y
          have HSY := HS2.out.drewN nn
          rw [← hyn] at HSY
          clear kw hyn hne
          have HSF := Lib.hid HSY
          clear HSY
          generalize y.w = w3 at *
          have HD := Lib.hid (hs2.out.done (.inl rfl))
          go_wp2_with fail
          go_roundw
          case rel => exact ⟨k + 1, Y2, by omega, by omega, by go_num, hm2, Lib.hid (fun a b h1 h2 => HD.out a b h1 (by omega)), HSF.out⟩
          case measure => simp [intOf]; omega
        · obtain ⟨jp, hjp⟩ : ∃ jp, jp = j - 1 := ⟨_, rfl⟩
          have hjm : (j : Int) - 1 = (jp : Int) := by omega
          have hjw : IntKind.i64.wrap ((j : Int) - 1) = (jp : Int) := by rw [hjm]; exact IntWalk.i64_in _ (by omega)
          have hjpq : jp < q := by omega
          have hj1 : jp + 1 = j := by omega
          have HJ1 := Lib.hid hj1
          have t0 : decide ((0 : Int) < (j : Int)) = true := by simp; omega
          have t0' : decide (0 < j) = true := by simp; omega
          obtain ⟨c0, f0⟩ := HCE.out j hjq
          obtain ⟨c1, f1⟩ := HCE.out jp hjpq
          have HCL : Hid (∀ w', Calls Tryz.prog 147 #[.int .i64 (Y2 j), .int .i64 (Y2 jp)] w' fun e w2 => e = .returned (.bool (decide (Y2 j < Y2 jp))) ∧ w' = w2) := fun w' => less_any _ _ w'
          have HGS := Lib.hid (gl_swp Y2 (q := q) (j := j) (by omega) hjq)
          have hsw : Y2 j < Y2 jp → Srt (swp Y2 j) k jp := fun h => by
            have := hs2.out.swap (by omega) hjk (by rw [← hjp]; exact h)
            rwa [← hjp] at this
          have HSW := Lib.hid hsw
          have HDN : Hid (¬ Y2 j < Y2 jp → ∀ a b, a < b → b < k + 1 → Y2 a ≤ Y2 b) := fun h a b h1 h2 => hs2.out.done (.inr (by rw [← hjp]; exact h)) a b h1 (by omega)
          have HMS := Lib.hid (hm2.out.swap (j := j) (by omega) hjq)
          rw [← hjp] at HGS
          clear hsw HCE hjp hj1
          generalize hya : Y2 j = ya at *
          generalize hyb : Y2 jp = yb at *
          have HYA := Lib.hid hya
          have HYB := Lib.hid hyb
          clear hya hyb
          by_cases hlo : ya < yb
          · have hcv0 : decide (ya < yb) = true := decide_eq_true hlo
            have HSN := Lib.hid (HSW.out hlo)
            clear HDN HSW hlo
            go_wp2_with fail
            refine wp_cls 14 (fun w' => ∃ n, w' = wr.drewN n) (by kernel_rfl) (by kernel_rfl) ⟨1, rfl⟩ ?_
            simp only [List.take_succ_cons, List.take_zero, List.drop_succ_cons, List.drop_zero]
            generalize hK : (fun w' => ∃ n, w' = wr.drewN n) = K
            intro hne
            have kw : ∀ y : Wd K, ∃ n, y.w = wr.drewN n := by subst hK; exact fun y => y.h
            have HC3 : Hid (∀ y : Wd K, Calls Tryz.prog 147 #[.int .i64 ya, .int .i64 yb] y.w fun e w2 => e = .returned (.bool (decide (ya < yb))) ∧ y.w = w2) := fun y => HCL.out _
            have y0 : ∀ y : Wd K, y.w.cell? ⟨g, j, none⟩ = some (.int .i64 ya) := fun y => by obtain ⟨n, e⟩ := kw y; rw [e]; exact c0
            have y1 : ∀ y : Wd K, y.w.cell? ⟨g, jp, none⟩ = some (.int .i64 yb) := fun y => by obtain ⟨n, e⟩ := kw y; rw [e]; exact c1
            clear hK
            repeat (go_big_quiet_step ((exact cls_same (HC3.out _))))
            refine wpQuiet_nil ?_
            intro y
            obtain ⟨nn, hyn⟩ := kw y
            clear y0 y1 kw HC3 hne
            have c0' : y.w.cell? ⟨g, j, none⟩ = some (.int .i64 ya) := by rw [hyn]; exact c0
            have c1' : y.w.cell? ⟨g, jp, none⟩ = some (.int .i64 yb) := by rw [hyn]; exact c1
            have HSY := HS2.out.drewN nn
            rw [← hyn] at HSY
            have f0' : y.w.frozen? ⟨g, j, none⟩ = false := by rw [hyn]; exact f0
            have f1' : y.w.frozen? ⟨g, jp, none⟩ = false := by rw [hyn]; exact f1
            clear c0 c1 f0 f1 hyn
            have HSF := Lib.hid HSY
            clear HSY
            generalize y.w = w3 at *
            go_wp2_with fail
            refine wp_pre_tail 5 15 (fun w' => ∃ n, w' = w3.drewN n) (by kernel_rfl) (by kernel_rfl) ⟨1, rfl⟩ ?_
            simp only [List.take_succ_cons, List.take_zero, List.drop_succ_cons, List.drop_zero, Nat.reduceSub]
            generalize hK : (fun w' => ∃ n, w' = w3.drewN n) = K
            intro hne
            have kw : ∀ y : Wd K, ∃ n, y.w = w3.drewN n := by subst hK; exact fun y => y.h
            have y0 : ∀ y : Wd K, y.w.cell? ⟨g, j, none⟩ = some (.int .i64 ya) := fun y => by obtain ⟨n, e⟩ := kw y; rw [e]; exact c0'
            have y1 : ∀ y : Wd K, y.w.cell? ⟨g, jp, none⟩ = some (.int .i64 yb) := fun y => by obtain ⟨n, e⟩ := kw y; rw [e]; exact c1'
            clear hK
            change wpQuiet _ _ _ _ (_ :: _ :: _ :: _ :: _ :: []) _
            iterate 5 (go_big_quiet_step ((fail)))
            refine wpQuiet_nil ?_
            repeat (go_big_quiet_step ((fail)))
            refine wpQuiet_nil ?_
            intro y
            obtain ⟨nn, hyn⟩ := kw y
            clear y0 y1 kw hne
            have HSY := HSF.out.drewN nn
            rw [← hyn] at HSY
            have c0 : y.w.cell? ⟨g, j, none⟩ = some (.int .i64 ya) := by rw [hyn]; exact c0'
            have f0 : y.w.frozen? ⟨g, j, none⟩ = false := by rw [hyn]; exact f0'
            have c1 : y.w.cell? ⟨g, jp, none⟩ = some (.int .i64 yb) := by rw [hyn]; exact c1'
            have f1 : y.w.frozen? ⟨g, jp, none⟩ = false := by rw [hyn]; exact f1'
            clear c0' c1' f0' f1' hyn
            have HSA := HSY.row_set (HIX.out Y2) j (.int .i64 yb)
            rw [HSS.out] at HSA
            have HSB := HSA.row_set (i := k0) (by rw [List.getElem?_set, if_pos rfl, if_pos HK0.out]) jp (.int .i64 ya)
            rw [HSS.out, HGS.out] at HSB
            have hnj : j ≠ jp := by have := HJ1.out; omega
            have hnj' : jp ≠ j := fun e => hnj e.symm
            have HSG := Lib.hid HSB
            clear HSY HSA HSB
            generalize y.w = w4 at *
            go_wp2_with fail
            refine NoPanic.normal ?_
            go_wp2_with fail
            go_roundw
            case rel => exact ⟨jp, _, by have := HJ1.out; omega, by go_num, HMS, HSN, HSG.out⟩
            case measure => have := HJ1.out; simp [intOf]; omega
          · have hcv0 : decide (ya < yb) = false := decide_eq_false hlo
            have HSN := Lib.hid (HDN.out hlo)
            clear HDN HSW hlo
            go_wp2_with fail
            refine wp_cls 14 (fun w' => ∃ n, w' = wr.drewN n) (by kernel_rfl) (by kernel_rfl) ⟨1, rfl⟩ ?_
            simp only [List.take_succ_cons, List.take_zero, List.drop_succ_cons, List.drop_zero]
            generalize hK : (fun w' => ∃ n, w' = wr.drewN n) = K
            intro hne
            have kw : ∀ y : Wd K, ∃ n, y.w = wr.drewN n := by subst hK; exact fun y => y.h
            have HC3 : Hid (∀ y : Wd K, Calls Tryz.prog 147 #[.int .i64 ya, .int .i64 yb] y.w fun e w2 => e = .returned (.bool (decide (ya < yb))) ∧ y.w = w2) := fun y => HCL.out _
            have y0 : ∀ y : Wd K, y.w.cell? ⟨g, j, none⟩ = some (.int .i64 ya) := fun y => by obtain ⟨n, e⟩ := kw y; rw [e]; exact c0
            have y1 : ∀ y : Wd K, y.w.cell? ⟨g, jp, none⟩ = some (.int .i64 yb) := fun y => by obtain ⟨n, e⟩ := kw y; rw [e]; exact c1
            clear hK
            repeat (go_big_quiet_step ((exact cls_same (HC3.out _))))
            refine wpQuiet_nil ?_
            intro y
            obtain ⟨nn, hyn⟩ := kw y
            have HSY := HS2.out.drewN nn
            rw [← hyn] at HSY
            clear y0 y1 kw HC3 hne hyn c0 c1 f0 f1
            have HSF := Lib.hid HSY
            clear HSY
            generalize y.w = w3 at *
            go_wp2_with fail
            go_roundw
            case rel => exact ⟨k + 1, Y2, by omega, by omega, by go_num, hm2, HSN, HSF.out⟩
            case measure => simp [intOf]; omega
    · have hge : ¬ (k : Int) < q := by omega
      have HS1 := Lib.hid S1
      clear S1
      go_wp2_with fail
      go_end0
      exact ⟨rfl, Y1, hm1.out, fun a b h1 h2 => hs1.out a b h1 (by omega), HS1.out⟩
end Go.Proofs.YtkkkfjinflepmaaGreatDoor
/- TopDivotCut: slices.Values, Collect and Sorted, of a short list of numbers. -/
namespace Go.Proofs.YtkkkfjinflepmaaGreatDoor
open Go.RowKit Go.Mem Go.Sheet Go.Adj Go.Shelf
attribute [local go_sem] Oper.semAt_some
set_option maxRecDepth 100000 in
set_option maxHeartbeats 2000000 in
theorem values1_in (n : Nat) (hn : 1 ≤ n) (l Bs n₀ b off len cap : Nat) (f : Nat → Int) (hreach : len ≤ 1000) (hb : b < n₀) (J Jx : List Int → World → Prop)
    (hY : ∀ pre x W, J pre W → pre.length < len → YieldAt Fence.wide (n - 1) Tryz.prog l #[.int .i64 x] W fun e W' =>
      (e = .returned (.bool true) ∧ J (pre ++ [x]) W' ∧ Below n₀ W W') ∨ (e = .returned (.bool false) ∧ Jx (pre ++ [x]) W'))
    (W : World) (hBs : W.cell? ⟨Bs, 0, none⟩ = some (.slice (some ⟨b, off, none⟩) len cap)) (hc : ∀ j, j < len → W.cell? ⟨b, off + j, none⟩ = some (.int .i64 (f j))) (h0 : J [] W) :
    CallsIn Fence.wide n Tryz.prog 109 #[.func (.yield l) #[] #[], .pointer (some ⟨Bs, 0, none⟩)] W fun e W' => (∃ v, e = .returned v) ∧
      ((∃ ys, ys = gl f len ∧ J ys W') ∨ (∃ pre, True ∧ Jx pre W')) := by
  refine callsIn_of_wp Tryz.func109 rfl trivial ?_ rfl
  simp only [Tryz.ntmps109, List.size_toArray, List.length_cons, List.length_nil, Nat.reduceAdd, Nat.reduceSub, Array.replicate_succ, Array.replicate_zero, List.push_toArray, List.append_toArray, List.nil_append, List.cons_append]
  gi_wp2
  gi_loopw [7] (fun i wr => ∃ k : Nat, k ≤ len ∧ i = .int .i64 k ∧ J (gl f k) wr ∧ Below n₀ W wr) (fun i _ => len - (intOf i).toNat)
  case atStart => exact ⟨0, Nat.zero_le _, rfl, h0, Below.refl _ _⟩
  case round =>
    obtain ⟨k, hk, rfl, hJs, hnx⟩ := hrel
    have hcx : k < len → wr.cell? ⟨b, off + k, none⟩ = some (.int .i64 (f k)) := fun h => (hnx.cell (p := ⟨b, off + k, none⟩) hb).trans (hc k h)
    by_cases hlt : k < len
    · obtain ⟨fn, tmps, assign, body, hy, hR⟩ := hY _ (f k) wr hJs (by rw [gl_len]; exact hlt)
      have hcx' := hcx hlt
      gi_wp2
      refine hR.mono ?_
      rintro e W3 (⟨rfl, hJ3, hk3⟩ | ⟨rfl, hJx3⟩)
      · gi_wp2
        go_roundw
        case rel => exact ⟨k + 1, by omega, by simp, by rw [gl_snoc]; exact hJ3, hnx.trans hk3⟩
        case measure => simp [intOf]; omega
      · gi_wp2
        refine bodyPost_ret (results_none rfl _ _ _) rfl ?_
        exact ⟨⟨_, rfl⟩, .inr ⟨_, trivial, hJx3⟩⟩
    · obtain rfl : k = len := by omega
      gi_wp2
      go_end0
      exact ⟨⟨_, rfl⟩, .inl ⟨_, rfl, hJs⟩⟩
theorem values_any (w : World) (A : Option Addr) (n c : Nat) : Calls Tryz.prog 76 #[.slice A n c] w fun e w' => e = .returned (.func (.func 109) #[] #[.pointer (some ⟨w.heap.size, 0, none⟩)]) ∧ w' = w.alloc (.cells #[.slice A n c] 43) := by
  go_enter Tryz.func76, Tryz.ntmps76
  go_wp2
  go_ret
  exact ⟨rfl, rfl⟩
theorem values_stops (n : Nat) (hn : 1 ≤ n) (Bs n₀ b off len cap : Nat) (f : Nat → Int) (hreach : len ≤ 1000) (hb : b < n₀) (w : World) (hBs : Bs < w.heap.size) (hn₀ : n₀ ≤ w.heap.size)
    (hc : w.cell? ⟨Bs, 0, none⟩ = some (.slice (some ⟨b, off, none⟩) len cap)) (hI : ∀ j, j < len → w.cell? ⟨b, off + j, none⟩ = some (.int .i64 (f j))) :
    SeqStopsK Fence.wide n Tryz.prog 109 #[.pointer (some ⟨Bs, 0, none⟩)] (fun x : Int => #[Value.int .i64 x]) (Below n₀) (fun ys => ys = gl f len) (fun _ => True) len w := fun l J Jx W hW _ _ hY h0 => by
  exact values1_in n hn l Bs n₀ b off len cap f hreach hb J Jx hY W ((hW.cell (p := ⟨Bs, 0, none⟩) hBs).trans hc) (fun j hj => (hW.cell (p := ⟨b, off + j, none⟩) (show b < w.heap.size by omega)).trans (hI j hj)) h0
theorem info_i : (Tryz.prog.info? 3).map (fun i => (i.zero, i.size, i.bytes)) = some (some (.int .i64 0), 1, 8) := by kernel_rfl
set_option maxRecDepth 100000 in
set_option maxHeartbeats 4000000 in
theorem appendSeq_in (n : Nat) (hn : 3 ≤ n) (w : World) (gv b off len cap : Nat) (f : Nat → Int) (hreach : len ≤ 1000) (hb : b < w.heap.size) (hgv : gv < w.heap.size) (hv : w.cell? ⟨gv, 0, none⟩ = some (.slice (some ⟨b, off, none⟩) len cap)) (hI : ∀ j, j < len → w.cell? ⟨b, off + j, none⟩ = some (.int .i64 (f j))) :
    CallsIn Fence.wide n Tryz.prog 125 #[.slice none 0 0, .func (.func 109) #[] #[.pointer (some ⟨gv, 0, none⟩)]] w fun e W' => ∃ v, e = .returned v ∧ W'.ownsRow w.heap.size 3 1 v len (intsI (gl f len)) ∧ Below w.heap.size w W' := by
  have h1 : 1 ≤ n := by omega
  obtain ⟨i0, hi, hz0, hz1, hz2⟩ := info_parts info_i
  refine callsIn_of_wp_marks Tryz.func125 rfl trivial ?_ rfl
  simp only [Tryz.ntmps125, List.size_toArray, List.length_cons, List.length_nil, Nat.reduceAdd, Nat.reduceSub, Array.replicate_succ, Array.replicate_zero, List.push_toArray, List.append_toArray, List.nil_append, List.cons_append]
  gi_wp2
  have bO := Boxed.new w 43 (.slice none 0 0)
  have hB0 : Below w.heap.size w (w.alloc (.cells #[.slice none 0 0] 43)) := (Below.refl _ w).alloc (Nat.le_refl _) _
  refine wpIn_rangeFunc_ownG rfl h1 (gf := 109) (lb := #[.pointer (some ⟨gv, 0, none⟩)]) rfl trivial (enters_of Tryz.func109 (by kernel_rfl) rfl)
    (values_stops (n - 1) (by omega) gv w.heap.size b off len cap f hreach hb _ (by simp; omega) (by simp) ((hB0.cell (p := ⟨gv, 0, none⟩) hgv).trans hv) (fun j hj => (hB0.cell (p := ⟨b, off + j, none⟩) hb).trans (hI j hj))) belowK_t (belowK_b (by simp)) (Below.refl _ _) (fun _ => rfl)
    (fun pre W => (∃ v, Boxed W w.heap.size 43 v ∧ W.ownsRow w.heap.size 3 1 v pre.length (intsI pre) ∧ True) ∧ Below w.heap.size w W)
    (fun _ _ _ => False)
    (OwnFrom.and (Own.from (holdsRow_own w.heap.size w.heap.size 43 3 1 (fun pre : List Int => pre.length) (fun pre => intsI pre) (fun _ _ => True)) _) (ownFrom_below (Nat.le_refl _) (by simp)))
    (fun _ _ _ _ _ hs _ _ => hs)
    ⟨⟨_, bO, World.ownsRow_nil _ _ _ _, trivial⟩, hB0⟩
    (fun x => { tmps := #[.slice none 0 0, .func (.func 109) #[] #[.pointer (some ⟨gv, 0, none⟩)], .pointer (some ⟨w.heap.size, 0, none⟩), undef, .slice none 0 0, .int .i64 x, .func (.func 109) #[] #[.pointer (some ⟨gv, 0, none⟩)], .int .i64 x, undef, undef, undef, undef, undef], defers := [] }) ?assign ?body ?done ?stop
  case assign =>
    intro l x W K hK
    gi_wp2
    exact hK
  case body =>
    rintro l pre x W ⟨⟨v, hv, hrow, _⟩, hB⟩ hlt
    have hc := hv.cell
    gi_wp2_with (gi_at_builtin; refine wpListIn_append_own _ rfl _ _ 43 rfl w.heap.size 3 i0 (.int .i64 0) 1 8 Tryz.underlying43 hi hz0 hz1 hz2 rfl (by decide) _ _ _ rfl (hrow.alloc _) ⟨W.heap.size, 0, none⟩ 1 1 [.int .i64 x] rfl rfl (cell_one_new _ _ _) (by simp [Value.oneCell']) (by unfold maxLen; omega) (by omega) (by have := hB.size; simp; omega) ?_; intro v' w1 hown' hgrow _; obtain ⟨g', cap', rfl⟩ := ownsRow_succ hown'; obtain ⟨hv1, hv2, hr2, hk2, hb2⟩ := hv.appended (by decide) hrow hB.size (Nat.le_refl _) hown' hgrow; have hc1 := hv1.cell; have hf1 := hv1.frozen)
    exact ⟨hk2.from _, hb2, ⟨_, hv2, by rw [List.length_append]; simpa [intsI] using hr2, trivial⟩, hB.trans hb2⟩
  case done =>
    rintro D ys W hD rfl ⟨⟨v, hv, hrow, _⟩, hB⟩ hK
    rw [gl_len] at hrow
    have hc := hv.cell
    gi_wp2
    refine ⟨by simp, .inl ⟨_, _, rfl, run_takeDeferred hK, ?_⟩⟩
    exact ⟨_, results_tmp rfl _ _ _, v, rfl, ownsRow_putObj hrow _ hK rfl, hB.trans (belowK_b (w := w) (Nat.le_refl _) W D _ _ (by simp at hD; omega) hK rfl rfl)⟩
  case stop =>
    rintro D c pre W _ _ h _
    exact h.elim
end Go.Proofs.YtkkkfjinflepmaaGreatDoor
/- TopDivotCut: slices.Sorted of a short list of numbers. -/
namespace Go.Proofs.YtkkkfjinflepmaaGreatDoor
open Go.RowKit Go.Mem Go.Sheet Go.Adj
set_option maxRecDepth 100000 in
theorem bitsLen_any (q : Nat) (hq : 1 ≤ q ∧ q ≤ 12) (w : World) : Calls Tryz.prog 127 #[.int .u64 q] w fun e w' => (∃ l, e = .returned (.int .i64 l)) ∧ w = w' := by
  have h64 : ∀ q : Nat, 1 ≤ q → q ≤ 12 → Calls Tryz.prog 151 #[.int .u64 q] w fun e w' => (∃ l, e = .returned (.int .i64 l)) ∧ w = w' := fun q h1 h2 => by
    obtain rfl | rfl | rfl | rfl | rfl | rfl | rfl | rfl | rfl | rfl | rfl | rfl : q = 1 ∨ q = 2 ∨ q = 3 ∨ q = 4 ∨ q = 5 ∨ q = 6 ∨ q = 7 ∨ q = 8 ∨ q = 9 ∨ q = 10 ∨ q = 11 ∨ q = 12 := by omega
    all_goals
      go_enter Tryz.func151, Tryz.ntmps151
      go_wp2
      go_ret
      exact ⟨⟨_, rfl⟩, rfl⟩
  have H := Lib.hid (h64 q hq.1 hq.2)
  clear h64
  go_enter Tryz.func127, Tryz.ntmps127
  go_wp2_with (go_at_call 151; refine H.out.mono ?_; rintro e w' ⟨⟨l, rfl⟩, rfl⟩)
  go_ret
  exact ⟨⟨_, rfl⟩, rfl⟩
set_option maxRecDepth 100000 in
set_option maxHeartbeats 4000000 in
theorem pdq_any (W w : World) (L : List Asr) (k0 g c q : Nat) (f Y : Nat → Int) (z : Int) (hq : 1 ≤ q ∧ q ≤ 12) (S : St W w L) (hL : L[k0]? = some (row 3 1 (.slice (some ⟨g, 0, none⟩) q c) q (intsI (gl Y q)))) (hP : Cnt0 f Y q) :
    Calls Tryz.prog 126 #[.slice (some ⟨g, 0, none⟩) q c, .int .i64 0, .int .i64 q, .int .i64 z] w fun e w' =>
      e = .returned (.tuple #[]) ∧ ∃ Y' : Nat → Int, Cnt0 f Y' q ∧ Ord0 Y' q ∧ St W w' (L.set k0 (row 3 1 (.slice (some ⟨g, 0, none⟩) q c) q (intsI (gl Y' q)))) := by
  have HI := Lib.hid (insOrd_any W w L k0 g c q f Y (by omega) S hL hP)
  clear S hL hP
  have t1 : decide ((q : Int) ≤ 12) = true := decide_eq_true (by omega)
  have t1' : decide (q ≤ 12) = true := decide_eq_true (by omega)
  go_enter Tryz.func126, Tryz.ntmps126
  go_wp2_with fail
  go_loopw [1, 2] (fun i j w' => i = .int .i64 0 ∧ j = .int .i64 q ∧ w' = w) (fun _ _ _ => 0)
  case atStart => exact ⟨rfl, rfl, rfl⟩
  case round =>
    obtain ⟨rfl, rfl, rfl⟩ := hrel
    go_wp2_with fail
    go_at_call 141
    refine HI.out.mono ?_
    rintro e w2 ⟨rfl, hr⟩
    have HR := Lib.hid hr
    clear hr
    go_wp2_with fail
    refine bodyPost_ret (results_none rfl _ _ _) rfl ?_
    obtain ⟨Y', h1, h2, h3⟩ := HR.out
    exact ⟨rfl, Y', h1, h2, h3⟩
set_option maxRecDepth 100000 in
set_option maxHeartbeats 4000000 in
theorem sort_any (W w : World) (L : List Asr) (k0 g c q : Nat) (f Y : Nat → Int) (hq : 1 ≤ q ∧ q ≤ 12) (S : St W w L) (hL : L[k0]? = some (row 3 1 (.slice (some ⟨g, 0, none⟩) q c) q (intsI (gl Y q)))) (hP : Cnt0 f Y q) :
    Calls Tryz.prog 108 #[.slice (some ⟨g, 0, none⟩) q c] w fun e w' =>
      e = .returned (.tuple #[]) ∧ ∃ Y' : Nat → Int, Cnt0 f Y' q ∧ Ord0 Y' q ∧ St W w' (L.set k0 (row 3 1 (.slice (some ⟨g, 0, none⟩) q c) q (intsI (gl Y' q)))) := by
  have HI := Lib.hid (fun z => pdq_any W w L k0 g c q f Y z hq S hL hP)
  have HB := Lib.hid (bitsLen_any q hq w)
  have hq1 : 1 ≤ q := hq.1
  have hq2 : q ≤ 12 := hq.2
  have w1 : IntKind.u64.wrap (q : Int) = (q : Int) := by
    obtain rfl | rfl | rfl | rfl | rfl | rfl | rfl | rfl | rfl | rfl | rfl | rfl : q = 1 ∨ q = 2 ∨ q = 3 ∨ q = 4 ∨ q = 5 ∨ q = 6 ∨ q = 7 ∨ q = 8 ∨ q = 9 ∨ q = 10 ∨ q = 11 ∨ q = 12 := by omega
    all_goals kernel_rfl
  clear S hL hP hq
  go_enter Tryz.func108, Tryz.ntmps108
  go_wp2_with fail
  go_at_call 127
  refine HB.out.mono ?_
  rintro e w' ⟨⟨l, rfl⟩, rfl⟩
  go_wp2_with fail
  go_at_call 126
  refine (HI.out l).mono ?_
  rintro e w2 ⟨rfl, hr⟩
  have HR := Lib.hid hr
  clear hr
  go_wp2_with fail
  go_end0
  exact ⟨rfl, HR.out⟩
set_option maxRecDepth 100000 in
set_option maxHeartbeats 4000000 in
theorem sorted_any (w : World) (gv q : Nat) (v : Value) (f : Nat → Int) (hq : 1 ≤ q ∧ q ≤ 12) (hgv : gv < w.heap.size) (hv : w.cell? ⟨gv, 0, none⟩ = some v) (h : Rd w (· < w.heap.size) 1 v q (intsI (gl f q))) :
    Calls Tryz.prog 75 #[.func (.func 109) #[] #[.pointer (some ⟨gv, 0, none⟩)]] w fun e w' => ∃ v' Y, e = .returned v' ∧ Cnt0 f Y q ∧ Ord0 Y q ∧ St w w' [row 3 1 v' q (intsI (gl Y q))] := by
  obtain ⟨A, c, rfl, _, _, _⟩ := h.open_
  obtain ⟨b, o, rfl, hb, _, hc⟩ := h.addr (by omega)
  have HA : Hid (Calls Tryz.prog 125 #[.slice none 0 0, .func (.func 109) #[] #[.pointer (some ⟨gv, 0, none⟩)]] w fun e W' => ∃ v, e = .returned v ∧ W'.ownsRow w.heap.size 3 1 v q (intsI (gl f q)) ∧ Below w.heap.size w W') :=
    (callsIn_wide (n := 3)).1 (appendSeq_in 3 (by omega) w gv b o q c f (by omega) hb hgv hv (fun j hj => hc j _ (by unfold intsI; rw [List.getElem?_map, gl_at f hj]; rfl)))
  have HC : Hid (Calls Tryz.prog 107 #[.func (.func 109) #[] #[.pointer (some ⟨gv, 0, none⟩)]] w fun e W' => ∃ v, e = .returned v ∧ W'.ownsRow w.heap.size 3 1 v q (intsI (gl f q)) ∧ Below w.heap.size w W') := by
    clear h hc hv hb
    show Calls _ _ _ _ _
    go_enter Tryz.func107, Tryz.ntmps107
    go_wp2_with fail
    go_at_call 125
    refine HA.out.mono ?_
    rintro e w2 ⟨v, rfl, h1, h2⟩
    have H1 := Lib.hid h1
    have H2 := Lib.hid h2
    clear h1 h2
    go_wp2_with fail
    go_ret
    exact ⟨v, rfl, H1.out, H2.out⟩
  have hq1 : 1 ≤ q := hq.1
  have hq2 : q ≤ 12 := hq.2
  clear h hc hv hb HA hq
  go_enter Tryz.func75, Tryz.ntmps75
  go_wp2_with fail
  go_at_call 107
  refine HC.out.mono ?_
  rintro e w2 ⟨v, rfl, h1, h2⟩
  have S := ownsRow_st h2 h1
  obtain ⟨g, cg, rfl⟩ := row_some S (i := 0) rfl hq1
  have HI := Lib.hid (sort_any w w2 _ 0 g cg q f f ⟨hq1, hq2⟩ S rfl (fun _ => rfl))
  clear h1 h2 S HC
  go_wp2_with fail
  go_at_call 108
  refine HI.out.mono ?_
  rintro e w3 ⟨rfl, Y, h3, h4, h5⟩
  simp only [List.set_cons_zero] at h5
  have H3 := Lib.hid h3
  have H4 := Lib.hid h4
  have H5 := Lib.hid h5
  clear h3 h4 h5 HI
  go_wp2_with fail
  go_ret
  exact ⟨_, Y, rfl, H3.out, H4.out, H5.out⟩
end Go.Proofs.YtkkkfjinflepmaaGreatDoor
