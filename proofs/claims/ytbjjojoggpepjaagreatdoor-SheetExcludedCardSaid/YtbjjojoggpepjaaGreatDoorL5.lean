/- The set of Excluded is the reference's: the smallest, then the lexicographically first. -/
import Derived.Test.YtbjjojoggpepjaaGreatDoorB15
import Derived.Test.YtbjjojoggpepjaaGreatDoorB10
import Derived.Test.YtbjjojoggpepjaaGreatDoorB09
import Derived.Test.YtbjjojoggpepjaaGreatDoorB11
import Derived.Test.YtbjjojoggpepjaaGreatDoorB04
import Derived.Test.YtbjjojoggpepjaaGreatDoorB12
import Derived.Test.YtbjjojoggpepjaaGreatDoorB23
import Derived.Lib.SliceRun
set_option linter.unusedVariables false
set_option linter.unusedSimpArgs false
set_option linter.unusedSectionVars false
set_option linter.constructorNameAsVariable false
namespace Go.Sheet
/-! ### lists in order -/
theorem cmpF_self (a : List Int) : cmpF a a = 0 := by
  induction a with
  | nil => rfl
  | cons x a ih => rw [cmpF, if_neg (Int.lt_irrefl _), if_neg (Int.lt_irrefl _), ih]
theorem cmpF_eq : ∀ (a b : List Int), cmpF a b = 0 → a = b := by
  intro a
  induction a with
  | nil => intro b h; cases b with
    | nil => rfl
    | cons y b => rw [cmpF] at h; cases h
  | cons x a ih =>
    intro b h
    cases b with
    | nil => rw [cmpF] at h; cases h
    | cons y b =>
      rw [cmpF] at h
      split at h
      · cases h
      · split at h
        · cases h
        · rw [ih b h, show x = y by omega]
theorem cmpF_neg : ∀ (a b : List Int), cmpF a b < 0 → 0 < cmpF b a := by
  intro a
  induction a with
  | nil => intro b h; cases b with
    | nil => rw [cmpF] at h; omega
    | cons y b => rw [cmpF]; omega
  | cons x a ih =>
    intro b h
    cases b with
    | nil => rw [cmpF] at h; omega
    | cons y b =>
      rw [cmpF] at h ⊢
      split at h
      · rename_i h1; rw [if_neg (by omega), if_pos h1]; omega
      · split at h
        · omega
        · rename_i h1 h2; rw [if_neg h2, if_neg h1]; exact ih b h
theorem cmpF_pos : ∀ (a b : List Int), 0 < cmpF a b → cmpF b a < 0 := by
  intro a
  induction a with
  | nil => intro b h; cases b with
    | nil => rw [cmpF] at h; omega
    | cons y b => rw [cmpF] at h; omega
  | cons x a ih =>
    intro b h
    cases b with
    | nil => rw [cmpF]; omega
    | cons y b =>
      rw [cmpF] at h ⊢
      split at h
      · omega
      · split at h
        · rename_i h1 h2; rw [if_pos h2]; omega
        · rename_i h1 h2; rw [if_neg h2, if_neg h1]; exact ih b h
theorem cmpF_trans : ∀ (a b c : List Int), cmpF a b < 0 → cmpF b c < 0 → cmpF a c < 0 := by
  intro a
  induction a with
  | nil => intro b c h1 h2; cases b with
    | nil => rw [cmpF] at h1; omega
    | cons y b => cases c with
      | nil => rw [cmpF] at h2; omega
      | cons z c => rw [cmpF]; omega
  | cons x a ih =>
    intro b c h1 h2
    cases b with
    | nil => rw [cmpF] at h1; omega
    | cons y b =>
      cases c with
      | nil => rw [cmpF] at h2; omega
      | cons z c =>
        rw [cmpF] at h1 h2 ⊢
        split at h1
        · split at h2
          · rw [if_pos (by omega)]; omega
          · split at h2
            · omega
            · rw [if_pos (by omega)]; omega
        · split at h1
          · omega
          · split at h2
            · rw [if_pos (by omega)]; omega
            · split at h2
              · omega
              · rw [if_neg (by omega), if_neg (by omega)]; exact ih b c h1 h2
def ltS (a b : List Int) : Prop := a.length < b.length ∨ (a.length = b.length ∧ cmpF a b < 0)
theorem ltS_trans {a b c : List Int} (h1 : ltS a b) (h2 : ltS b c) : ltS a c := by
  rcases h1 with h1 | ⟨h1, h1'⟩ <;> rcases h2 with h2 | ⟨h2, h2'⟩
  · left; omega
  · left; omega
  · left; omega
  · right; exact ⟨by omega, cmpF_trans _ _ _ h1' h2'⟩
theorem ltS_irr (a : List Int) : ¬ ltS a a := by
  rintro (h | ⟨_, h⟩)
  · omega
  · rw [cmpF_self] at h; omega
theorem ltS_tri {a b : List Int} (h1 : ¬ ltS a b) (h2 : ¬ ltS b a) : a = b := by
  unfold ltS at h1 h2
  have hl : a.length = b.length := by omega
  refine cmpF_eq a b ?_
  have n1 : ¬ cmpF a b < 0 := fun h => h1 (.inr ⟨hl, h⟩)
  have n2 : ¬ cmpF b a < 0 := fun h => h2 (.inr ⟨hl.symm, h⟩)
  by_cases h : 0 < cmpF a b
  · exact absurd (cmpF_pos _ _ h) n2
  · omega
theorem betterF_iff {best m : List Int} : betterF best m = true ↔ best = [] ∨ ltS m best := by
  unfold betterF ltS
  simp
/-! ### the sets by their bits -/
theorem bitOn_succ (set k : Nat) : bitOn set (k + 1) = bitOn (set / 2) k := by
  unfold bitOn
  rw [Nat.pow_succ, Nat.mul_comm, Nat.div_div_eq_div_mul]
theorem memF_shift (l : List Nat) : ∀ (set k : Nat), memF set (k + 1) l = memF (set / 2) k l := by
  induction l with
  | nil => intro set k; rfl
  | cons i l ih =>
    intro set k
    rw [memF, memF, bitOn_succ, ih]
theorem memF_sub (set : Nat) (l : List Nat) : ∀ k, (memF set k l).Sublist l := by
  induction l with
  | nil => intro k; exact List.Sublist.refl _
  | cons i l ih =>
    intro k
    rw [memF]
    split
    · exact (ih _).cons_cons i
    · exact (ih _).cons i
theorem memF_all (l t : List Nat) (h : t.Sublist l) : ∃ set, set < 2 ^ l.length ∧ memF set 0 l = t := by
  induction h with
  | slnil => exact ⟨0, by simp, rfl⟩
  | @cons t l i h ih =>
    obtain ⟨s, hs, he⟩ := ih
    refine ⟨2 * s, by rw [List.length_cons, Nat.pow_succ]; omega, ?_⟩
    have hb : bitOn (2 * s) 0 = false := by unfold bitOn; simp
    rw [memF, hb, memF_shift, show 2 * s / 2 = s by omega, he]; rfl
  | @cons_cons t l i h ih =>
    obtain ⟨s, hs, he⟩ := ih
    refine ⟨2 * s + 1, by rw [List.length_cons, Nat.pow_succ]; omega, ?_⟩
    have hb : bitOn (2 * s + 1) 0 = true := by unfold bitOn; simp
    rw [memF, hb, memF_shift, show (2 * s + 1) / 2 = s by omega, he]; rfl
/-! ### the room of a set -/
def refWAt (rs : List RQ) (i : Nat) (k : Int) : Int := match rs[i]? with | some x => refW x k | none => -1
/-- the places of the slots that a set wishes for, of the first k slots -/
def roomR (l : List Slot) (rs : List RQ) (s : List Nat) : Nat → Int
  | 0 => 0
  | k + 1 => roomR l rs s k + if s.any (fun i => decide (0 < refWAt rs i k)) then (match l[k]? with | some x => x.p | none => 0) else 0
def exclR (l : List Slot) (rs : List RQ) (s : List Nat) : Bool := decide (roomR l rs s l.length < s.length)
theorem wantW_len (ws : List Wish) : ∀ b, (wantW b ws).length = b.length := by
  induction ws with
  | nil => intro b; rfl
  | cons y ws ih => intro b; rw [wantW, ih]; simp
theorem wantW_at (ws : List Wish) : ∀ (b : List Bool) (k : Nat), k < b.length → (wantW b ws).getD k false = (b.getD k false || ws.any fun y => decide (y.s.toNat = k)) := by
  induction ws with
  | nil => intro b k _; simp [wantW]
  | cons y ws ih =>
    intro b k hk
    rw [wantW, ih _ k (by simpa using hk), getD_set]
    by_cases e : y.s.toNat = k
    · rw [if_pos ⟨e, by omega⟩]; simp [e]
    · rw [if_neg (by rintro ⟨h, _⟩; exact e h)]; simp [e]
theorem wantF_at (rs : List RQ) (set : Nat) (l : List Nat) : ∀ (k : Nat) (b : List Bool) (j : Nat), j < b.length →
    (wantF rs set k l b).getD j false = (b.getD j false || (memF set k l).any fun i => (wsOf rs i).any fun y => decide (y.s.toNat = j)) := by
  induction l with
  | nil => intro k b j _; simp [wantF, memF]
  | cons i l ih =>
    intro k b j hj
    rw [wantF, memF]
    cases hb : bitOn set k
    · rw [if_neg (by simp), if_neg (by simp)]
      exact ih _ _ _ hj
    · rw [if_pos rfl, if_pos rfl, ih _ _ _ (by rw [wantW_len]; exact hj), wantW_at _ _ _ hj, List.any_cons, Bool.or_assoc]
theorem wishAny {l : List Slot} {rs : List RQ} (h : Okay l rs) (i j : Nat) : ((wsOf rs i).any fun y => decide (y.s.toNat = j)) = decide (0 < refWAt rs i j) := by
  rw [wsOf, refWAt]
  cases hx : rs[i]? with
  | none => rfl
  | some x =>
    show (x.ws.any fun y => decide (y.s.toNat = j)) = decide (0 < refW x j)
    have hm := List.mem_of_getElem? hx
    rcases refW_cases h hm (j : Int) with ⟨hw, w1, _⟩ | ⟨hw, w1⟩
    · rw [decide_eq_true (by omega)]
      rw [hasWish, List.find?_isSome] at hw
      obtain ⟨y, hy, he⟩ := hw
      rw [List.any_eq_true]
      refine ⟨y, hy, ?_⟩
      have : y.s = j := by simpa using he
      simp; omega
    · rw [w1, decide_eq_false (by omega)]
      rw [List.any_eq_false]
      intro y hy he
      have h0 := (h.wish x hm y hy).1
      rw [hasWish, Option.isSome_eq_false_iff, Option.isNone_iff_eq_none, List.find?_eq_none] at hw
      have := hw y hy
      simp at he this
      omega
theorem roomK_eq {l : List Slot} {rs : List RQ} (h : Okay l rs) (set : Nat) (sure : List Nat) : ∀ k, k ≤ 24 → roomK (wantF rs set 0 sure (List.replicate 24 false)) l k = roomR l rs (memF set 0 sure) k := by
  intro k
  induction k with
  | zero => intro _; rfl
  | succ k ih =>
    intro hk
    rw [roomK, roomR, ih (by omega), wantF_at _ _ _ _ _ _ (by simp; omega)]
    have e : (List.replicate 24 false).getD k false = false := by
      rw [List.getD_eq_getElem?_getD, List.getElem?_replicate]
      split <;> rfl
    rw [e, Bool.false_or, show ((memF set 0 sure).any fun i => (wsOf rs i).any fun y => decide (y.s.toNat = k)) = ((memF set 0 sure).any fun i => decide (0 < refWAt rs i k)) from by
      congr 1; funext i; exact wishAny h i k]
    cases l[k]? <;> rfl
theorem roomR_more {l : List Slot} {rs : List RQ} {s : List Nat} : ∀ m, roomR l rs s (l.length + m) = roomR l rs s l.length := by
  intro m
  induction m with
  | zero => rfl
  | succ m ih =>
    rw [← Nat.add_assoc, roomR, ih, List.getElem?_eq_none (by omega)]
    simp
theorem exStep_eq {l : List Slot} {rs : List RQ} (h : Okay l rs) (set : Nat) (best : List Int) :
    exStep l rs set best = if exclR l rs (memF set 0 (sureN rs)) = true ∧ betterF best (natI (memF set 0 (sureN rs))) = true then natI (memF set 0 (sureN rs)) else best := by
  have e : roomK (wantF rs set 0 (sureN rs) (List.replicate 24 false)) l 24 = roomR l rs (memF set 0 (sureN rs)) l.length := by
    rw [roomK_eq h set _ 24 (Nat.le_refl _)]
    have := h.nl
    obtain ⟨m, hm⟩ : ∃ m, 24 = l.length + m := ⟨24 - l.length, by omega⟩
    rw [hm, roomR_more]
  rw [exStep, e, exclR]
  simp only [decide_eq_true_eq]
theorem exclR_nil {l : List Slot} {rs : List RQ} {s : List Nat} (h : Okay l rs) (he : exclR l rs s = true) : s ≠ [] := by
  rintro rfl
  have : ∀ k, roomR l rs [] k = 0 := by
    intro k
    induction k with
    | zero => rfl
    | succ k ih => rw [roomR, ih]; simp
  rw [exclR, this] at he
  simp at he
theorem natI_nil {s : List Nat} : natI s = [] ↔ s = [] := by unfold natI; simp
/-- what the program's search has behind the sets below m -/
theorem exAll_inv {l : List Slot} {rs : List RQ} (h : Okay l rs) : ∀ (m set : Nat) (best : List Int),
    ((best = [] ∧ ∀ t, t < set → exclR l rs (memF t 0 (sureN rs)) = false) ∨ ∃ t, t < set ∧ exclR l rs (memF t 0 (sureN rs)) = true ∧ best = natI (memF t 0 (sureN rs)) ∧ ∀ u, u < set → exclR l rs (memF u 0 (sureN rs)) = true → ¬ ltS (natI (memF u 0 (sureN rs))) best) →
    ((exAll l rs m set best = [] ∧ ∀ t, t < set + m → exclR l rs (memF t 0 (sureN rs)) = false) ∨ ∃ t, t < set + m ∧ exclR l rs (memF t 0 (sureN rs)) = true ∧ exAll l rs m set best = natI (memF t 0 (sureN rs)) ∧ ∀ u, u < set + m → exclR l rs (memF u 0 (sureN rs)) = true → ¬ ltS (natI (memF u 0 (sureN rs))) (exAll l rs m set best)) := by
  intro m
  induction m with
  | zero => intro set best h1; exact h1
  | succ m ih =>
    intro set best h1
    rw [exAll, show set + (m + 1) = set + 1 + m by omega]
    refine ih (set + 1) _ ?_
    rw [exStep_eq h]
    by_cases hx : exclR l rs (memF set 0 (sureN rs)) = true
    · by_cases hb : betterF best (natI (memF set 0 (sureN rs))) = true
      · rw [if_pos ⟨hx, hb⟩]
        right
        refine ⟨set, by omega, hx, rfl, fun u hu hxu => ?_⟩
        by_cases hus : u = set
        · subst hus; exact ltS_irr _
        · rcases h1 with ⟨_, h2⟩ | ⟨t, ht, hxt, rfl, h2⟩
          · have := h2 u (by omega); rw [hxu] at this; cases this
          · intro hlt
            rw [betterF_iff] at hb
            rcases hb with hb | hb
            · exact exclR_nil h hxt (natI_nil.1 hb)
            · exact h2 u (by omega) hxu (ltS_trans hlt hb)
      · rw [if_neg (by rintro ⟨_, h3⟩; exact hb h3)]
        rcases h1 with ⟨rfl, h2⟩ | ⟨t, ht, hxt, rfl, h2⟩
        · exact absurd (betterF_iff.2 (.inl rfl)) hb
        · right
          refine ⟨t, by omega, hxt, rfl, fun u hu hxu => ?_⟩
          by_cases hus : u = set
          · subst hus; exact fun hlt => hb (betterF_iff.2 (.inr hlt))
          · exact h2 u (by omega) hxu
    · rw [if_neg (by rintro ⟨h3, _⟩; exact hx h3)]
      rcases h1 with ⟨rfl, h2⟩ | ⟨t, ht, hxt, rfl, h2⟩
      · left
        refine ⟨rfl, fun t ht => ?_⟩
        by_cases hus : t = set
        · subst hus; simpa using hx
        · exact h2 t (by omega)
      · right
        refine ⟨t, by omega, hxt, rfl, fun u hu hxu => ?_⟩
        by_cases hus : u = set
        · subst hus; exact absurd hxu hx
        · exact h2 u (by omega) hxu
/-! ### the reference's sets -/
/-- all lists of n of some numbers, in order -/
def setsF : List Nat → Nat → List (List Nat)
  | _, 0 => [[]]
  | [], _ + 1 => []
  | i :: l, n + 1 => (setsF l n).map (i :: ·) ++ setsF l (n + 1)
theorem setsF_mem : ∀ (l : List Nat) (n : Nat) (t : List Nat), t ∈ setsF l n ↔ t.Sublist l ∧ t.length = n := by
  intro l
  induction l with
  | nil =>
    intro n t
    cases n with
    | zero => rw [setsF]; simp
    | succ n => rw [setsF]; simp; rintro rfl; simp
  | cons i l ih =>
    intro n t
    cases n with
    | zero =>
      rw [setsF]
      constructor
      · intro h; simp at h; subst h; exact ⟨List.nil_sublist _, rfl⟩
      · rintro ⟨_, h⟩; simp [List.length_eq_zero_iff.1 h]
    | succ n =>
      rw [setsF, List.mem_append, List.mem_map]
      constructor
      · rintro (⟨s, hs, rfl⟩ | hs)
        · have := (ih n s).1 hs
          exact ⟨this.1.cons_cons i, by simp [this.2]⟩
        · have := (ih (n + 1) t).1 hs
          exact ⟨this.1.cons i, this.2⟩
      · rintro ⟨h1, h2⟩
        cases h1 with
        | cons _ h1 => right; exact (ih _ _).2 ⟨h1, h2⟩
        | @cons_cons s _ _ h1 => left; exact ⟨s, (ih _ _).2 ⟨h1, by simpa using h2⟩, rfl⟩
theorem setsF_sorted : ∀ (l : List Nat) (n : Nat), l.Pairwise (· < ·) → (setsF l n).Pairwise fun a b => cmpF (natI a) (natI b) < 0 := by
  intro l
  induction l with
  | nil => intro n _; cases n <;> rw [setsF] <;> simp
  | cons i l ih =>
    intro n hl
    rw [List.pairwise_cons] at hl
    cases n with
    | zero => rw [setsF]; simp
    | succ n =>
      rw [setsF, List.pairwise_append]
      refine ⟨?_, ih _ hl.2, fun a ha b hb => ?_⟩
      · rw [List.pairwise_map]
        refine (ih n hl.2).imp fun {a b} hab => ?_
        show cmpF ((i : Int) :: natI a) ((i : Int) :: natI b) < 0
        rw [cmpF, if_neg (Int.lt_irrefl _), if_neg (Int.lt_irrefl _)]
        exact hab
      · obtain ⟨s, _, rfl⟩ := List.mem_map.1 ha
        obtain ⟨h1, h2⟩ := (setsF_mem _ _ _).1 hb
        cases b with
        | nil => simp at h2
        | cons j b =>
          have := hl.1 j (h1.subset (by simp))
          show cmpF ((i : Int) :: natI s) ((j : Int) :: natI b) < 0
          rw [cmpF, if_pos (by omega)]; omega
theorem sureL_lt (rs : List RQ) : ∀ k, ∀ i ∈ sureL k rs, k ≤ i ∧ i < k + rs.length := by
  induction rs with
  | nil => intro k i h; cases h
  | cons x rs ih =>
    intro k i h
    rw [sureL] at h
    have := ih (k + 1) i
    simp only [List.length_cons]
    split at h
    · rcases List.mem_cons.1 h with rfl | h
      · omega
      · have := this h; omega
    · have := this h; omega
theorem sureL_sorted (rs : List RQ) : ∀ k, (sureL k rs).Pairwise (· < ·) := by
  induction rs with
  | nil => intro k; exact List.Pairwise.nil
  | cons x rs ih =>
    intro k
    rw [sureL]
    split
    · rw [List.pairwise_cons]
      refine ⟨fun i hi => ?_, ih _⟩
      have := sureL_lt rs (k + 1) i hi
      omega
    · exact ih _
/-- the first set that excludes itself, of the sets of n .. so many -/
def exclN (l : List Slot) (rs : List RQ) (sure : List Nat) (n : Nat) : Option (List Nat) := (setsF sure n).find? (exclR l rs)
def refExAll (l : List Slot) (rs : List RQ) (sure : List Nat) : Nat → Nat → Option (List Nat)
  | 0, _ => none
  | m + 1, n => match exclN l rs sure n with | some s => some s | none => refExAll l rs sure m (n + 1)
def refExcluded (l : List Slot) (rs : List RQ) : Option (List Nat) := refExAll l rs (sureN rs) (sureN rs).length 1
theorem find_sorted {p : List Nat → Bool} : ∀ {L : List (List Nat)} {s : List Nat}, L.Pairwise (fun a b => cmpF (natI a) (natI b) < 0) → L.find? p = some s → s ∈ L ∧ p s = true ∧ ∀ t ∈ L, p t = true → ¬ cmpF (natI t) (natI s) < 0 := by
  intro L
  induction L with
  | nil => intro s _ h; cases h
  | cons a L ih =>
    intro s hp h
    rw [List.pairwise_cons] at hp
    rw [List.find?_cons] at h
    cases hpa : p a with
    | true =>
      rw [hpa] at h
      cases h
      refine ⟨by simp, hpa, fun t ht hpt hlt => ?_⟩
      rcases List.mem_cons.1 ht with rfl | ht
      · rw [cmpF_self] at hlt; omega
      · have := cmpF_neg _ _ (hp.1 t ht); omega
    | false =>
      rw [hpa] at h
      obtain ⟨h1, h2, h3⟩ := ih hp.2 h
      refine ⟨by simp [h1], h2, fun t ht hpt => ?_⟩
      rcases List.mem_cons.1 ht with rfl | ht
      · rw [hpa] at hpt; cases hpt
      · exact h3 t ht hpt
theorem refExAll_some {l : List Slot} {rs : List RQ} {sure : List Nat} (hs : sure.Pairwise (· < ·)) : ∀ (m n : Nat) (s : List Nat), (∀ t, t.Sublist sure → t.length < n → exclR l rs t = false) → refExAll l rs sure m n = some s →
    s.Sublist sure ∧ exclR l rs s = true ∧ ∀ t, t.Sublist sure → exclR l rs t = true → ¬ ltS (natI t) (natI s) := by
  intro m
  induction m with
  | zero => intro n s _ h; cases h
  | succ m ih =>
    intro n s hn h
    rw [refExAll] at h
    cases hf : exclN l rs sure n with
    | some s' =>
      rw [hf] at h
      cases h
      obtain ⟨h1, h2, h3⟩ := find_sorted (setsF_sorted sure n hs) hf
      obtain ⟨h4, h5⟩ := (setsF_mem _ _ _).1 h1
      refine ⟨h4, h2, fun t ht hx hlt => ?_⟩
      rcases hlt with hlt | ⟨h6, h7⟩
      · have : t.length < n := by unfold natI at hlt; simp at hlt; omega
        rw [hn t ht this] at hx; cases hx
      · exact h3 t ((setsF_mem _ _ _).2 ⟨ht, by unfold natI at h6; simp at h6; omega⟩) hx h7
    | none =>
      rw [hf] at h
      refine ih (n + 1) s (fun t ht hl => ?_) h
      by_cases e : t.length = n
      · unfold exclN at hf
        rw [List.find?_eq_none] at hf
        have := hf t ((setsF_mem _ _ _).2 ⟨ht, e⟩)
        simpa using this
      · exact hn t ht (by omega)
theorem refExAll_none {l : List Slot} {rs : List RQ} {sure : List Nat} : ∀ (m n : Nat), refExAll l rs sure m n = none → ∀ t, t.Sublist sure → n ≤ t.length → t.length < n + m → exclR l rs t = false := by
  intro m
  induction m with
  | zero => intro n _ t _ h1 h2; omega
  | succ m ih =>
    intro n h t ht h1 h2
    rw [refExAll] at h
    cases hf : exclN l rs sure n with
    | some s' => rw [hf] at h; cases h
    | none =>
      rw [hf] at h
      by_cases e : t.length = n
      · unfold exclN at hf
        rw [List.find?_eq_none] at hf
        simpa using hf t ((setsF_mem _ _ _).2 ⟨ht, e⟩)
      · exact ih (n + 1) h t ht (by omega) (by omega)
/-- THE LAW: the program's set is the reference's -/
theorem excluded_ref {l : List Slot} {rs : List RQ} (h : Okay l rs) : exAll l rs (2 ^ (sureN rs).length) 0 [] = match refExcluded l rs with | some s => natI s | none => [] := by
  have hs : (sureN rs).Pairwise (· < ·) := sureL_sorted rs 0
  have h0 : ∀ t : List Nat, t.Sublist (sureN rs) → t.length < 1 → exclR l rs t = false := by
    intro t _ ht
    obtain rfl := List.length_eq_zero_iff.1 (show t.length = 0 by omega)
    cases hx : exclR l rs [] with
    | false => rfl
    | true => exact absurd rfl (exclR_nil h hx)
  cases hf : refExcluded l rs with
  | some s =>
    obtain ⟨h1, h2, h3⟩ := refExAll_some hs _ 1 s h0 hf
    obtain ⟨u, hu, rfl⟩ := memF_all _ _ h1
    rcases exAll_inv h (2 ^ (sureN rs).length) 0 [] (.inl ⟨rfl, fun t ht => by omega⟩) with ⟨_, h4⟩ | ⟨t, ht, hxt, he, h4⟩
    · have := h4 u (by omega); rw [h2] at this; cases this
    · rw [he] at h4 ⊢
      exact ltS_tri (h3 _ (memF_sub _ _ _) hxt) (h4 u (by omega) h2)
  | none =>
    have h1 := refExAll_none _ _ hf
    rcases exAll_inv h (2 ^ (sureN rs).length) 0 [] (.inl ⟨rfl, fun t ht => by omega⟩) with ⟨h4, _⟩ | ⟨t, ht, hxt, he, h4⟩
    · exact h4
    · exfalso
      have hsub := memF_sub t (sureN rs) 0
      have hne := exclR_nil h hxt
      have hl : 0 < (memF t 0 (sureN rs)).length := List.length_pos_iff.2 hne
      have := h1 _ hsub (by omega) (by have := hsub.length_le; omega)
      rw [this] at hxt; cases hxt
theorem refExcluded_ne {l : List Slot} {rs : List RQ} (h : Okay l rs) {s : List Nat} (hf : refExcluded l rs = some s) : s ≠ [] := by
  have h0 : ∀ t : List Nat, t.Sublist (sureN rs) → t.length < 1 → exclR l rs t = false := by
    intro t _ ht
    obtain rfl := List.length_eq_zero_iff.1 (show t.length = 0 by omega)
    cases hx : exclR l rs [] with
    | false => rfl
    | true => exact absurd rfl (exclR_nil h hx)
  exact exclR_nil h (refExAll_some (sureL_sorted rs 0) _ 1 s h0 hf).2.1
end Go.Sheet
/- Walks of the reference: Sure, Excludes. -/
namespace Go.Sheet
theorem natI_append (a b : List Nat) : natI (a ++ b) = natI a ++ natI b := by unfold natI; simp
theorem roomR_bd {l : List Slot} {rs : List RQ} (h : Okay l rs) (s : List Nat) : ∀ k, 0 ≤ roomR l rs s k ∧ roomR l rs s k ≤ 8 * (k : Int) := by
  intro k
  induction k with
  | zero => exact ⟨Int.le_refl _, Int.le_refl _⟩
  | succ k ih =>
    rw [roomR]
    push_cast
    split
    · cases hx : l[k]? with
      | none => show 0 ≤ _ + (0 : Int) ∧ _ + (0 : Int) ≤ _; omega
      | some x =>
        have := h.slot x (List.mem_of_getElem? hx)
        show 0 ≤ _ + x.p ∧ _ + x.p ≤ _
        omega
    · omega
end Go.Sheet
namespace Go.Proofs.YtbjjojoggpepjaaGreatDoor
open Go.RowKit Go.Mem Go.Sheet
set_option maxRecDepth 100000 in
set_option maxHeartbeats 2000000 in
theorem refSure_any (W : World) (vr : Value) (n : Nat) (rs : List Req) (h : RdReqs W (· < W.heap.size) vr n rs) (hn24 : n ≤ 1000) :
    Calls Tryz.prog 19 #[vr] W fun e w' => ∃ v', e = .returned v' ∧ St W w' [row 3 1 v' (sureN (rs.map Req.rq)).length ((natI (sureN (rs.map Req.rq))).map (Value.int .i64))] := by
  have HN := Lib.hid (h.1.count (f := Req.cells) (size := 3) (fun _ => rfl) (by decide))
  obtain ⟨A, c, rfl, _, _, _⟩ := h.1.open_
  have H := Lib.hid h
  generalize HRS : rs.map Req.rq = RS
  have HRS := Lib.hid HRS
  have S0 := (St.refl W).row_nil 3 1
  clear h
  go_enter Tryz.func19, Tryz.ntmps19
  go_wp2
  go_loopw [4, 3] (fun i v w' => ∃ (k : Nat) (out : List Nat), k ≤ n ∧ out.length ≤ k ∧ i = .int .i64 k ∧ Hid (out ++ sureL k (RS.drop k) = sureN RS) ∧ St W w' [row 3 1 v out.length ((natI out).map (Value.int .i64))]) (fun i _ _ => n - (intOf i).toNat)
  case atStart => exact ⟨0, [], Nat.zero_le _, Nat.zero_le _, rfl, rfl, S0⟩
  case round =>
    obtain ⟨k, out, hk, hol, rfl, he, S⟩ := hrel
    clear S0
    by_cases hlt : k < n
    · obtain ⟨b', o, x, rfl, hx, c0, c1, c2⟩ := (H.out.1.below S.bel).elem3 (k := k) (fun s : Req => .string s.name) (fun s : Req => .bool s.g) (fun s : Req => .slice s.wa s.wn s.wc) (fun _ => rfl) hlt
      have HST : Hid (out ++ (if x.g then k :: sureL (k + 1) (RS.drop (k + 1)) else sureL (k + 1) (RS.drop (k + 1))) = sureN RS) := by
        show _ = _
        rw [← he.out, drop_at (show RS[k]? = some x.rq by rw [← HRS.out, List.getElem?_map, hx]; rfl), sureL]; rfl
      obtain ⟨name, g, wa, wn, wc, ws⟩ := x
      dsimp only at c0 c1 c2 HST
      clear hx he c0 c2
      cases g with
      | true =>
        have HNX : Hid ((out ++ [k]) ++ sureL (k + 1) (RS.drop (k + 1)) = sureN RS) := by
          show _ = _
          rw [← HST.out]; simp
        clear HST
        go_wp2_with (first
          | (at_builtin
             refine wpList_append_st eltI rfl _ _ rfl rfl (S.alloc _) (k := 0) rfl rfl (rd_new (m := 1) wr #[.int .i64 k] 3 rfl (by omega) (fun _ => True) trivial) (by simp [Value.oneCell']) (by omega) (by omega) ?_
             intro v' w' S' _))
        have HS' := Lib.hid S'
        clear S' S
        go_roundw
        case rel =>
          refine ⟨k + 1, out ++ [k], by omega, by simp; omega, by go_num, HNX.out, ?_⟩
          have := HS'.out
          rw [List.length_append, natI_append, List.map_append]
          exact this
        case measure => simp [intOf]; omega
      | false =>
        have HNX : Hid (out ++ sureL (k + 1) (RS.drop (k + 1)) = sureN RS) := HST.out
        have HSS := Lib.hid S
        clear HST S
        go_wp2
        go_roundw
        case rel => exact ⟨k + 1, out, by omega, by omega, by go_num, HNX.out, HSS.out⟩
        case measure => simp [intOf]; omega
    · obtain rfl : k = n := by omega
      have HE : Hid (out = sureN RS) := by
        show _ = _
        have := he.out
        rw [List.drop_of_length_le (by rw [← HRS.out, List.length_map]; have := HN.out; omega), sureL, List.append_nil] at this
        exact this
      have HSS := Lib.hid S
      clear S he
      go_wp2
      go_ret
      refine ⟨_, rfl, ?_⟩
      rw [← HE.out]
      exact HSS.out
set_option maxRecDepth 100000 in
set_option maxHeartbeats 4000000 in
theorem refExcludes_any (W : World) (vx vr vs : Value) (nl n : Nat) (l : List Slot) (rs : List Req) (s : List Nat) (hl : Rd W (· < W.heap.size) 3 vx nl (l.flatMap Slot.cells)) (h : RdReqs W (· < W.heap.size) vr n rs) (hs : Rd W (· < W.heap.size) 1 vs s.length ((natI s).map (Value.int .i64)))
    (ok : Okay l (rs.map Req.rq)) (hb : ∀ i ∈ s, i < n) : Calls Tryz.prog 76 #[vx, vr, vs] W fun e w' => e = .returned (.bool (exclR l (rs.map Req.rq) s)) ∧ Below W.heap.size W w' := by
  have hsl := hs.le
  generalize HSL : s.length = ns at *
  have HSL := Lib.hid HSL
  have HNL := Lib.hid (hl.count (f := Slot.cells) (size := 3) (fun _ => rfl) (by decide))
  have hnl24 : nl ≤ 24 := by have := ok.nl; have := HNL.out; omega
  obtain ⟨A, c, rfl, _, _, _⟩ := h.1.open_
  obtain ⟨Al, cl, rfl, _, _, _⟩ := hl.open_
  obtain ⟨As, cs, rfl, _, _, _⟩ := hs.open_
  have HH := Lib.hid h
  have HL := Lib.hid hl
  have HS := Lib.hid hs
  have HB := Lib.hid hb
  have HOK := Lib.hid ok
  generalize HRS : rs.map Req.rq = RS at *
  have HRS' := Lib.hid HRS
  have HEX : Hid (exclR l RS s = decide (roomR l RS s nl < (ns : Int))) := by
    show _ = _
    rw [exclR, HSL.out, ← HNL.out]
  clear HRS h hl hs hb ok
  go_enter Tryz.func76, Tryz.ntmps76
  go_wp2
  go_loopw [8, 7] (fun i p w' => ∃ k : Nat, k ≤ nl ∧ i = .int .i64 k ∧ p = .int .i64 (roomR l RS s k) ∧ Below W.heap.size W w') (fun i _ _ => nl - (intOf i).toNat)
  case atStart => exact ⟨0, Nat.zero_le _, rfl, rfl, Below.refl _ _⟩
  case round =>
    obtain ⟨k, hk, rfl, rfl, hbk⟩ := hrel
    have hrb := roomR_bd HOK.out s k
    have HSTEP : Hid (roomR l RS s (k + 1) = roomR l RS s k + if s.any (fun i => decide (0 < refWAt RS i k)) then (match l[k]? with | some x => x.p | none => 0) else 0) := rfl
    generalize hrk : roomR l RS s k = rk at *
    have HRK := Lib.hid hrk
    clear hrk
    by_cases hlt : k < nl
    · go_wp2_with fail
      go_loopw [10, 9] (fun i p w' => ∃ j : Nat, j ≤ ns ∧ i = .int .i64 j ∧ p = .bool ((s.take j).any (fun i => decide (0 < refWAt RS i k))) ∧ Below W.heap.size W w') (fun i _ _ => ns - (intOf i).toNat)
      case atStart => exact ⟨0, Nat.zero_le _, rfl, rfl, hbk⟩
      case round =>
        obtain ⟨j, hj, rfl, rfl, hbj⟩ := hrel
        clear hbk
        by_cases hlj : j < ns
        · obtain ⟨b, o, si, rfl, hsi, ci⟩ := (HS.out.later hbj).int hlj
          obtain ⟨m, hm, rfl⟩ : ∃ m : Nat, s[j]? = some m ∧ si = m := by
            unfold natI at hsi
            rw [List.getElem?_map] at hsi
            cases hx : s[j]? with
            | none => rw [hx] at hsi; cases hsi
            | some m => rw [hx] at hsi; exact ⟨m, rfl, (Option.some.inj hsi).symm⟩
          have hmn := HB.out m (List.mem_of_getElem? hm)
          obtain ⟨b2, o2, x, rfl, hx, c0, c1, c2⟩ := (HH.out.1.later hbj).elem3 (k := m) (fun s : Req => .string s.name) (fun s : Req => .bool s.g) (fun s : Req => .slice s.wa s.wn s.wc) (fun _ => rfl) hmn
          have hws := (HH.out.2 x (List.mem_of_getElem? hx)).1
          have HTK : Hid ((s.take (j + 1)).any (fun i => decide (0 < refWAt RS i k)) = ((s.take j).any (fun i => decide (0 < refWAt RS i k)) || decide (0 < refW x.rq k))) := by
            show _ = _
            have hx2 : RS[m]? = some x.rq := by rw [← HRS'.out, List.getElem?_map, hx]; rfl
            rw [take_at hm, List.any_append, List.any_cons, List.any_nil, Bool.or_false, refWAt, hx2]
          have HC := Lib.hid (refWeight_any wr x k (hws.later hbj))
          obtain ⟨name, g, wa, wn, wc, ws⟩ := x
          dsimp only at c0 c1 c2
          clear hsi hm hx hws
          generalize (s.take j).any (fun i => decide (0 < refWAt RS i k)) = pj at *
          generalize refW (Req.rq ⟨name, g, wa, wn, wc, ws⟩) k = R at *
          cases pj with
          | true =>
            have HT2 : Hid ((s.take (j + 1)).any (fun i => decide (0 < refWAt RS i k)) = true) := by show _ = _; rw [HTK.out]; rfl
            clear HTK HC
            go_wp2
            go_roundw
            case rel => exact ⟨j + 1, by omega, by go_num, by rw [HT2.out], hbj⟩
            case measure => simp [intOf]; omega
          | false =>
            have HT2 : Hid ((s.take (j + 1)).any (fun i => decide (0 < refWAt RS i k)) = decide (0 < R)) := by show _ = _; rw [HTK.out]; rfl
            clear HTK
            go_wp2_with fail
            refine HC.out.mono ?_
            rintro e w9 ⟨rfl, hb9⟩
            have hbj2 := hbj.trans (hb9.mono hbj.size)
            clear hbj hb9 HC c0 c1 c2 ci
            go_wp2
            go_roundw
            case rel => exact ⟨j + 1, by omega, by go_num, by rw [HT2.out], hbj2⟩
            case measure => simp [intOf]; omega
        · obtain rfl : j = ns := by omega
          have HALL : Hid ((s.take j).any (fun i => decide (0 < refWAt RS i k)) = s.any (fun i => decide (0 < refWAt RS i k))) := by
            show _ = _
            rw [List.take_of_length_le (by have := HSL.out; omega)]
          rw [HALL.out]
          obtain ⟨b, o, x, rfl, hx, c0, c1, c2⟩ := (HL.out.later hbj).elem3 (k := k) (fun s : Slot => .int .i64 s.m) (fun s : Slot => .int .i64 s.h) (fun s : Slot => .int .i64 s.p) (fun _ => rfl) hlt
          have hxp := HOK.out.slot x (List.mem_of_getElem? hx)
          rw [hx] at HSTEP
          dsimp only at HSTEP
          obtain ⟨xm, xh, xp⟩ := x
          dsimp only at c0 c1 c2 hxp HSTEP
          clear hx HALL
          generalize s.any (fun i => decide (0 < refWAt RS i k)) = pw at *
          cases pw with
          | true =>
            have HST2 : Hid (roomR l RS s (k + 1) = rk + xp) := HSTEP.out
            clear HSTEP
            go_wp2
            go_roundw
            case rel => exact ⟨k + 1, by omega, by go_num, by rw [HST2.out], hbj⟩
            case measure => simp [intOf]; omega
          | false =>
            have HST2 : Hid (roomR l RS s (k + 1) = rk) := by
              show _ = _
              rw [HSTEP.out]; simp
            clear HSTEP
            go_wp2
            go_roundw
            case rel => exact ⟨k + 1, by omega, by go_num, by rw [HST2.out], hbj⟩
            case measure => simp [intOf]; omega
    · obtain rfl : k = nl := by omega
      go_wp2
      go_ret
      exact ⟨ret_bool (by rw [HEX.out, HRK.out]), hbk⟩
end Go.Proofs.YtbjjojoggpepjaaGreatDoor
/- Walk of the reference's sets. -/
namespace Go.Mem
theorem Rd.drop {w : World} {S : Nat → Prop} {b o n c k : Nat} {xs : List Value} (h : Rd w S 1 (.slice (some ⟨b, o, none⟩) n c) n xs) (hk : k ≤ n) : Rd w S 1 (.slice (some ⟨b, o + k, none⟩) (n - k) (c - k)) (n - k) (xs.drop k) := by
  obtain ⟨A, c', hv, h1, h2, h3, h4, h5⟩ := h
  injection hv with e1 e2 e3
  subst e1 e3
  refine ⟨_, _, rfl, by omega, by omega, by rw [List.length_drop, h3]; omega, (fun h => by cases h), fun hn => ?_⟩
  obtain ⟨b', o', hA, hS, hb, hc⟩ := h5 (by omega)
  cases hA
  refine ⟨b, o + k, rfl, hS, hb, fun j u hj => ?_⟩
  rw [Nat.add_assoc]
  exact hc (k + j) u (by rw [← hj, List.getElem?_drop])
end Go.Mem
namespace Go.Sheet
open Go.RowKit Go.Mem
/-- a table that is only read -/
def tabA (v : Value) (T : List (List Int)) : Asr where
  holds w F := RdRows w F v T
  loc := fun ⟨vs, h1, h2⟩ hs hk => ⟨vs, h1.loc hs hk, fun i x r hx hr => (h2 i x r hx hr).loc hs hk⟩
  mono := fun ⟨vs, h1, h2⟩ hh => ⟨vs, h1.mono fun b _ => hh b, fun i x r hx hr => (h2 i x r hx hr).mono fun b _ => hh b⟩
theorem st_tab {W w : World} {L : List Asr} {t : TypeId} {v : Value} {k : Nat} {vs : List Value} {T : List (List Int)} {ms : List (Value × List Value)} (h : St W w (L ++ [row t 1 v k vs, rdAll ms])) (hT : Tabs ms k vs T) : St W w (L ++ [tabA v T]) := by
  refine h.merge fun F1 F2 h1 h2 => ?_
  obtain ⟨l1, l2, l3⟩ := hT
  refine ⟨vs, ?_, fun i x r hx hr => ?_⟩
  · rw [l2, List.map_id]
    exact (row_holds_rd h1).mono fun b _ hb => .inl hb
  · have hm := h2 _ (l3 i x r hx hr)
    dsimp only at hm
    rw [show (ints r).length = r.length by rw [ints, List.length_map]] at hm
    exact hm.mono fun b _ hb => .inr hb
theorem st_tab_rd {W w : World} {L : List Asr} {i : Nat} {v : Value} {T : List (List Int)} (h : St W w L) (hi : L[i]? = some (tabA v T)) : RdRows w (· < w.heap.size) v T := by
  obtain ⟨F, h1, vs, h2, h3⟩ := h.get hi
  exact ⟨vs, h2.mono fun b hb _ => hb, fun i x r hx hr => (h3 i x r hx hr).mono fun b hb _ => hb⟩
theorem setsF_len : ∀ (l : List Nat) (n : Nat), (setsF l n).length ≤ 2 ^ l.length := by
  intro l
  induction l with
  | nil => intro n; cases n <;> simp [setsF]
  | cons x l ih =>
    intro n
    cases n with
    | zero => rw [setsF]; simp; exact Nat.one_le_two_pow
    | succ n =>
      rw [setsF, List.length_append, List.length_map, List.length_cons, Nat.pow_succ]
      have := ih n
      have := ih (n + 1)
      omega
end Go.Sheet
namespace Go.Proofs.YtbjjojoggpepjaaGreatDoor
open Go.RowKit Go.Mem Go.Sheet
theorem eltLL : Elt Tryz.prog 55 24 (.slice none 0 0) 1 24 := ⟨Tryz.underlying55, by kernel_rfl, rfl, by decide⟩
set_option maxRecDepth 100000 in
set_option maxHeartbeats 4000000 in
theorem refSets_any : ∀ (n : Nat) (l : List Nat) (W : World) (v : Value), Rd W (· < W.heap.size) 1 v l.length ((natI l).map (Value.int .i64)) → l.length ≤ 12 → n ≤ 100 →
    Calls Tryz.prog 75 #[v, .int .i64 n] W fun e w' => ∃ v', e = .returned v' ∧ St W w' [tabA v' ((setsF l n).map natI)] := by
  intro n
  induction n with
  | zero =>
    intro l W v h hl hn
    have S1 := (St.refl W).row_new (e := 3) (size := 1) (n := 0) #[] (by unfold maxLen; omega) rfl
    have S2 := S1.row_new (e := 24) (size := 1) (n := 1) #[.slice (some ⟨W.heap.size, 0, none⟩) 0 0] (by unfold maxLen; omega) rfl
    simp only [List.nil_append, List.cons_append, World.size_alloc] at S2
    have HS2 := Lib.hid S2
    have HF : Hid ((setsF l 0).map natI = [[]]) := by show _ = _; rw [setsF]; rfl
    clear S1 S2 h
    go_enter Tryz.func75, Tryz.ntmps75
    go_wp2
    go_ret
    refine ⟨_, rfl, ?_⟩
    rw [HF.out]
    refine St.merge (L := []) (A := row 3 1 (.slice (some ⟨W.heap.size, 0, none⟩) 0 0) 0 []) (B := row 24 1 (.slice (some ⟨W.heap.size + 1, 0, none⟩) 1 1) 1 [.slice (some ⟨W.heap.size, 0, none⟩) 0 0]) HS2.out fun F1 F2 h1 h2 => ?_
    refine ⟨[.slice (some ⟨W.heap.size, 0, none⟩) 0 0], (row_holds_rd h2).mono fun b _ hb => .inr hb, fun i x r hx hr => ?_⟩
    match i with
    | 0 => cases hx; cases hr; exact (row_holds_rd h1).mono fun b _ hb => .inl hb
    | i + 1 => cases hx
  | succ n ih =>
    intro l W v h hl hn
    have IH := Lib.hid ih
    obtain ⟨z0, hz0⟩ : ∃ z : Int, ((n + 1 : Nat) : Int) = z := ⟨_, rfl⟩
    rw [hz0]
    have hz1 : z0 - 1 = (n : Int) := by omega
    have hz2 : (z0 == 0) = false := by simp; omega
    obtain ⟨hzb1, hzb2⟩ : 1 ≤ z0 ∧ z0 ≤ 100 := by omega
    clear hz0
    obtain ⟨A, c, rfl, _, _, _⟩ := h.open_
    have H := Lib.hid h
    generalize HLL : l.length = nl at *
    have HLL := Lib.hid HLL
    have S0 := ((St.refl W).row_nil 24 1).push (A := rdAll []) (F := fun _ => False) (Below.refl _ _) (fun p hp => by cases hp) (fun b hb => hb.elim)
    simp only [List.nil_append, List.cons_append] at S0
    clear ih h
    go_enter Tryz.func75, Tryz.ntmps75
    go_wp2
    go_loopw [6, 5] (fun i v w' => ∃ (k : Nat) (out : List (List Nat)) (vs : List Value) (ms : List (Value × List Value)), k ≤ nl ∧ i = .int .i64 k ∧ Hid (out ++ setsF (l.drop k) (n + 1) = setsF l (n + 1)) ∧ Hid (Tabs ms out.length vs (out.map natI)) ∧
        St W w' [row 24 1 v out.length vs, rdAll ms]) (fun i _ _ => nl - (intOf i).toNat)
    case atStart => exact ⟨0, [], [], [], Nat.zero_le _, rfl, rfl, Tabs.nil _, S0⟩
    case round =>
      obtain ⟨k, out, vs, ms, hk, rfl, he, hT, S⟩ := hrel
      clear S0
      by_cases hlt : k < nl
      · obtain ⟨x, hx⟩ : ∃ x, l[k]? = some x := ⟨_, List.getElem?_eq_getElem (by have := HLL.out; omega)⟩
        obtain ⟨b, o, z, rfl, hz, cz⟩ := (H.out.below S.bel).int hlt
        have hzx : z = (x : Int) := by
          unfold natI at hz
          rw [List.getElem?_map, hx] at hz
          exact (Option.some.inj hz).symm
        subst hzx
        have HST : Hid (out ++ ((setsF (l.drop (k + 1)) n).map (x :: ·) ++ setsF (l.drop (k + 1)) (n + 1)) = setsF l (n + 1)) := by
          show _ = _
          rw [← he.out, drop_at hx, setsF]
        have HDR : Hid ((l.drop (k + 1)).length = nl - (k + 1)) := by
          show _ = _
          rw [List.length_drop, HLL.out]
        have HSUB : Hid (∀ r ∈ setsF (l.drop (k + 1)) n, r.length = n) := fun r hr => ((setsF_mem _ _ _).1 hr).2
        have HLEN : Hid (out.length + (setsF (l.drop (k + 1)) n).length ≤ 4096) := by
          show _ ≤ _
          have h1 := setsF_len l (n + 1)
          rw [← HST.out, List.length_append, List.length_append, List.length_map] at h1
          have h2 : 2 ^ l.length ≤ 2 ^ 12 := Nat.pow_le_pow_right (by omega) (by rw [HLL.out]; exact hl)
          have h3 : (2 : Nat) ^ 12 = 4096 := by decide
          omega
        have hVV : (c = k + 1 ∧ Hid (Rd wr (· < wr.heap.size) 1 (.slice (some ⟨b, o, none⟩) 0 0) (l.drop (k + 1)).length ((natI (l.drop (k + 1))).map (Value.int .i64)))) ∨
            (k + 1 < c ∧ Hid (Rd wr (· < wr.heap.size) 1 (.slice (some ⟨b, o + (k + 1), none⟩) (nl - (k + 1)) (c - (k + 1))) (l.drop (k + 1)).length ((natI (l.drop (k + 1))).map (Value.int .i64)))) := by
          by_cases hcap : c = k + 1
          · left
            have hnk : nl = k + 1 := by omega
            have hd : l.drop (k + 1) = [] := List.drop_of_length_le (by rw [HLL.out]; omega)
            refine ⟨hcap, ?_⟩
            show Rd _ _ _ _ _ _
            rw [hd]
            exact ⟨_, 0, rfl, Nat.le_refl _, Nat.zero_le _, rfl, (fun h => by cases h), fun h => absurd h (by decide)⟩
          · right
            refine ⟨by omega, ?_⟩
            show Rd _ _ _ _ _ _
            rw [HDR.out]
            have h1 := ((H.out.below S.bel).drop (k := k + 1) (by omega)).now
            rw [← List.map_drop] at h1
            rwa [show natI (l.drop (k + 1)) = (natI l).drop (k + 1) by unfold natI; rw [List.map_drop]]
        have HZX := Lib.hid (show (natI l)[k]? = some (x : Int) by unfold natI; rw [List.getElem?_map, hx]; rfl)
        clear hx hz he cz
        rcases hVV with ⟨hc1, hV⟩ | ⟨hc1, hV⟩
        · subst hc1
          go_wp2_with fail
          refine (IH.out (l.drop (k + 1)) wr _ hV.out (by rw [HDR.out]; omega) (by omega)).mono ?_
          rintro e w7 ⟨v7, rfl, S7'⟩
          have S7 := S.call S7'
          have hr7 := st_tab_rd (i := 0) S7' rfl
          simp only [List.cons_append, List.nil_append] at S7
          clear S7'
          generalize setsF (l.drop (k + 1)) n = rest at *
          have hrb : rest.length ≤ 4096 := by have := HLEN.out; omega
          obtain ⟨vs7, h7a, h7b⟩ := hr7
          simp only [List.length_map] at h7a
          obtain ⟨A7, c7, rfl, _, _, h7a⟩ := h7a.open_
          clear h7a h7b S hV
          go_wp2
          go_loopw [8, 5] (fun j v w' => ∃ (m : Nat) (out2 : List (List Nat)) (vs : List Value) (ms : List (Value × List Value)), m ≤ rest.length ∧ j = .int .i64 m ∧ Hid (out2 = out ++ (rest.take m).map (x :: ·)) ∧ Hid (Tabs ms out2.length vs (out2.map natI)) ∧
              St W w' [row 24 1 v out2.length vs, rdAll ms, tabA (.slice A7 rest.length c7) (rest.map natI)]) (fun j _ _ => rest.length - (intOf j).toNat)
          case atStart => exact ⟨0, out, vs, ms, Nat.zero_le _, rfl, by show _ = _; simp, hT.out, S7⟩
          case round =>
            obtain ⟨m, out2, vs2, ms2, hm, rfl, ho2, hT2, S⟩ := hrel
            clear S7
            by_cases hlm : m < rest.length
            · have hl2 : out2.length + 1 ≤ 4096 := by
                have h1 := HLEN.out
                rw [ho2.out, List.length_append, List.length_map, List.length_take]
                omega
              obtain ⟨vs7, h7a, h7b⟩ := st_tab_rd (i := 2) S rfl
              simp only [List.length_map] at h7a
              obtain ⟨b7, o7, y, rfl, hy, cy⟩ := h7a.val hlm
              have hrm : rest[m]? = some rest[m] := List.getElem?_eq_getElem hlm
              have hrow := h7b m y (natI rest[m]) hy (by rw [List.getElem?_map, hrm]; rfl)
              have hrl : rest[m].length = n := HSUB.out _ (List.getElem_mem hlm)
              have HTK : Hid (rest.take (m + 1) = rest.take m ++ [rest[m]]) := take_at hrm
              generalize rest[m] = r at *
              have hnl2 : (natI r).length = n := by unfold natI; rw [List.length_map, hrl]
              rw [hnl2] at hrow
              obtain ⟨Ay, cyp, rfl, _, _, hrow⟩ := hrow.open_
              obtain ⟨b', o', z', hA', hz', cz⟩ := (H.out.below S.bel).int hlt
              cases hA'
              cases Option.some.inj (hz'.symm.trans HZX.out)
              have hblk := World.block_lt_of_cell? _ _ cz
              have hblk7 := World.block_lt_of_cell? _ _ cy
              have HROW := Lib.hid hrow
              have HNL2 := Lib.hid hnl2
              clear hy hrm hrow hz' hrl hnl2 h7a h7b
              go_wp2_with fail
              refine wp_head_tail' 1 10 1 [0] [1, 2, 3, 4, 6, 7, 8, 9] rfl (fun w' => Below wr.heap.size wr w') (by kernel_rfl) (by kernel_rfl) (Below.refl _ _).drew ?_
              simp only [pick, List.filterMap_cons, List.filterMap_nil, List.getElem?_toArray, List.getElem?_cons_succ, List.getElem?_cons_zero]
              generalize hK : (fun w' => Below wr.heap.size wr w') = K
              have kb : ∀ z : Wd K, Below wr.heap.size wr z.w := by subst hK; exact fun z => z.h
              have hK2 : ∀ w', Below wr.heap.size wr w' → K w' := by subst hK; exact fun _ h => h
              have hne : Nonempty (Wd K) := ⟨⟨wr, hK2 _ (Below.refl _ _)⟩⟩
              have y0 : ∀ u : Wd K, u.w.cell? ⟨b, o + k, none⟩ = some (.int .i64 x) := fun u => ((kb u).cell (p := ⟨b, o + k, none⟩) hblk).trans cz
              have y1 : ∀ u : Wd K, u.w.cell? ⟨b7, o7 + m, none⟩ = some (.slice Ay n cyp) := fun u => ((kb u).cell (p := ⟨b7, o7 + m, none⟩) hblk7).trans cy
              clear hK cz cy
              change wpQuiet _ _ _ _ (_ :: []) _
              repeat (go_big_quiet_step ((fail)))
              refine wpQuiet_nil ?_
              change wpQuiet _ _ _ _ (_ :: _ :: _ :: _ :: _ :: _ :: _ :: _ :: []) _
              repeat (go_big_quiet_step ((fail)))
              refine wpQuiet_nil ?_
              clear y0 y1 hne kb
              refine headW_all (rs := [5]) (by kernel_rfl) (by simp) (by kernel_rfl) ?_
              intro i5 hi5
              obtain rfl := List.mem_singleton.1 hi5
              refine wpOp_list rfl ?_
              intro Q' hQ'
              go_wp2_with fail
              refine ⟨hK2 _ ((Below.refl _ _).alloc (Nat.le_refl _) _).drew, by kernel_rfl, ?_⟩
              have hba : Below wr.heap.size wr (wr.alloc (.cells #[.int .i64 x] 3)).drew := ((Below.refl _ _).alloc (Nat.le_refl _) _).drew
              have SA := (S.row_new (e := 3) (size := 1) (n := 1) #[.int .i64 x] (by unfold maxLen; omega) rfl).drew
              simp only [List.cons_append, List.nil_append] at SA
              have hrow2 := HROW.out.later hba
              clear hK2 hba S
              generalize (wr.alloc (.cells #[.int .i64 x] 3)).drew = w8 at *
              generalize wr.heap.size = g8 at *
              refine wpList_append_st eltI rfl _ _ rfl rfl SA (k := 3) rfl rfl hrow2 (ints_one _ _) (by omega) (by omega) ?_
              intro v9 w9 S9 hext9
              obtain ⟨A9, c9, rfl, _, _, _⟩ := (S9.row_rd (i := 3) rfl).open_
              go_wp2_with (first
                | (at_builtin
                   refine wpList_append_st eltLL rfl _ _ rfl rfl (S9.alloc _) (k := 0) rfl rfl (rd_one rfl) (by simp [Value.oneCell']) (by omega) (by omega) ?_
                   intro v10 w10 S10 hext10))
              refine NoPanic.normal ?_
              have HS10 := Lib.hid S10
              clear S10 S9 hrow2
              go_wp2
              go_roundw
              case rel =>
                have S11 : St W w10 [row 24 1 v10 (out2.length + 1) (vs2 ++ [.slice A9 (1 + n) c9]), rdAll ms2, tabA (.slice (some ⟨b7, o7, none⟩) rest.length c7) (rest.map natI), row 3 1 (.slice A9 (1 + n) c9) (1 + n) (ints (natI (x :: r)))] := HS10.out
                have hln : (ints (natI (x :: r))).length = 1 + n := by
                  rw [ints, List.length_map, show natI (x :: r) = (x : Int) :: natI r from rfl, List.length_cons, HNL2.out]; omega
                rw [← hln] at S11
                have S12 := (S11.perm (L' := [row 24 1 v10 (out2.length + 1) (vs2 ++ [.slice A9 (ints (natI (x :: r))).length c9]), tabA (.slice (some ⟨b7, o7, none⟩) rest.length c7) (rest.map natI)] ++ [rdAll ms2, row 3 1 (.slice A9 (ints (natI (x :: r))).length c9) (ints (natI (x :: r))).length (ints (natI (x :: r)))]) (.cons _ (List.perm_append_comm (l₁ := [rdAll ms2]) (l₂ := [tabA (.slice (some ⟨b7, o7, none⟩) rest.length c7) (rest.map natI)]) |>.append_right _))).freeze
                have S12' : St W w10 [row 24 1 v10 (out2.length + 1) (vs2 ++ [.slice A9 (ints (natI (x :: r))).length c9]), tabA (.slice (some ⟨b7, o7, none⟩) rest.length c7) (rest.map natI), rdAll (ms2 ++ [(.slice A9 (ints (natI (x :: r))).length c9, ints (natI (x :: r)))])] := S12
                have S13 := S12'.perm (.cons _ (.swap _ _ _))
                refine ⟨m + 1, out2 ++ [x :: r], _, _, by omega, by go_num, ?_, ?_, by rw [List.length_append]; exact S13⟩
                · show _ = _
                  rw [HTK.out, List.map_append, ← List.append_assoc, ← ho2.out]; rfl
                · show Tabs _ _ _ _
                  rw [List.length_append, List.map_append]
                  exact hT2.out.snoc (fun p hp => List.mem_append_left _ hp) (List.mem_append_right _ (List.mem_singleton.2 rfl))
              case measure => simp [intOf]; omega
            · obtain rfl : m = rest.length := by omega
              have HO3 : Hid (out2 = out ++ rest.map (x :: ·)) := by
                show _ = _
                rw [ho2.out, List.take_of_length_le (Nat.le_refl _)]
              have HST2 : Hid (out2 ++ setsF (l.drop (k + 1)) (n + 1) = setsF l (n + 1)) := by
                show _ = _
                rw [HO3.out, ← HST.out, List.append_assoc]
              have HSS := Lib.hid (S.sub (L' := [_, rdAll ms2]) (.cons_cons _ (.cons_cons _ (.cons _ (List.Sublist.refl _)))))
              clear S ho2
              go_wp2
              go_roundw
              case rel => exact ⟨k + 1, out2, vs2, ms2, by omega, by go_num, HST2.out, hT2.out, HSS.out⟩
              case measure => simp [intOf]; omega
        · go_wp2_with fail
          refine (IH.out (l.drop (k + 1)) wr _ hV.out (by rw [HDR.out]; omega) (by omega)).mono ?_
          rintro e w7 ⟨v7, rfl, S7'⟩
          have S7 := S.call S7'
          have hr7 := st_tab_rd (i := 0) S7' rfl
          simp only [List.cons_append, List.nil_append] at S7
          clear S7'
          generalize setsF (l.drop (k + 1)) n = rest at *
          have hrb : rest.length ≤ 4096 := by have := HLEN.out; omega
          obtain ⟨vs7, h7a, h7b⟩ := hr7
          simp only [List.length_map] at h7a
          obtain ⟨A7, c7, rfl, _, _, h7a⟩ := h7a.open_
          clear h7a h7b S hV
          go_wp2
          go_loopw [8, 5] (fun j v w' => ∃ (m : Nat) (out2 : List (List Nat)) (vs : List Value) (ms : List (Value × List Value)), m ≤ rest.length ∧ j = .int .i64 m ∧ Hid (out2 = out ++ (rest.take m).map (x :: ·)) ∧ Hid (Tabs ms out2.length vs (out2.map natI)) ∧
              St W w' [row 24 1 v out2.length vs, rdAll ms, tabA (.slice A7 rest.length c7) (rest.map natI)]) (fun j _ _ => rest.length - (intOf j).toNat)
          case atStart => exact ⟨0, out, vs, ms, Nat.zero_le _, rfl, by show _ = _; simp, hT.out, S7⟩
          case round =>
            obtain ⟨m, out2, vs2, ms2, hm, rfl, ho2, hT2, S⟩ := hrel
            clear S7
            by_cases hlm : m < rest.length
            · have hl2 : out2.length + 1 ≤ 4096 := by
                have h1 := HLEN.out
                rw [ho2.out, List.length_append, List.length_map, List.length_take]
                omega
              obtain ⟨vs7, h7a, h7b⟩ := st_tab_rd (i := 2) S rfl
              simp only [List.length_map] at h7a
              obtain ⟨b7, o7, y, rfl, hy, cy⟩ := h7a.val hlm
              have hrm : rest[m]? = some rest[m] := List.getElem?_eq_getElem hlm
              have hrow := h7b m y (natI rest[m]) hy (by rw [List.getElem?_map, hrm]; rfl)
              have hrl : rest[m].length = n := HSUB.out _ (List.getElem_mem hlm)
              have HTK : Hid (rest.take (m + 1) = rest.take m ++ [rest[m]]) := take_at hrm
              generalize rest[m] = r at *
              have hnl2 : (natI r).length = n := by unfold natI; rw [List.length_map, hrl]
              rw [hnl2] at hrow
              obtain ⟨Ay, cyp, rfl, _, _, hrow⟩ := hrow.open_
              obtain ⟨b', o', z', hA', hz', cz⟩ := (H.out.below S.bel).int hlt
              cases hA'
              cases Option.some.inj (hz'.symm.trans HZX.out)
              have hblk := World.block_lt_of_cell? _ _ cz
              have hblk7 := World.block_lt_of_cell? _ _ cy
              have HROW := Lib.hid hrow
              have HNL2 := Lib.hid hnl2
              clear hy hrm hrow hz' hrl hnl2 h7a h7b
              go_wp2_with fail
              refine wp_head_tail' 1 10 1 [0] [1, 2, 3, 4, 6, 7, 8, 9] rfl (fun w' => Below wr.heap.size wr w') (by kernel_rfl) (by kernel_rfl) (Below.refl _ _).drew ?_
              simp only [pick, List.filterMap_cons, List.filterMap_nil, List.getElem?_toArray, List.getElem?_cons_succ, List.getElem?_cons_zero]
              generalize hK : (fun w' => Below wr.heap.size wr w') = K
              have kb : ∀ z : Wd K, Below wr.heap.size wr z.w := by subst hK; exact fun z => z.h
              have hK2 : ∀ w', Below wr.heap.size wr w' → K w' := by subst hK; exact fun _ h => h
              have hne : Nonempty (Wd K) := ⟨⟨wr, hK2 _ (Below.refl _ _)⟩⟩
              have y0 : ∀ u : Wd K, u.w.cell? ⟨b, o + k, none⟩ = some (.int .i64 x) := fun u => ((kb u).cell (p := ⟨b, o + k, none⟩) hblk).trans cz
              have y1 : ∀ u : Wd K, u.w.cell? ⟨b7, o7 + m, none⟩ = some (.slice Ay n cyp) := fun u => ((kb u).cell (p := ⟨b7, o7 + m, none⟩) hblk7).trans cy
              clear hK cz cy
              change wpQuiet _ _ _ _ (_ :: []) _
              repeat (go_big_quiet_step ((fail)))
              refine wpQuiet_nil ?_
              change wpQuiet _ _ _ _ (_ :: _ :: _ :: _ :: _ :: _ :: _ :: _ :: []) _
              repeat (go_big_quiet_step ((fail)))
              refine wpQuiet_nil ?_
              clear y0 y1 hne kb
              refine headW_all (rs := [5]) (by kernel_rfl) (by simp) (by kernel_rfl) ?_
              intro i5 hi5
              obtain rfl := List.mem_singleton.1 hi5
              refine wpOp_list rfl ?_
              intro Q' hQ'
              go_wp2_with fail
              refine ⟨hK2 _ ((Below.refl _ _).alloc (Nat.le_refl _) _).drew, by kernel_rfl, ?_⟩
              have hba : Below wr.heap.size wr (wr.alloc (.cells #[.int .i64 x] 3)).drew := ((Below.refl _ _).alloc (Nat.le_refl _) _).drew
              have SA := (S.row_new (e := 3) (size := 1) (n := 1) #[.int .i64 x] (by unfold maxLen; omega) rfl).drew
              simp only [List.cons_append, List.nil_append] at SA
              have hrow2 := HROW.out.later hba
              clear hK2 hba S
              generalize (wr.alloc (.cells #[.int .i64 x] 3)).drew = w8 at *
              generalize wr.heap.size = g8 at *
              refine wpList_append_st eltI rfl _ _ rfl rfl SA (k := 3) rfl rfl hrow2 (ints_one _ _) (by omega) (by omega) ?_
              intro v9 w9 S9 hext9
              obtain ⟨A9, c9, rfl, _, _, _⟩ := (S9.row_rd (i := 3) rfl).open_
              go_wp2_with (first
                | (at_builtin
                   refine wpList_append_st eltLL rfl _ _ rfl rfl (S9.alloc _) (k := 0) rfl rfl (rd_one rfl) (by simp [Value.oneCell']) (by omega) (by omega) ?_
                   intro v10 w10 S10 hext10))
              refine NoPanic.normal ?_
              have HS10 := Lib.hid S10
              clear S10 S9 hrow2
              go_wp2
              go_roundw
              case rel =>
                have S11 : St W w10 [row 24 1 v10 (out2.length + 1) (vs2 ++ [.slice A9 (1 + n) c9]), rdAll ms2, tabA (.slice (some ⟨b7, o7, none⟩) rest.length c7) (rest.map natI), row 3 1 (.slice A9 (1 + n) c9) (1 + n) (ints (natI (x :: r)))] := HS10.out
                have hln : (ints (natI (x :: r))).length = 1 + n := by
                  rw [ints, List.length_map, show natI (x :: r) = (x : Int) :: natI r from rfl, List.length_cons, HNL2.out]; omega
                rw [← hln] at S11
                have S12 := (S11.perm (L' := [row 24 1 v10 (out2.length + 1) (vs2 ++ [.slice A9 (ints (natI (x :: r))).length c9]), tabA (.slice (some ⟨b7, o7, none⟩) rest.length c7) (rest.map natI)] ++ [rdAll ms2, row 3 1 (.slice A9 (ints (natI (x :: r))).length c9) (ints (natI (x :: r))).length (ints (natI (x :: r)))]) (.cons _ (List.perm_append_comm (l₁ := [rdAll ms2]) (l₂ := [tabA (.slice (some ⟨b7, o7, none⟩) rest.length c7) (rest.map natI)]) |>.append_right _))).freeze
                have S12' : St W w10 [row 24 1 v10 (out2.length + 1) (vs2 ++ [.slice A9 (ints (natI (x :: r))).length c9]), tabA (.slice (some ⟨b7, o7, none⟩) rest.length c7) (rest.map natI), rdAll (ms2 ++ [(.slice A9 (ints (natI (x :: r))).length c9, ints (natI (x :: r)))])] := S12
                have S13 := S12'.perm (.cons _ (.swap _ _ _))
                refine ⟨m + 1, out2 ++ [x :: r], _, _, by omega, by go_num, ?_, ?_, by rw [List.length_append]; exact S13⟩
                · show _ = _
                  rw [HTK.out, List.map_append, ← List.append_assoc, ← ho2.out]; rfl
                · show Tabs _ _ _ _
                  rw [List.length_append, List.map_append]
                  exact hT2.out.snoc (fun p hp => List.mem_append_left _ hp) (List.mem_append_right _ (List.mem_singleton.2 rfl))
              case measure => simp [intOf]; omega
            · obtain rfl : m = rest.length := by omega
              have HO3 : Hid (out2 = out ++ rest.map (x :: ·)) := by
                show _ = _
                rw [ho2.out, List.take_of_length_le (Nat.le_refl _)]
              have HST2 : Hid (out2 ++ setsF (l.drop (k + 1)) (n + 1) = setsF l (n + 1)) := by
                show _ = _
                rw [HO3.out, ← HST.out, List.append_assoc]
              have HSS := Lib.hid (S.sub (L' := [_, rdAll ms2]) (.cons_cons _ (.cons_cons _ (.cons _ (List.Sublist.refl _)))))
              clear S ho2
              go_wp2
              go_roundw
              case rel => exact ⟨k + 1, out2, vs2, ms2, by omega, by go_num, HST2.out, hT2.out, HSS.out⟩
              case measure => simp [intOf]; omega
      · obtain rfl : k = nl := by omega
        have HE : Hid (out = setsF l (n + 1)) := by
          show _ = _
          have := he.out
          rw [List.drop_of_length_le (by have := HLL.out; omega), setsF, List.append_nil] at this
          exact this
        have HSS := Lib.hid S
        clear S he
        go_wp2
        go_ret
        refine ⟨_, rfl, ?_⟩
        rw [← HE.out]
        exact st_tab (L := []) HSS.out hT.out
end Go.Proofs.YtbjjojoggpepjaaGreatDoor
/- Walk of the reference's Excluded. -/
namespace Go.Proofs.YtbjjojoggpepjaaGreatDoor
open Go.RowKit Go.Mem Go.Sheet
set_option maxRecDepth 100000 in
set_option maxHeartbeats 400000 in
theorem refExcluded_any (W : World) (vx vr : Value) (nl n : Nat) (l : List Slot) (rs : List Req) (hl : Rd W (· < W.heap.size) 3 vx nl (l.flatMap Slot.cells)) (h : RdReqs W (· < W.heap.size) vr n rs) (ok : Okay l (rs.map Req.rq)) (h12 : (sureN (rs.map Req.rq)).length ≤ 12) :
    Calls Tryz.prog 21 #[vx, vr] W fun e w' => ∃ v', e = .returned v' ∧ Below W.heap.size W w' ∧ (refExcluded l (rs.map Req.rq) = none → v' = .slice none 0 0) ∧
      (∀ s, refExcluded l (rs.map Req.rq) = some s → (∃ b o c, v' = .slice (some ⟨b, o, none⟩) s.length c) ∧ Rd w' (· < w'.heap.size) 1 v' s.length ((natI s).map (Value.int .i64))) := by
  have HN := Lib.hid (h.1.count (f := Req.cells) (size := 3) (fun _ => rfl) (by decide))
  have hn24 : n ≤ 24 := by have := ok.nr; have := HN.out; rw [List.length_map] at *; omega
  have HSV := Lib.hid (refSure_any W vr n rs h (by omega))
  have HL := Lib.hid hl
  have HH := Lib.hid h
  have HOK := Lib.hid ok
  have HSL : Hid (∀ i ∈ sureN (rs.map Req.rq), i < n) := fun i hi => by
    have := (sureL_lt (rs.map Req.rq) 0 i hi).2
    rw [List.length_map] at this
    have := HN.out
    omega
  have HRE : Hid (refExAll l (rs.map Req.rq) (sureN (rs.map Req.rq)) (sureN (rs.map Req.rq)).length 1 = refExcluded l (rs.map Req.rq)) := rfl
  obtain ⟨A, c, rfl, _, _, _⟩ := h.1.open_
  obtain ⟨Al, cl, rfl, _, _, _⟩ := hl.open_
  generalize HRX : refExcluded l (rs.map Req.rq) = RX at *
  clear HRX
  generalize hsu : sureN (rs.map Req.rq) = su at *
  clear hsu h hl ok
  go_enter Tryz.func21, Tryz.ntmps21
  go_wp2_with fail
  refine HSV.out.mono ?_
  rintro e w1 ⟨v1, rfl, S1⟩
  have hb1 := S1.bel
  have hv1 := (S1.row_rd (i := 0) rfl).now
  obtain ⟨A1, c1, rfl, _, _, _⟩ := hv1.open_
  have HV1 := Lib.hid hv1
  clear S1 hv1 HSV
  go_wp2_with fail
  go_loopw [6] (fun i w' => ∃ k : Nat, k ≤ su.length ∧ i = .int .i64 (k + 1) ∧ Below w1.heap.size w1 w' ∧ Hid (refExAll l (rs.map Req.rq) su (su.length - k) (k + 1) = RX)) (fun i _ => su.length + 1 - (intOf i).toNat)
  case atStart => exact ⟨0, Nat.zero_le _, rfl, Below.refl _ _, HRE.out⟩
  case round =>
    obtain ⟨k, hk, rfl, hbk, he⟩ := hrel
    clear HRE
    by_cases hlt : k < su.length
    · have hle : decide ((k : Int) + 1 ≤ (su.length : Int)) = true := by rw [decide_eq_true_iff]; omega
      have hset := refSets_any (k + 1) su wr _ (HV1.out.later hbk) h12 (by omega)
      rw [show ((k + 1 : Nat) : Int) = (k : Int) + 1 by omega] at hset
      have HSET := Lib.hid hset
      have HST : Hid ((match (setsF su (k + 1)).find? (exclR l (rs.map Req.rq)) with | some s => some s | none => refExAll l (rs.map Req.rq) su (su.length - (k + 1)) (k + 1 + 1)) = RX) := by
        show _ = _
        have h1 := he.out
        rw [show su.length - k = (su.length - (k + 1)) + 1 by omega, refExAll] at h1
        exact h1
      have HMEM : Hid (∀ s ∈ setsF su (k + 1), s.length = k + 1 ∧ ∀ i ∈ s, i < n) := fun s hs => by
        obtain ⟨h1, h2⟩ := (setsF_mem _ _ _).1 hs
        exact ⟨h2, fun i hi => HSL.out i (h1.subset hi)⟩
      have hTl : (setsF su (k + 1)).length ≤ 4096 := by
        have h1 := setsF_len su (k + 1)
        have h2 : 2 ^ su.length ≤ 2 ^ 12 := Nat.pow_le_pow_right (by omega) h12
        have h3 : (2 : Nat) ^ 12 = 4096 := by decide
        omega
      clear he hset
      go_wp2_with fail
      refine HSET.out.mono ?_
      rintro e w7 ⟨v7, rfl, S7⟩
      have hr7 := st_tab_rd (i := 0) S7 rfl
      have hb7 := hbk.trans (S7.bel.mono hbk.size)
      clear S7 HSET hbk
      generalize setsF su (k + 1) = T at *
      obtain ⟨vs7, h7a, h7b⟩ := hr7
      simp only [List.length_map] at h7a
      obtain ⟨A7, c7, rfl, _, _, h7a⟩ := h7a.open_
      have H7A := Lib.hid h7a
      have H7B : Hid (∀ (i : Nat) (x : Value) (r : List Int), vs7[i]? = some x → (T.map natI)[i]? = some r → Rd w7 (· < w7.heap.size) 1 x r.length (ints r)) := h7b
      clear h7a h7b
      go_wp2_with fail
      go_loopw [8] (fun i w' => ∃ j : Nat, j ≤ T.length ∧ i = .int .i64 j ∧ Below w7.heap.size w7 w' ∧ Hid ((T.drop j).find? (exclR l (rs.map Req.rq)) = T.find? (exclR l (rs.map Req.rq)))) (fun i _ => T.length - (intOf i).toNat)
      case atStart => exact ⟨0, Nat.zero_le _, rfl, Below.refl _ _, rfl⟩
      case round =>
        obtain ⟨j, hj, rfl, hbj, hf⟩ := hrel
        have hbw := hb7.trans (hbj.mono hb7.size)
        have hbW := hb1.trans (hbw.mono hb1.size)
        by_cases hlj : j < T.length
        · obtain ⟨b7, o7, y, rfl, hy, cy⟩ := (H7A.out.later hbj).val hlj
          have hrm : T[j]? = some T[j] := List.getElem?_eq_getElem hlj
          have hrow := (H7B.out j y (natI T[j]) hy (by rw [List.getElem?_map, hrm]; rfl)).later hbj
          obtain ⟨hsl, hsb⟩ := HMEM.out T[j] (List.getElem_mem hlj)
          generalize T[j] = s at *
          have hnl : (natI s).length = s.length := by unfold natI; rw [List.length_map]
          rw [hnl] at hrow
          obtain ⟨Ay, cyp, rfl, _, _, hrow⟩ := hrow.open_
          obtain ⟨by', oy, rfl, _⟩ := hrow.addr (by omega)
          have HEX := Lib.hid (refExcludes_any wr _ _ _ nl n l rs s (HL.out.later hbW) (reqs_later HH.out hbW) hrow HOK.out hsb)
          have HROW := Lib.hid hrow
          have HFS : Hid ((match exclR l (rs.map Req.rq) s with | true => some s | false => (T.drop (j + 1)).find? (exclR l (rs.map Req.rq))) = T.find? (exclR l (rs.map Req.rq))) := by
            show _ = _
            rw [← hf.out, drop_at hrm, List.find?_cons]
            cases exclR l (rs.map Req.rq) s <;> rfl
          clear hy hrm hrow hf hnl hsl hsb
          generalize exclR l (rs.map Req.rq) s = p at *
          cases p with
          | true =>
            have HRX2 : Hid (RX = some s) := by
              show _ = _
              have h1 := HST.out
              rw [← HFS.out] at h1
              exact h1.symm
            clear HST HFS
            have HCY := Lib.hid cy
            go_wp2_with fail
            refine HEX.out.mono ?_
            rintro e w9 ⟨rfl, hb9⟩
            have cy9 := (hb9.cell (p := ⟨b7, o7 + j, none⟩) (World.block_lt_of_cell? _ _ HCY.out)).trans HCY.out
            have HR9 := Lib.hid (HROW.out.later hb9)
            have hbW9 := hbW.trans (hb9.mono hbW.size)
            clear cy HCY hb9 HEX
            go_wp2
            go_ret
            refine ⟨_, rfl, hbW9, (fun h => by rw [HRX2.out] at h; cases h), fun s' hs' => ?_⟩
            rw [HRX2.out] at hs'
            cases hs'
            exact ⟨⟨_, _, _, rfl⟩, HR9.out⟩
          | false =>
            have HF2 : Hid ((T.drop (j + 1)).find? (exclR l (rs.map Req.rq)) = T.find? (exclR l (rs.map Req.rq))) := HFS.out
            clear HFS
            go_wp2_with fail
            refine HEX.out.mono ?_
            rintro e w9 ⟨rfl, hb9⟩
            have hbj9 := hbj.trans (hb9.mono hbj.size)
            clear cy hb9 HEX
            go_wp2
            go_roundw
            case rel => exact ⟨j + 1, by omega, by go_num, hbj9, HF2.out⟩
            case measure => simp [intOf]; omega
        · obtain rfl : j = T.length := by omega
          have HRX2 : Hid (refExAll l (rs.map Req.rq) su (su.length - (k + 1)) (k + 1 + 1) = RX) := by
            show _ = _
            have h1 := hf.out
            rw [List.drop_of_length_le (Nat.le_refl _), List.find?_nil] at h1
            have h2 := HST.out
            rw [← h1] at h2
            exact h2
          clear HST hf
          go_wp2
          go_roundw
          case rel => exact ⟨k + 1, by omega, by go_num, hbw, HRX2.out⟩
          case measure => simp [intOf]; omega
    · obtain rfl : k = su.length := by omega
      have hle : decide ((su.length : Int) + 1 ≤ (su.length : Int)) = false := by rw [decide_eq_false_iff_not]; omega
      have HRX2 : Hid (RX = none) := by
        show _ = _
        have h1 := he.out
        rw [Nat.sub_self, refExAll] at h1
        exact h1.symm
      have hbW := hb1.trans (hbk.mono hb1.size)
      clear he
      go_wp2
      go_ret
      exact ⟨_, rfl, hbW, (fun _ => rfl), fun s' hs' => by rw [HRX2.out] at hs'; cases hs'⟩
end Go.Proofs.YtbjjojoggpepjaaGreatDoor
/- The law SheetExcluded, walked. -/
namespace Go.Proofs.YtbjjojoggpepjaaGreatDoor
open Go.RowKit Go.Mem Go.Sheet
theorem Own.sure {W w : World} {vx vy : Value} {nl n : Nat} {l : List Slot} {RS : List RQ} (h : Own W w vx vy nl n l RS) (ok : Okay l RS) :
    Calls Tryz.prog 19 #[vy] w fun e w' => ∃ v', e = .returned v' ∧ St w w' [row 3 1 v' (sureN RS).length ((natI (sureN RS)).map (Value.int .i64))] := by
  obtain ⟨rs', h1, h2⟩ := h.y
  subst h1
  have hn := h2.1.count (f := Req.cells) (size := 3) (fun _ => rfl) (by decide)
  exact refSure_any w vy n rs' h2 (by have := ok.nr; rw [List.length_map] at this; omega)
theorem Own.excluded {W w : World} {vx vy : Value} {nl n : Nat} {l : List Slot} {RS : List RQ} (h : Own W w vx vy nl n l RS) (ok : Okay l RS) (h12 : (sureN RS).length ≤ 12) :
    Calls Tryz.prog 21 #[vx, vy] w fun e w' => ∃ v', e = .returned v' ∧ Below w.heap.size w w' ∧ (refExcluded l RS = none → v' = .slice none 0 0) ∧
      (∀ s, refExcluded l RS = some s → (∃ b o c, v' = .slice (some ⟨b, o, none⟩) s.length c) ∧ Rd w' (· < w'.heap.size) 1 v' s.length ((natI s).map (Value.int .i64))) := by
  obtain ⟨rs', h1, h2⟩ := h.y
  subst h1
  exact refExcluded_any w vx vy nl n l rs' h.x h2 ok h12
set_option maxRecDepth 100000 in
set_option maxHeartbeats 1000000 in
theorem sheetExcluded_any (W : World) (vl vr : Value) (nl n : Nat) (l : List Slot) (rs : List Req) (hl : Rd W (· < W.heap.size) 3 vl nl (l.flatMap Slot.cells)) (h : RdReqs W (· < W.heap.size) vr n rs)
    (hrl : nl * 24 ≤ 140737488351232) (hrr : n * 48 ≤ 140737488351232) (hrw : ∀ r ∈ rs, r.wn * 16 ≤ 140737488351232) :
    Calls Tryz.prog 4 #[vl, vr] W fun e w' => e = .returned (.bool true) ∧ Below W.heap.size W w' := by
  have HL := Lib.hid hl
  have HR := Lib.hid h
  have HRW := Lib.hid hrw
  have HXX := Lib.hid (fun (w : World) (hb : Below W.heap.size W w) => excluded_run w vl vr nl n l rs (hl.later hb) (reqs_later h hb))
  generalize HRS : rs.map Req.rq = RS at *
  have HRS' := Lib.hid HRS
  clear HRS hl h hrw
  have qT : ∀ (w : World) (a : Option Addr) (n c n' c' : Nat), (binOp .eql 24 (.slice a n c) (.slice none n' c')).run Tryz.prog w = .ok (.bool a.isNone) w := fun w a n c n' c' => Lib.run_eql_slice_nil w _ _ a n c n' c' Tryz.underlying24
  have HW22t : Hid (∀ w, Calls Tryz.prog 20 #[.bool true, .int .i64 22] w fun r w' => r = .returned (.int .i64 22) ∧ w = w') := fun w => lwhen_any true 22 w
  have HW22f : Hid (∀ w, Calls Tryz.prog 20 #[.bool false, .int .i64 22] w fun r w' => r = .returned (.int .i64 0) ∧ w = w') := fun w => lwhen_any false 22 w
  have HW7t : Hid (∀ w, Calls Tryz.prog 20 #[.bool true, .int .i64 7] w fun r w' => r = .returned (.int .i64 7) ∧ w = w') := fun w => lwhen_any true 7 w
  have HW7f : Hid (∀ w, Calls Tryz.prog 20 #[.bool false, .int .i64 7] w fun r w' => r = .returned (.int .i64 0) ∧ w = w') := fun w => lwhen_any false 7 w
  go_enter Tryz.func4, Tryz.ntmps4
  go_wp2_with fail
  refine (ownSlots_any _ _ nl l HL.out hrl).mono ?_
  rintro e w1 ⟨v1, rfl, S1⟩
  have HS1 := Lib.hid S1
  clear S1
  go_wp2_with fail
  refine (ownRequests_any w1 _ n rs (reqs_later HR.out HS1.out.bel) hrr HRW.out).mono ?_
  rintro e w2 ⟨v2, rs', rfl, he, hnm, S2⟩
  have HO : Hid (Own W w2 v1 v2 nl n l RS) := ⟨HS1.out.bel.trans (S2.bel.mono HS1.out.bel.size), (HS1.out.row_rd (i := 0) rfl).now.later S2.bel, rs', he.trans HRS'.out, own_reqs S2 hnm⟩
  clear HS1 he hnm S2
  go_wp2_with fail
  refine (awake_any w2).mono ?_
  rintro e w3 ⟨rfl, hb3⟩
  have HO3 := Lib.hid (HO.out.later hb3)
  clear HO hb3
  go_wp2_with fail
  refine HO3.out.short.mono ?_
  rintro e w' ⟨⟨b, rfl⟩, rfl⟩
  cases b with
  | false =>
    go_wp2_with fail
    refine (awake_any w3).mono ?_
    rintro e w4 ⟨rfl, hb4⟩
    have hbW := HO3.out.bel.trans (hb4.mono HO3.out.bel.size)
    go_wp2
    go_ret
    exact ⟨rfl, hbW⟩
  | true =>
    have HX3 := Lib.hid (HXX.out w3 HO3.out.bel)
    have HEXD : Hid (excluded l RS = if checkRequests l RS ≠ 0 then ([], checkRequests l RS) else if 12 < (sureN RS).length then ([], 22) else if exAll l RS (2 ^ (sureN RS).length) 0 [] = [] then ([], 7) else (exAll l RS (2 ^ (sureN RS).length) 0 [], 0)) := rfl
    have HOK : Hid (checkRequests l RS = 0 → Okay l RS) := fun h => okay_of h
    generalize excluded l RS = R at *
    obtain ⟨xl, xe⟩ := R
    go_wp2_with fail
    refine HX3.out.mono ?_
    rintro e w4 ⟨v4, rfl, S4⟩
    dsimp only at S4
    have HO4 := Lib.hid (HO3.out.later S4.bel)
    have HV4 := Lib.hid (S4.row_rd (i := 0) rfl).now
    clear HX3 S4 HO3
    have HC := Lib.hid HO4.out.check
    generalize checkRequests l RS = E at *
    go_wp2_with fail
    refine HC.out.mono ?_
    rintro e w5 ⟨rfl, hb5⟩
    have HO5 := Lib.hid (HO4.out.later hb5)
    have HV5 := Lib.hid (HV4.out.later hb5)
    clear HC hb5 HO4 HV4
    by_cases hE : E = 0
    · subst hE
      have ok := HOK.out rfl
      have HS5 := Lib.hid (HO5.out.sure ok)
      have HREF := Lib.hid (excluded_ref ok)
      have HNE : Hid (∀ s, refExcluded l RS = some s → s ≠ []) := fun s hs => refExcluded_ne ok hs
      have HOKK := Lib.hid ok
      have h1 := HEXD.out
      rw [if_neg (by simp)] at h1
      have HEX2 := Lib.hid h1
      clear HEXD HOK ok h1
      go_wp2_with fail
      refine HS5.out.mono ?_
      rintro e w6 ⟨v6, rfl, S6⟩
      obtain ⟨A6, c6, rfl, _, _, _⟩ := (S6.row_rd (i := 0) rfl).open_
      have hmle := (S6.row_rd (i := 0) rfl).le
      have HO6 := Lib.hid (HO5.out.later S6.bel)
      have HV6 := Lib.hid (HV5.out.later S6.bel)
      clear HS5 S6 HO5 HV5
      have HEXC := Lib.hid (fun h12 => HO6.out.excluded HOKK.out h12)
      generalize hm : (sureN RS).length = m at *
      clear hm
      by_cases h12 : 12 < m
      · have h12' : decide (12 < (m : Int)) = true := by simp; omega
        have h1 := HEX2.out
        rw [if_pos h12] at h1
        injection h1 with e1 e2
        subst e1 e2
        have hbW := HO6.out.bel
        have HLO : Hid (listOk [] 22 22 [] = true) := rfl
        clear HEX2 HEXC HO6
        go_wp2_with (first
          | (go_at_call 20; refine (HW22t.out _).mono ?_; rintro e w' ⟨rfl, rfl⟩)
          | (go_at_call 22; refine (list_any _ _ _ _ _ [] [] 22 22 HV6.out (Rd.nil _ (fun _ => True) 1)).mono ?_; rw [HLO.out]; rintro e w' ⟨rfl, q, rfl⟩))
        go_ret
        exact ⟨rfl, hbW.trans (below_drewN (Below.refl _ _) q)⟩
      · have h12' : decide (12 < (m : Int)) = false := by simp; omega
        by_cases h8 : 8 < m
        · have h8' : decide (8 < (m : Int)) = true := by simp; omega
          have hbW := HO6.out.bel
          clear HEX2 HEXC HO6 HV6
          go_wp2_with (first
            | (go_at_call 20; refine (HW22f.out _).mono ?_; rintro e w' ⟨rfl, rfl⟩))
          go_ret
          exact ⟨rfl, hbW⟩
        · have h8' : decide (8 < (m : Int)) = false := by simp; omega
          have HEX3 := Lib.hid (HEXC.out (by omega))
          have h1 := HEX2.out
          rw [if_neg h12, HREF.out] at h1
          have HEX4 := Lib.hid h1
          clear HEX2 HEXC h1 HREF
          go_wp2_with (first
            | (go_at_call 20; refine (HW22f.out _).mono ?_; rintro e w' ⟨rfl, rfl⟩)
            | fail)
          refine HEX3.out.mono ?_
          rintro e w7 ⟨v7, rfl, hb7, hno, hso⟩
          have HV7 := Lib.hid (HV6.out.later hb7)
          have hbW := HO6.out.bel.trans (hb7.mono HO6.out.bel.size)
          have HNO := Lib.hid hno
          have HSO := Lib.hid hso
          clear hb7 hno hso HEX3 HO6 HV6
          generalize refExcluded l RS = X at *
          cases X with
          | none =>
            have hv := HNO.out rfl
            subst hv
            have h1 := HEX4.out
            dsimp only at h1
            rw [if_pos rfl] at h1
            injection h1 with e1 e2
            subst e1 e2
            have HLO : Hid (listOk [] 7 7 [] = true) := rfl
            clear HEX4 HSO HNO
            go_wp2_with (first
              | (go_at_call 20; refine (HW7t.out _).mono ?_; rintro e w' ⟨rfl, rfl⟩)
              | (go_at_call 22; refine (list_any _ _ _ _ _ [] [] 7 7 HV7.out (Rd.nil _ (fun _ => True) 1)).mono ?_; rw [HLO.out]; rintro e w' ⟨rfl, q, rfl⟩))
            go_ret
            exact ⟨rfl, hbW.trans (below_drewN (Below.refl _ _) q)⟩
          | some s =>
            obtain ⟨⟨b, o, c, hv⟩, hrd⟩ := HSO.out s rfl
            subst hv
            have h1 := HEX4.out
            dsimp only at h1
            rw [if_neg (fun h => HNE.out s rfl (natI_nil.1 h))] at h1
            injection h1 with e1 e2
            subst e1 e2
            have hnl : s.length = (natI s).length := by unfold natI; rw [List.length_map]
            rw [hnl] at hrd
            rw [hnl]
            have HRD := Lib.hid hrd
            have HLO : Hid (listOk (natI s) 0 0 (natI s) = true) := list_yes (fun h => absurd rfl h) (fun _ => ⟨rfl, rfl⟩)
            clear HEX4 HSO HNO hrd hnl HNE
            go_wp2_with (first
              | (go_at_call 20; refine (HW7f.out _).mono ?_; rintro e w' ⟨rfl, rfl⟩)
              | (go_at_call 22; refine (list_any _ _ _ _ _ (natI s) (natI s) 0 0 HV7.out HRD.out).mono ?_; rw [HLO.out]; rintro e w' ⟨rfl, q, rfl⟩))
            go_ret
            exact ⟨rfl, hbW.trans (below_drewN (Below.refl _ _) q)⟩
    · have hE' : (E == 0) = false := by simpa using hE
      have h1 := HEXD.out
      rw [if_pos hE] at h1
      injection h1 with e1 e2
      subst e1 e2
      have hbW := HO5.out.bel
      have HLO : Hid (listOk [] xe xe [] = true) := list_yes (fun _ => ⟨rfl, rfl⟩) (fun h => absurd h hE)
      clear HEXD HOK HO5
      go_wp2_with (first
        | (go_at_call 22; refine (list_any _ _ _ _ _ [] [] xe xe HV5.out (Rd.nil _ (fun _ => True) 1)).mono ?_; rw [HLO.out]; rintro e w' ⟨rfl, q, rfl⟩))
      go_ret
      exact ⟨rfl, hbW.trans (below_drewN (Below.refl _ _) q)⟩
end Go.Proofs.YtbjjojoggpepjaaGreatDoor
