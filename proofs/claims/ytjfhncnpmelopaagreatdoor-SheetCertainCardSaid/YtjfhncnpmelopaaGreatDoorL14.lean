/- The set of Excluded is the reference's: the smallest, then the lexicographically first. -/
import Derived.Test.YtjfhncnpmelopaaGreatDoorB15
import Derived.Test.YtjfhncnpmelopaaGreatDoorB10
import Derived.Test.YtjfhncnpmelopaaGreatDoorL91
import Derived.Test.YtjfhncnpmelopaaGreatDoorB09
import Derived.Test.YtjfhncnpmelopaaGreatDoorB11
import Derived.Test.YtjfhncnpmelopaaGreatDoorL9
import Derived.Test.YtjfhncnpmelopaaGreatDoorL10
import Derived.BigQuiet
import Derived.Deep.QuietTactic
import Derived.Test.YtjfhncnpmelopaaGreatDoorB01
import Derived.OrdersHeld
import Derived.Deep.RegionHeld3
import Derived.Test.YtjfhncnpmelopaaGreatDoorB16
import Derived.Test.YtjfhncnpmelopaaGreatDoorB23
set_option linter.unusedVariables false
set_option linter.unusedSimpArgs false
set_option linter.unusedSectionVars false
set_option linter.constructorNameAsVariable false
namespace Go.Sheet
/-! ### lists in order -/
theorem cmpF_self (a : List Int) : cmpF a a = 0 := by
  induction a with
  | nil => rfl
  | cons x a ih => rw [cmpF, if_neg (Int.lt_irrefl _), if_neg (Int.lt_irrefl _), ih]
theorem cmpF_eq : ∀ (a b : List Int), cmpF a b = 0 → a = b := by
  intro a
  induction a with
  | nil => intro b h; cases b with
    | nil => rfl
    | cons y b => rw [cmpF] at h; cases h
  | cons x a ih =>
    intro b h
    cases b with
    | nil => rw [cmpF] at h; cases h
    | cons y b =>
      rw [cmpF] at h
      split at h
      · cases h
      · split at h
        · cases h
        · rw [ih b h, show x = y by omega]
theorem cmpF_neg : ∀ (a b : List Int), cmpF a b < 0 → 0 < cmpF b a := by
  intro a
  induction a with
  | nil => intro b h; cases b with
    | nil => rw [cmpF] at h; omega
    | cons y b => rw [cmpF]; omega
  | cons x a ih =>
    intro b h
    cases b with
    | nil => rw [cmpF] at h; omega
    | cons y b =>
      rw [cmpF] at h ⊢
      split at h
      · rename_i h1; rw [if_neg (by omega), if_pos h1]; omega
      · split at h
        · omega
        · rename_i h1 h2; rw [if_neg h2, if_neg h1]; exact ih b h
theorem cmpF_pos : ∀ (a b : List Int), 0 < cmpF a b → cmpF b a < 0 := by
  intro a
  induction a with
  | nil => intro b h; cases b with
    | nil => rw [cmpF] at h; omega
    | cons y b => rw [cmpF] at h; omega
  | cons x a ih =>
    intro b h
    cases b with
    | nil => rw [cmpF]; omega
    | cons y b =>
      rw [cmpF] at h ⊢
      split at h
      · omega
      · split at h
        · rename_i h1 h2; rw [if_pos h2]; omega
        · rename_i h1 h2; rw [if_neg h2, if_neg h1]; exact ih b h
theorem cmpF_trans : ∀ (a b c : List Int), cmpF a b < 0 → cmpF b c < 0 → cmpF a c < 0 := by
  intro a
  induction a with
  | nil => intro b c h1 h2; cases b with
    | nil => rw [cmpF] at h1; omega
    | cons y b => cases c with
      | nil => rw [cmpF] at h2; omega
      | cons z c => rw [cmpF]; omega
  | cons x a ih =>
    intro b c h1 h2
    cases b with
    | nil => rw [cmpF] at h1; omega
    | cons y b =>
      cases c with
      | nil => rw [cmpF] at h2; omega
      | cons z c =>
        rw [cmpF] at h1 h2 ⊢
        split at h1
        · split at h2
          · rw [if_pos (by omega)]; omega
          · split at h2
            · omega
            · rw [if_pos (by omega)]; omega
        · split at h1
          · omega
          · split at h2
            · rw [if_pos (by omega)]; omega
            · split at h2
              · omega
              · rw [if_neg (by omega), if_neg (by omega)]; exact ih b c h1 h2
def ltS (a b : List Int) : Prop := a.length < b.length ∨ (a.length = b.length ∧ cmpF a b < 0)
theorem ltS_trans {a b c : List Int} (h1 : ltS a b) (h2 : ltS b c) : ltS a c := by
  rcases h1 with h1 | ⟨h1, h1'⟩ <;> rcases h2 with h2 | ⟨h2, h2'⟩
  · left; omega
  · left; omega
  · left; omega
  · right; exact ⟨by omega, cmpF_trans _ _ _ h1' h2'⟩
theorem ltS_irr (a : List Int) : ¬ ltS a a := by
  rintro (h | ⟨_, h⟩)
  · omega
  · rw [cmpF_self] at h; omega
theorem ltS_tri {a b : List Int} (h1 : ¬ ltS a b) (h2 : ¬ ltS b a) : a = b := by
  unfold ltS at h1 h2
  have hl : a.length = b.length := by omega
  refine cmpF_eq a b ?_
  have n1 : ¬ cmpF a b < 0 := fun h => h1 (.inr ⟨hl, h⟩)
  have n2 : ¬ cmpF b a < 0 := fun h => h2 (.inr ⟨hl.symm, h⟩)
  by_cases h : 0 < cmpF a b
  · exact absurd (cmpF_pos _ _ h) n2
  · omega
theorem betterF_iff {best m : List Int} : betterF best m = true ↔ best = [] ∨ ltS m best := by
  unfold betterF ltS
  simp
/-! ### the sets by their bits -/
theorem bitOn_succ (set k : Nat) : bitOn set (k + 1) = bitOn (set / 2) k := by
  unfold bitOn
  rw [Nat.pow_succ, Nat.mul_comm, Nat.div_div_eq_div_mul]
theorem memF_shift (l : List Nat) : ∀ (set k : Nat), memF set (k + 1) l = memF (set / 2) k l := by
  induction l with
  | nil => intro set k; rfl
  | cons i l ih =>
    intro set k
    rw [memF, memF, bitOn_succ, ih]
theorem memF_sub (set : Nat) (l : List Nat) : ∀ k, (memF set k l).Sublist l := by
  induction l with
  | nil => intro k; exact List.Sublist.refl _
  | cons i l ih =>
    intro k
    rw [memF]
    split
    · exact (ih _).cons_cons i
    · exact (ih _).cons i
theorem memF_all (l t : List Nat) (h : t.Sublist l) : ∃ set, set < 2 ^ l.length ∧ memF set 0 l = t := by
  induction h with
  | slnil => exact ⟨0, by simp, rfl⟩
  | @cons t l i h ih =>
    obtain ⟨s, hs, he⟩ := ih
    refine ⟨2 * s, by rw [List.length_cons, Nat.pow_succ]; omega, ?_⟩
    have hb : bitOn (2 * s) 0 = false := by unfold bitOn; simp
    rw [memF, hb, memF_shift, show 2 * s / 2 = s by omega, he]; rfl
  | @cons_cons t l i h ih =>
    obtain ⟨s, hs, he⟩ := ih
    refine ⟨2 * s + 1, by rw [List.length_cons, Nat.pow_succ]; omega, ?_⟩
    have hb : bitOn (2 * s + 1) 0 = true := by unfold bitOn; simp
    rw [memF, hb, memF_shift, show (2 * s + 1) / 2 = s by omega, he]; rfl
/-! ### the room of a set -/
def refWAt (rs : List RQ) (i : Nat) (k : Int) : Int := match rs[i]? with | some x => refW x k | none => -1
/-- the places of the slots that a set wishes for, of the first k slots -/
def roomR (l : List Slot) (rs : List RQ) (s : List Nat) : Nat → Int
  | 0 => 0
  | k + 1 => roomR l rs s k + if s.any (fun i => decide (0 < refWAt rs i k)) then (match l[k]? with | some x => x.p | none => 0) else 0
def exclR (l : List Slot) (rs : List RQ) (s : List Nat) : Bool := decide (roomR l rs s l.length < s.length)
theorem wantW_len (ws : List Wish) : ∀ b, (wantW b ws).length = b.length := by
  induction ws with
  | nil => intro b; rfl
  | cons y ws ih => intro b; rw [wantW, ih]; simp
theorem wantW_at (ws : List Wish) : ∀ (b : List Bool) (k : Nat), k < b.length → (wantW b ws).getD k false = (b.getD k false || ws.any fun y => decide (y.s.toNat = k)) := by
  induction ws with
  | nil => intro b k _; simp [wantW]
  | cons y ws ih =>
    intro b k hk
    rw [wantW, ih _ k (by simpa using hk), getD_set]
    by_cases e : y.s.toNat = k
    · rw [if_pos ⟨e, by omega⟩]; simp [e]
    · rw [if_neg (by rintro ⟨h, _⟩; exact e h)]; simp [e]
theorem wantF_at (rs : List RQ) (set : Nat) (l : List Nat) : ∀ (k : Nat) (b : List Bool) (j : Nat), j < b.length →
    (wantF rs set k l b).getD j false = (b.getD j false || (memF set k l).any fun i => (wsOf rs i).any fun y => decide (y.s.toNat = j)) := by
  induction l with
  | nil => intro k b j _; simp [wantF, memF]
  | cons i l ih =>
    intro k b j hj
    rw [wantF, memF]
    cases hb : bitOn set k
    · rw [if_neg (by simp), if_neg (by simp)]
      exact ih _ _ _ hj
    · rw [if_pos rfl, if_pos rfl, ih _ _ _ (by rw [wantW_len]; exact hj), wantW_at _ _ _ hj, List.any_cons, Bool.or_assoc]
theorem wishAny {l : List Slot} {rs : List RQ} (h : Okay l rs) (i j : Nat) : ((wsOf rs i).any fun y => decide (y.s.toNat = j)) = decide (0 < refWAt rs i j) := by
  rw [wsOf, refWAt]
  cases hx : rs[i]? with
  | none => rfl
  | some x =>
    show (x.ws.any fun y => decide (y.s.toNat = j)) = decide (0 < refW x j)
    have hm := List.mem_of_getElem? hx
    rcases refW_cases h hm (j : Int) with ⟨hw, w1, _⟩ | ⟨hw, w1⟩
    · rw [decide_eq_true (by omega)]
      rw [hasWish, List.find?_isSome] at hw
      obtain ⟨y, hy, he⟩ := hw
      rw [List.any_eq_true]
      refine ⟨y, hy, ?_⟩
      have : y.s = j := by simpa using he
      simp; omega
    · rw [w1, decide_eq_false (by omega)]
      rw [List.any_eq_false]
      intro y hy he
      have h0 := (h.wish x hm y hy).1
      rw [hasWish, Option.isSome_eq_false_iff, Option.isNone_iff_eq_none, List.find?_eq_none] at hw
      have := hw y hy
      simp at he this
      omega
theorem roomK_eq {l : List Slot} {rs : List RQ} (h : Okay l rs) (set : Nat) (sure : List Nat) : ∀ k, k ≤ 24 → roomK (wantF rs set 0 sure (List.replicate 24 false)) l k = roomR l rs (memF set 0 sure) k := by
  intro k
  induction k with
  | zero => intro _; rfl
  | succ k ih =>
    intro hk
    rw [roomK, roomR, ih (by omega), wantF_at _ _ _ _ _ _ (by simp; omega)]
    have e : (List.replicate 24 false).getD k false = false := by
      rw [List.getD_eq_getElem?_getD, List.getElem?_replicate]
      split <;> rfl
    rw [e, Bool.false_or, show ((memF set 0 sure).any fun i => (wsOf rs i).any fun y => decide (y.s.toNat = k)) = ((memF set 0 sure).any fun i => decide (0 < refWAt rs i k)) from by
      congr 1; funext i; exact wishAny h i k]
    cases l[k]? <;> rfl
theorem roomR_more {l : List Slot} {rs : List RQ} {s : List Nat} : ∀ m, roomR l rs s (l.length + m) = roomR l rs s l.length := by
  intro m
  induction m with
  | zero => rfl
  | succ m ih =>
    rw [← Nat.add_assoc, roomR, ih, List.getElem?_eq_none (by omega)]
    simp
theorem exStep_eq {l : List Slot} {rs : List RQ} (h : Okay l rs) (set : Nat) (best : List Int) :
    exStep l rs set best = if exclR l rs (memF set 0 (sureN rs)) = true ∧ betterF best (natI (memF set 0 (sureN rs))) = true then natI (memF set 0 (sureN rs)) else best := by
  have e : roomK (wantF rs set 0 (sureN rs) (List.replicate 24 false)) l 24 = roomR l rs (memF set 0 (sureN rs)) l.length := by
    rw [roomK_eq h set _ 24 (Nat.le_refl _)]
    have := h.nl
    obtain ⟨m, hm⟩ : ∃ m, 24 = l.length + m := ⟨24 - l.length, by omega⟩
    rw [hm, roomR_more]
  rw [exStep, e, exclR]
  simp only [decide_eq_true_eq]
theorem exclR_nil {l : List Slot} {rs : List RQ} {s : List Nat} (h : Okay l rs) (he : exclR l rs s = true) : s ≠ [] := by
  rintro rfl
  have : ∀ k, roomR l rs [] k = 0 := by
    intro k
    induction k with
    | zero => rfl
    | succ k ih => rw [roomR, ih]; simp
  rw [exclR, this] at he
  simp at he
theorem natI_nil {s : List Nat} : natI s = [] ↔ s = [] := by unfold natI; simp
/-- what the program's search has behind the sets below m -/
theorem exAll_inv {l : List Slot} {rs : List RQ} (h : Okay l rs) : ∀ (m set : Nat) (best : List Int),
    ((best = [] ∧ ∀ t, t < set → exclR l rs (memF t 0 (sureN rs)) = false) ∨ ∃ t, t < set ∧ exclR l rs (memF t 0 (sureN rs)) = true ∧ best = natI (memF t 0 (sureN rs)) ∧ ∀ u, u < set → exclR l rs (memF u 0 (sureN rs)) = true → ¬ ltS (natI (memF u 0 (sureN rs))) best) →
    ((exAll l rs m set best = [] ∧ ∀ t, t < set + m → exclR l rs (memF t 0 (sureN rs)) = false) ∨ ∃ t, t < set + m ∧ exclR l rs (memF t 0 (sureN rs)) = true ∧ exAll l rs m set best = natI (memF t 0 (sureN rs)) ∧ ∀ u, u < set + m → exclR l rs (memF u 0 (sureN rs)) = true → ¬ ltS (natI (memF u 0 (sureN rs))) (exAll l rs m set best)) := by
  intro m
  induction m with
  | zero => intro set best h1; exact h1
  | succ m ih =>
    intro set best h1
    rw [exAll, show set + (m + 1) = set + 1 + m by omega]
    refine ih (set + 1) _ ?_
    rw [exStep_eq h]
    by_cases hx : exclR l rs (memF set 0 (sureN rs)) = true
    · by_cases hb : betterF best (natI (memF set 0 (sureN rs))) = true
      · rw [if_pos ⟨hx, hb⟩]
        right
        refine ⟨set, by omega, hx, rfl, fun u hu hxu => ?_⟩
        by_cases hus : u = set
        · subst hus; exact ltS_irr _
        · rcases h1 with ⟨_, h2⟩ | ⟨t, ht, hxt, rfl, h2⟩
          · have := h2 u (by omega); rw [hxu] at this; cases this
          · intro hlt
            rw [betterF_iff] at hb
            rcases hb with hb | hb
            · exact exclR_nil h hxt (natI_nil.1 hb)
            · exact h2 u (by omega) hxu (ltS_trans hlt hb)
      · rw [if_neg (by rintro ⟨_, h3⟩; exact hb h3)]
        rcases h1 with ⟨rfl, h2⟩ | ⟨t, ht, hxt, rfl, h2⟩
        · exact absurd (betterF_iff.2 (.inl rfl)) hb
        · right
          refine ⟨t, by omega, hxt, rfl, fun u hu hxu => ?_⟩
          by_cases hus : u = set
          · subst hus; exact fun hlt => hb (betterF_iff.2 (.inr hlt))
          · exact h2 u (by omega) hxu
    · rw [if_neg (by rintro ⟨h3, _⟩; exact hx h3)]
      rcases h1 with ⟨rfl, h2⟩ | ⟨t, ht, hxt, rfl, h2⟩
      · left
        refine ⟨rfl, fun t ht => ?_⟩
        by_cases hus : t = set
        · subst hus; simpa using hx
        · exact h2 t (by omega)
      · right
        refine ⟨t, by omega, hxt, rfl, fun u hu hxu => ?_⟩
        by_cases hus : u = set
        · subst hus; exact absurd hxu hx
        · exact h2 u (by omega) hxu
/-! ### the reference's sets -/
/-- all lists of n of some numbers, in order -/
def setsF : List Nat → Nat → List (List Nat)
  | _, 0 => [[]]
  | [], _ + 1 => []
  | i :: l, n + 1 => (setsF l n).map (i :: ·) ++ setsF l (n + 1)
theorem setsF_mem : ∀ (l : List Nat) (n : Nat) (t : List Nat), t ∈ setsF l n ↔ t.Sublist l ∧ t.length = n := by
  intro l
  induction l with
  | nil =>
    intro n t
    cases n with
    | zero => rw [setsF]; simp
    | succ n => rw [setsF]; simp; rintro rfl; simp
  | cons i l ih =>
    intro n t
    cases n with
    | zero =>
      rw [setsF]
      constructor
      · intro h; simp at h; subst h; exact ⟨List.nil_sublist _, rfl⟩
      · rintro ⟨_, h⟩; simp [List.length_eq_zero_iff.1 h]
    | succ n =>
      rw [setsF, List.mem_append, List.mem_map]
      constructor
      · rintro (⟨s, hs, rfl⟩ | hs)
        · have := (ih n s).1 hs
          exact ⟨this.1.cons_cons i, by simp [this.2]⟩
        · have := (ih (n + 1) t).1 hs
          exact ⟨this.1.cons i, this.2⟩
      · rintro ⟨h1, h2⟩
        cases h1 with
        | cons _ h1 => right; exact (ih _ _).2 ⟨h1, h2⟩
        | @cons_cons s _ _ h1 => left; exact ⟨s, (ih _ _).2 ⟨h1, by simpa using h2⟩, rfl⟩
theorem setsF_sorted : ∀ (l : List Nat) (n : Nat), l.Pairwise (· < ·) → (setsF l n).Pairwise fun a b => cmpF (natI a) (natI b) < 0 := by
  intro l
  induction l with
  | nil => intro n _; cases n <;> rw [setsF] <;> simp
  | cons i l ih =>
    intro n hl
    rw [List.pairwise_cons] at hl
    cases n with
    | zero => rw [setsF]; simp
    | succ n =>
      rw [setsF, List.pairwise_append]
      refine ⟨?_, ih _ hl.2, fun a ha b hb => ?_⟩
      · rw [List.pairwise_map]
        refine (ih n hl.2).imp fun {a b} hab => ?_
        show cmpF ((i : Int) :: natI a) ((i : Int) :: natI b) < 0
        rw [cmpF, if_neg (Int.lt_irrefl _), if_neg (Int.lt_irrefl _)]
        exact hab
      · obtain ⟨s, _, rfl⟩ := List.mem_map.1 ha
        obtain ⟨h1, h2⟩ := (setsF_mem _ _ _).1 hb
        cases b with
        | nil => simp at h2
        | cons j b =>
          have := hl.1 j (h1.subset (by simp))
          show cmpF ((i : Int) :: natI s) ((j : Int) :: natI b) < 0
          rw [cmpF, if_pos (by omega)]; omega
theorem sureL_lt (rs : List RQ) : ∀ k, ∀ i ∈ sureL k rs, k ≤ i ∧ i < k + rs.length := by
  induction rs with
  | nil => intro k i h; cases h
  | cons x rs ih =>
    intro k i h
    rw [sureL] at h
    have := ih (k + 1) i
    simp only [List.length_cons]
    split at h
    · rcases List.mem_cons.1 h with rfl | h
      · omega
      · have := this h; omega
    · have := this h; omega
theorem sureL_sorted (rs : List RQ) : ∀ k, (sureL k rs).Pairwise (· < ·) := by
  induction rs with
  | nil => intro k; exact List.Pairwise.nil
  | cons x rs ih =>
    intro k
    rw [sureL]
    split
    · rw [List.pairwise_cons]
      refine ⟨fun i hi => ?_, ih _⟩
      have := sureL_lt rs (k + 1) i hi
      omega
    · exact ih _
/-- the first set that excludes itself, of the sets of n .. so many -/
def exclN (l : List Slot) (rs : List RQ) (sure : List Nat) (n : Nat) : Option (List Nat) := (setsF sure n).find? (exclR l rs)
def refExAll (l : List Slot) (rs : List RQ) (sure : List Nat) : Nat → Nat → Option (List Nat)
  | 0, _ => none
  | m + 1, n => match exclN l rs sure n with | some s => some s | none => refExAll l rs sure m (n + 1)
def refExcluded (l : List Slot) (rs : List RQ) : Option (List Nat) := refExAll l rs (sureN rs) (sureN rs).length 1
theorem find_sorted {p : List Nat → Bool} : ∀ {L : List (List Nat)} {s : List Nat}, L.Pairwise (fun a b => cmpF (natI a) (natI b) < 0) → L.find? p = some s → s ∈ L ∧ p s = true ∧ ∀ t ∈ L, p t = true → ¬ cmpF (natI t) (natI s) < 0 := by
  intro L
  induction L with
  | nil => intro s _ h; cases h
  | cons a L ih =>
    intro s hp h
    rw [List.pairwise_cons] at hp
    rw [List.find?_cons] at h
    cases hpa : p a with
    | true =>
      rw [hpa] at h
      cases h
      refine ⟨by simp, hpa, fun t ht hpt hlt => ?_⟩
      rcases List.mem_cons.1 ht with rfl | ht
      · rw [cmpF_self] at hlt; omega
      · have := cmpF_neg _ _ (hp.1 t ht); omega
    | false =>
      rw [hpa] at h
      obtain ⟨h1, h2, h3⟩ := ih hp.2 h
      refine ⟨by simp [h1], h2, fun t ht hpt => ?_⟩
      rcases List.mem_cons.1 ht with rfl | ht
      · rw [hpa] at hpt; cases hpt
      · exact h3 t ht hpt
theorem refExAll_some {l : List Slot} {rs : List RQ} {sure : List Nat} (hs : sure.Pairwise (· < ·)) : ∀ (m n : Nat) (s : List Nat), (∀ t, t.Sublist sure → t.length < n → exclR l rs t = false) → refExAll l rs sure m n = some s →
    s.Sublist sure ∧ exclR l rs s = true ∧ ∀ t, t.Sublist sure → exclR l rs t = true → ¬ ltS (natI t) (natI s) := by
  intro m
  induction m with
  | zero => intro n s _ h; cases h
  | succ m ih =>
    intro n s hn h
    rw [refExAll] at h
    cases hf : exclN l rs sure n with
    | some s' =>
      rw [hf] at h
      cases h
      obtain ⟨h1, h2, h3⟩ := find_sorted (setsF_sorted sure n hs) hf
      obtain ⟨h4, h5⟩ := (setsF_mem _ _ _).1 h1
      refine ⟨h4, h2, fun t ht hx hlt => ?_⟩
      rcases hlt with hlt | ⟨h6, h7⟩
      · have : t.length < n := by unfold natI at hlt; simp at hlt; omega
        rw [hn t ht this] at hx; cases hx
      · exact h3 t ((setsF_mem _ _ _).2 ⟨ht, by unfold natI at h6; simp at h6; omega⟩) hx h7
    | none =>
      rw [hf] at h
      refine ih (n + 1) s (fun t ht hl => ?_) h
      by_cases e : t.length = n
      · unfold exclN at hf
        rw [List.find?_eq_none] at hf
        have := hf t ((setsF_mem _ _ _).2 ⟨ht, e⟩)
        simpa using this
      · exact hn t ht (by omega)
theorem refExAll_none {l : List Slot} {rs : List RQ} {sure : List Nat} : ∀ (m n : Nat), refExAll l rs sure m n = none → ∀ t, t.Sublist sure → n ≤ t.length → t.length < n + m → exclR l rs t = false := by
  intro m
  induction m with
  | zero => intro n _ t _ h1 h2; omega
  | succ m ih =>
    intro n h t ht h1 h2
    rw [refExAll] at h
    cases hf : exclN l rs sure n with
    | some s' => rw [hf] at h; cases h
    | none =>
      rw [hf] at h
      by_cases e : t.length = n
      · unfold exclN at hf
        rw [List.find?_eq_none] at hf
        simpa using hf t ((setsF_mem _ _ _).2 ⟨ht, e⟩)
      · exact ih (n + 1) h t ht (by omega) (by omega)
/-- THE LAW: the program's set is the reference's -/
theorem excluded_ref {l : List Slot} {rs : List RQ} (h : Okay l rs) : exAll l rs (2 ^ (sureN rs).length) 0 [] = match refExcluded l rs with | some s => natI s | none => [] := by
  have hs : (sureN rs).Pairwise (· < ·) := sureL_sorted rs 0
  have h0 : ∀ t : List Nat, t.Sublist (sureN rs) → t.length < 1 → exclR l rs t = false := by
    intro t _ ht
    obtain rfl := List.length_eq_zero_iff.1 (show t.length = 0 by omega)
    cases hx : exclR l rs [] with
    | false => rfl
    | true => exact absurd rfl (exclR_nil h hx)
  cases hf : refExcluded l rs with
  | some s =>
    obtain ⟨h1, h2, h3⟩ := refExAll_some hs _ 1 s h0 hf
    obtain ⟨u, hu, rfl⟩ := memF_all _ _ h1
    rcases exAll_inv h (2 ^ (sureN rs).length) 0 [] (.inl ⟨rfl, fun t ht => by omega⟩) with ⟨_, h4⟩ | ⟨t, ht, hxt, he, h4⟩
    · have := h4 u (by omega); rw [h2] at this; cases this
    · rw [he] at h4 ⊢
      exact ltS_tri (h3 _ (memF_sub _ _ _) hxt) (h4 u (by omega) h2)
  | none =>
    have h1 := refExAll_none _ _ hf
    rcases exAll_inv h (2 ^ (sureN rs).length) 0 [] (.inl ⟨rfl, fun t ht => by omega⟩) with ⟨h4, _⟩ | ⟨t, ht, hxt, he, h4⟩
    · exact h4
    · exfalso
      have hsub := memF_sub t (sureN rs) 0
      have hne := exclR_nil h hxt
      have hl : 0 < (memF t 0 (sureN rs)).length := List.length_pos_iff.2 hne
      have := h1 _ hsub (by omega) (by have := hsub.length_le; omega)
      rw [this] at hxt; cases hxt
theorem refExcluded_ne {l : List Slot} {rs : List RQ} (h : Okay l rs) {s : List Nat} (hf : refExcluded l rs = some s) : s ≠ [] := by
  have h0 : ∀ t : List Nat, t.Sublist (sureN rs) → t.length < 1 → exclR l rs t = false := by
    intro t _ ht
    obtain rfl := List.length_eq_zero_iff.1 (show t.length = 0 by omega)
    cases hx : exclR l rs [] with
    | false => rfl
    | true => exact absurd rfl (exclR_nil h hx)
  exact exclR_nil h (refExAll_some (sureL_sorted rs 0) _ 1 s h0 hf).2.1
end Go.Sheet
/- Either all guaranteed requests can be served, or a set of them excludes itself. Plain law. -/
namespace Go.Sheet
theorem roomR_sm (l : List Slot) (rs : List RQ) (s : List Nat) : ∀ k, roomR l rs s k = sm k fun j => if s.any (fun i => decide (0 < refWAt rs i j)) then (match l[j]? with | some x => x.p | none => 0) else 0
  | 0 => rfl
  | k + 1 => by rw [roomR, roomR_sm l rs s k]; rfl
theorem sureL_sub (rs : List RQ) : ∀ k, (sureL k rs).Sublist (List.range' k rs.length) := by
  induction rs with
  | nil => intro k; exact List.Sublist.slnil
  | cons x rs ih =>
    intro k
    rw [sureL, List.length_cons, List.range'_succ]
    split
    · exact (ih (k + 1)).cons_cons k
    · exact (ih (k + 1)).cons k
theorem sureN_sub (rs : List RQ) : (sureN rs).Sublist (List.range rs.length) := by
  rw [List.range_eq_range']; exact sureL_sub rs 0
theorem mem_sureL (rs : List RQ) : ∀ k i, i ∈ sureL k rs ↔ k ≤ i ∧ ∃ x, rs[i - k]? = some x ∧ x.g = true := by
  induction rs with
  | nil => intro k i; simp [sureL]
  | cons x rs ih =>
    intro k i
    rw [sureL]
    constructor
    · intro h
      split at h
      · rename_i hg
        rcases List.mem_cons.1 h with rfl | h
        · exact ⟨Nat.le_refl _, x, by simp, hg⟩
        · obtain ⟨h1, y, hy, hg'⟩ := (ih (k + 1) i).1 h
          exact ⟨by omega, y, by rw [show i - k = (i - (k + 1)) + 1 by omega]; simpa using hy, hg'⟩
      · obtain ⟨h1, y, hy, hg'⟩ := (ih (k + 1) i).1 h
        exact ⟨by omega, y, by rw [show i - k = (i - (k + 1)) + 1 by omega]; simpa using hy, hg'⟩
    · rintro ⟨h1, y, hy, hg⟩
      by_cases e : i = k
      · subst e
        rw [Nat.sub_self] at hy
        simp at hy
        subst hy
        rw [if_pos hg]; simp
      · have : i ∈ sureL (k + 1) rs := (ih (k + 1) i).2 ⟨by omega, y, by rw [show i - k = (i - (k + 1)) + 1 by omega] at hy; simpa using hy, hg⟩
        split
        · exact List.mem_cons_of_mem _ this
        · exact this
theorem mem_sureN {rs : List RQ} {i : Nat} : i ∈ sureN rs ↔ ∃ x, rs[i]? = some x ∧ x.g = true := by
  rw [sureN, mem_sureL]; simp
theorem cntI_sub {k : Int} {a b : List Int} (h : a.Sublist b) : cntI k a ≤ cntI k b := by
  induction h with
  | slnil => exact Int.le_refl _
  | cons x _ ih => rw [cntI]; split <;> omega
  | cons_cons x _ ih => rw [cntI, cntI]; omega
theorem len_sm {n : Nat} : ∀ a : List Int, (∀ x ∈ a, 0 ≤ x ∧ x < n) → (a.length : Int) = sm n fun k => cntI (k : Int) a
  | [], _ => (sm_zero n).symm
  | x :: a, h => by
    have hx := h x (List.mem_cons_self ..)
    have e : sm n (fun k => cntI (k : Int) (x :: a)) = sm n (fun k => (if x = (k : Int) then 1 else 0) + cntI (k : Int) a) := sm_congr fun k _ => rfl
    rw [e, sm_add, ← len_sm a fun y hy => h y (List.mem_cons_of_mem _ hy), sm_single (j := x.toNat) (by omega) fun i hi hn => if_neg (by omega), if_pos (by omega), List.length_cons]
    omega
theorem map_getD_range (a : List Int) : (List.range a.length).map (fun i => a.getD i 0) = a := by
  refine List.ext_getElem (by simp) fun k h1 h2 => ?_
  simp [List.getD_eq_getElem?_getD, h2]
/-- where all are served, no set excludes itself -/
theorem served_none {l : List Slot} {rs : List RQ} (ok : Okay l rs) {a : List Int} (ha : AOk l rs a) (hs : SureA rs a) {t : List Nat} (ht : t.Sublist (sureN rs)) : exclR l rs t = false := by
  have hsub : (t.map fun i => a.getD i 0).Sublist a := by
    have h1 := (ht.trans (sureN_sub rs)).map (fun i => a.getD i 0)
    rw [← ha.len, map_getD_range] at h1
    exact h1
  have hent : ∀ i ∈ t, ∃ x, rs[i]? = some x ∧ hasWish x (a.getD i 0) = true ∧ 0 ≤ a.getD i 0 ∧ a.getD i 0 < l.length := fun i hi => by
    obtain ⟨x, hx, hg⟩ := mem_sureN.1 (ht.subset hi)
    have hil : i < a.length := by rw [ha.len]; exact (List.getElem?_eq_some_iff.1 hx).1
    have hai : a[i]? = some (a.getD i 0) := by rw [List.getD_eq_getElem?_getD, List.getElem?_eq_getElem hil, Option.getD_some]
    have hw := hs i x _ hx hai hg
    obtain ⟨y, hy⟩ := hasWish_some hw
    obtain ⟨hym, hys⟩ := find_mem hy
    have := (ok.wish x (List.mem_of_getElem? hx) y hym).1
    exact ⟨x, hx, hw, by omega, by omega⟩
  have hlen : (t.length : Int) ≤ roomR l rs t l.length := by
    have h1 := len_sm (n := l.length) (t.map fun i => a.getD i 0) (fun x hx => by
      obtain ⟨i, hi, rfl⟩ := List.mem_map.1 hx
      obtain ⟨_, _, _, h3, h4⟩ := hent i hi
      exact ⟨h3, h4⟩)
    rw [List.length_map] at h1
    rw [h1, roomR_sm]
    refine sm_le fun k hk => ?_
    have hlk : l[k]? = some l[k] := List.getElem?_eq_getElem hk
    rw [hlk]
    by_cases hany : (t.any fun i => decide (0 < refWAt rs i (k : Int))) = true
    · rw [if_pos hany]
      exact Int.le_trans (cntI_sub hsub) (ha.cap k _ hlk)
    · rw [if_neg hany, cntI_none _ _ fun x hx e => hany ?_]
      · exact Int.le_refl _
      · obtain ⟨i, hi, rfl⟩ := List.mem_map.1 hx
        obtain ⟨z, hz, hw, _, _⟩ := hent i hi
        rw [List.any_eq_true]
        refine ⟨i, hi, ?_⟩
        rw [refWAt, hz, ← e]
        rcases refW_cases ok (List.mem_of_getElem? hz) (a.getD i 0) with ⟨_, h1, _⟩ | ⟨h1, _⟩
        · rw [decide_eq_true_eq]; dsimp only; omega
        · rw [hw] at h1; cases h1
  rw [exclR]
  simp; omega
/-- the requests without a guarantee wish for nothing -/
def onlyQ (x : RQ) : RQ := if x.g = true then x else ⟨x.name, false, []⟩
def onlyR (rs : List RQ) : List RQ := rs.map onlyQ
theorem only_at (rs : List RQ) (i : Nat) : (onlyR rs)[i]? = (rs[i]?).map onlyQ := by rw [onlyR, List.getElem?_map]
theorem only_ws (x : RQ) : ∀ y ∈ (onlyQ x).ws, y ∈ x.ws ∧ x.g = true := by
  intro y hy
  rw [onlyQ] at hy
  split at hy
  · rename_i h; exact ⟨hy, h⟩
  · cases hy
theorem only_fit {l : List Slot} {rs : List RQ} (h : Fit l rs) : Fit l (onlyR rs) where
  mok := ⟨h.mok.sp, h.mok.nl, by simpa [onlyR] using h.mok.nr, fun x hx y hy => by
    obtain ⟨z, hz, rfl⟩ := List.mem_map.1 hx
    exact h.mok.ws z hz y (only_ws z y hy).1⟩
  once := fun x hx y hy w hw e => by
    obtain ⟨z, hz, rfl⟩ := List.mem_map.1 hx
    exact h.once z hz y (only_ws z y hy).1 w (only_ws z w hw).1 e
  inn := fun x hx y hy => by
    obtain ⟨z, hz, rfl⟩ := List.mem_map.1 hx
    exact h.inn z hz y (only_ws z y hy).1
theorem only_has {x : RQ} {s : Int} (h : hasWish (onlyQ x) s = true) : hasWish x s = true ∧ x.g = true := by
  obtain ⟨y, hy⟩ := hasWish_some h
  obtain ⟨hm, hs⟩ := find_mem hy
  obtain ⟨h1, h2⟩ := only_ws x y hm
  refine ⟨?_, h2⟩
  rw [hasWish, List.find?_isSome]
  exact ⟨y, h1, by simpa using hs⟩
/-- how many can be served of those that are guaranteed: all, or prices show why not -/
theorem servedN_le {l : List Slot} {rs : List RQ} (hf : Fit l rs) {a : List Int} (ha : AOk l (onlyR rs) a) : servedN a = gN rs a ∧ AOk l rs a := by
  refine ⟨?_, ⟨by have := ha.len; simpa [onlyR] using this, fun i x s hx hs => ?_, ha.cap⟩⟩
  · have hlen : a.length = rs.length := by have := ha.len; simpa [onlyR] using this
    have hw : ∀ (i : Nat) x s, rs[i]? = some x → a[i]? = some s → s = -1 ∨ (hasWish x s = true ∧ x.g = true) := fun i x s hx hs => by
      rcases ha.wish i (onlyQ x) s (by rw [only_at, hx]; rfl) hs with h | h
      · exact .inl h
      · exact .inr (only_has h)
    have hnn : ∀ x ∈ rs, ∀ y ∈ x.ws, 0 ≤ y.s := fun x hx y hy => (hf.mok.ws x hx y hy).1
    clear ha hf
    induction rs generalizing a with
    | nil =>
      have : a = [] := List.eq_nil_of_length_eq_zero (by simpa using hlen)
      subst this
      simp [servedN, gN]
    | cons x rs ih =>
      cases a with
      | nil => simp at hlen
      | cons s a =>
        rw [servedN, gN, ih (by simpa using hlen) (fun i y t a b => hw (i + 1) y t (by simpa using a) (by simpa using b)) (fun y hy => hnn y (List.mem_cons_of_mem _ hy))]
        congr 1
        rcases hw 0 x s rfl rfl with h | ⟨h1, h2⟩
        · subst h
          rw [if_neg (by decide), if_neg]
          rintro ⟨_, h⟩
          obtain ⟨y, hy⟩ := hasWish_some h
          obtain ⟨hm, hs⟩ := find_mem hy
          have := hnn x (List.mem_cons_self ..) y hm
          omega
        · obtain ⟨y, hy⟩ := hasWish_some h1
          obtain ⟨hm, hs⟩ := find_mem hy
          have := hnn x (List.mem_cons_self ..) y hm
          rw [if_pos (by omega), if_pos ⟨h2, h1⟩]
  · rcases ha.wish i (onlyQ x) s (by rw [only_at, hx]; rfl) hs with h | h
    · exact .inl h
    · exact .inr (only_has h).1
theorem gT_sureL : ∀ (rs : List RQ) (k : Nat), gT rs = ((sureL k rs).length : Int)
  | [], _ => rfl
  | x :: rs, k => by
    rw [gT, sureL, gT_sureL rs (k + 1)]
    split
    · rw [List.length_cons]; omega
    · omega
theorem filter_len (U : Nat → Int) (hU : ∀ i, 0 ≤ U i) : ∀ t : List Nat, (t.length : Int) - sumF (t.map U) ≤ ((t.filter fun i => U i == 0).length : Int)
  | [] => Int.le_refl _
  | i :: t => by
    have := filter_len U hU t
    have h0 := hU i
    rw [List.map_cons, sumF, List.length_cons, List.filter_cons]
    by_cases e : U i = 0
    · rw [if_pos (by simpa using e), List.length_cons]; omega
    · rw [if_neg (by simpa using e)]; omega
theorem sumF_sub {U : Nat → Int} (hU : ∀ i, 0 ≤ U i) {t t' : List Nat} (h : t.Sublist t') : sumF (t.map U) ≤ sumF (t'.map U) := by
  induction h with
  | slnil => exact Int.le_refl _
  | cons x _ ih => have := hU x; rw [List.map_cons, sumF]; omega
  | cons_cons x _ ih => rw [List.map_cons, List.map_cons, sumF, sumF]; omega
theorem sumF_range (U : List Int) : sumF ((List.range U.length).map fun i => U.getD i 0) = sumF U := by rw [map_getD_range]
theorem prSum_sm : ∀ (P : List Int) (l : List Slot), P.length = l.length → prSum P l = sm l.length fun k => P.getD k 0 * (match l[k]? with | some x => x.p | none => 0)
  | [], [], _ => rfl
  | [], _ :: _, h => by simp at h
  | _ :: _, [], h => by simp at h
  | q :: P, s :: l, h => by rw [prSum, prSum_sm P l (by simpa using h), List.length_cons, sm_shift]; rfl
/-- HALL: where not all guaranteed requests can be served, a set of them excludes itself -/
theorem hall {l : List Slot} {rs : List RQ} (ok : Okay l rs) (hno : ∀ b, AOk l rs b → ¬ SureA rs b) : ∃ t, t.Sublist (sureN rs) ∧ exclR l rs t = true := by
  have hf := okay_fit ok
  have hfo := only_fit hf
  obtain ⟨M, hM⟩ := matched_of hfo.mok hfo.mok.sv1
  have hB := matched_best hM hfo hfo.mok.sv1
  have hnno : ∀ x ∈ onlyR rs, ∀ y ∈ x.ws, 0 ≤ y.s := fun x hx y hy => (hfo.mok.ws x hx y hy).1
  generalize rowPrices M (onlyR rs).length = U at *
  generalize slotPrices M l.length = P at *
  generalize places M = a at *
  obtain ⟨hsv, hA⟩ := servedN_le hf hB.aok
  have hlo : (onlyR rs).length = rs.length := by simp [onlyR]
  have hlt : gN rs a < gT rs := by
    have h1 := gN_le rs a
    by_cases e : gT rs ≤ gN rs a
    · exact absurd ((gN_eq rs a hA.len).1 e) (hno a hA)
    · omega
  have hval : gN rs a = sumF U + prSum P l := by
    rw [← hB.eq, served_worth (l := l) hnno hB.aok.len hB.aok.wish, hsv]
  have hU0 : ∀ i, 0 ≤ U.getD i 0 := fun i => by
    rw [List.getD_eq_getElem?_getD]
    cases hu : U[i]? with
    | none => simp
    | some u => exact hB.u0 u (List.mem_of_getElem? hu)
  have hP0 : ∀ i, 0 ≤ P.getD i 0 := fun i => by
    rw [List.getD_eq_getElem?_getD]
    cases hu : P[i]? with
    | none => simp
    | some u => exact hB.p0 u (List.mem_of_getElem? hu)
  refine ⟨(sureN rs).filter fun i => U.getD i 0 == 0, List.filter_sublist, ?_⟩
  have h1 := filter_len (fun i => U.getD i 0) hU0 (sureN rs)
  have h2 := gT_sureL rs 0
  have h3 : sumF ((sureN rs).map fun i => U.getD i 0) ≤ sumF U := by
    have := sumF_sub hU0 (sureN_sub rs)
    have hul : U.length = rs.length := hB.ul.trans hlo
    rw [← hul, sumF_range] at this
    exact this
  have h4 : roomR l rs ((sureN rs).filter fun i => U.getD i 0 == 0) l.length ≤ prSum P l := by
    rw [roomR_sm, prSum_sm P l hB.pl]
    refine sm_le fun k hk => ?_
    have hlk : l[k]? = some l[k] := List.getElem?_eq_getElem hk
    have hp := (hf.mok.sp _ (List.getElem_mem hk)).1
    rw [hlk]
    dsimp only
    have hP := hP0 k
    by_cases hany : (((sureN rs).filter fun i => U.getD i 0 == 0).any fun i => decide (0 < refWAt rs i (k : Int))) = true
    · rw [if_pos hany]
      rw [List.any_eq_true] at hany
      obtain ⟨i, hi, hw⟩ := hany
      rw [List.mem_filter] at hi
      obtain ⟨hi1, hi2⟩ := hi
      obtain ⟨x, hx, hg⟩ := mem_sureN.1 hi1
      have hu : U.getD i 0 = 0 := by simpa using hi2
      rw [refWAt, hx] at hw
      have hw' : 0 < refW x (k : Int) := by simpa using hw
      rcases refW_cases ok (List.mem_of_getElem? hx) (k : Int) with ⟨hh, _⟩ | ⟨_, hh⟩
      · obtain ⟨y, hy⟩ := hasWish_some hh
        obtain ⟨hym, hys⟩ := find_mem hy
        have := hB.feas i (onlyQ x) y (by rw [only_at, hx]; rfl) (by rw [onlyQ, if_pos hg]; exact hym)
        rw [hu, hys] at this
        have h1P : 1 ≤ P.getD k 0 := by
          have e1 : oneQ (onlyQ x) y = 1 := rfl
          rw [e1, Int.toNat_natCast] at this
          omega
        have := Int.mul_le_mul_of_nonneg_right h1P (show 0 ≤ l[k].p by omega)
        omega
      · omega
    · rw [if_neg hany]
      exact Int.mul_nonneg hP (by omega)
  have h5 : gT rs = ((sureN rs).length : Int) := h2
  rw [exclR]
  simp only [decide_eq_true_eq]
  omega
/-- what Excluded answers -/
theorem excluded_cases {l : List Slot} {rs : List RQ} (h : checkRequests l rs = 0) (h12 : (sureN rs).length ≤ 12) :
    ((∃ a, AOk l rs a ∧ SureA rs a) ∧ excluded l rs = ([], 7)) ∨
    ((∀ b, AOk l rs b → ¬ SureA rs b) ∧ ∃ s, excluded l rs = (natI s, 0) ∧ s ≠ [] ∧ s.Sublist (sureN rs) ∧ exclR l rs s = true ∧ ∀ t, t.Sublist (sureN rs) → t.length < s.length → exclR l rs t = false) := by
  have ok := okay_of h
  have hs : (sureN rs).Pairwise (· < ·) := sureL_sorted rs 0
  have h0 : ∀ t : List Nat, t.Sublist (sureN rs) → t.length < 1 → exclR l rs t = false := by
    intro t _ ht
    obtain rfl := List.length_eq_zero_iff.1 (show t.length = 0 by omega)
    cases hx : exclR l rs [] with
    | false => rfl
    | true => exact absurd rfl (exclR_nil ok hx)
  have hR := excluded_ref ok
  by_cases hex : ∃ a, AOk l rs a ∧ SureA rs a
  · left
    obtain ⟨a, ha, hsa⟩ := hex
    refine ⟨⟨a, ha, hsa⟩, ?_⟩
    have hn : refExcluded l rs = none := by
      cases hf : refExcluded l rs with
      | none => rfl
      | some s =>
        obtain ⟨h1, h2, _⟩ := refExAll_some hs _ 1 s h0 hf
        rw [served_none ok ha hsa h1] at h2; cases h2
    rw [hn] at hR
    rw [excluded, if_neg (by rw [h]; simp), if_neg (by omega), hR]; rfl
  · right
    have hno : ∀ b, AOk l rs b → ¬ SureA rs b := fun b hb hsb => hex ⟨b, hb, hsb⟩
    refine ⟨hno, ?_⟩
    obtain ⟨t, ht, hx⟩ := hall ok hno
    cases hf : refExcluded l rs with
    | none =>
      have h1 := refExAll_none _ _ hf t ht
      have hne := exclR_nil ok hx
      have hl : 0 < t.length := List.length_pos_iff.2 hne
      rw [h1 (by omega) (by have := ht.length_le; omega)] at hx; cases hx
    | some s =>
      obtain ⟨h1, h2, h3⟩ := refExAll_some hs _ 1 s h0 hf
      have hne := refExcluded_ne ok hf
      rw [hf] at hR
      have hnn : natI s ≠ [] := fun e => hne (natI_nil.1 e)
      refine ⟨s, ?_, hne, h1, h2, fun t' ht' hl => ?_⟩
      · rw [excluded, if_neg (by rw [h]; simp), if_neg (by omega), hR]
        dsimp only
        rw [if_neg hnn]
      · cases hx' : exclR l rs t' with
        | false => rfl
        | true => exact absurd (.inl (by unfold natI; simpa using hl)) (h3 t' ht' hx')
end Go.Sheet
/- Walks of the reference: Sure, Excludes. -/
namespace Go.Sheet
theorem natI_append (a b : List Nat) : natI (a ++ b) = natI a ++ natI b := by unfold natI; simp
theorem roomR_bd {l : List Slot} {rs : List RQ} (h : Okay l rs) (s : List Nat) : ∀ k, 0 ≤ roomR l rs s k ∧ roomR l rs s k ≤ 8 * (k : Int) := by
  intro k
  induction k with
  | zero => exact ⟨Int.le_refl _, Int.le_refl _⟩
  | succ k ih =>
    rw [roomR]
    push_cast
    split
    · cases hx : l[k]? with
      | none => show 0 ≤ _ + (0 : Int) ∧ _ + (0 : Int) ≤ _; omega
      | some x =>
        have := h.slot x (List.mem_of_getElem? hx)
        show 0 ≤ _ + x.p ∧ _ + x.p ≤ _
        omega
    · omega
end Go.Sheet
namespace Go.Proofs.YtjfhncnpmelopaaGreatDoor
open Go.RowKit Go.Mem Go.Sheet
set_option maxRecDepth 100000 in
set_option maxHeartbeats 2000000 in
theorem refSure_any (W : World) (vr : Value) (n : Nat) (rs : List Req) (h : RdReqs W (· < W.heap.size) vr n rs) (hn24 : n ≤ 1000) :
    Calls Tryz.prog 41 #[vr] W fun e w' => ∃ v', e = .returned v' ∧ St W w' [row 3 1 v' (sureN (rs.map Req.rq)).length ((natI (sureN (rs.map Req.rq))).map (Value.int .i64))] := by
  have HN := Lib.hid (h.1.count (f := Req.cells) (size := 3) (fun _ => rfl) (by decide))
  obtain ⟨A, c, rfl, _, _, _⟩ := h.1.open_
  have H := Lib.hid h
  generalize HRS : rs.map Req.rq = RS
  have HRS := Lib.hid HRS
  have S0 := (St.refl W).row_nil 3 1
  clear h
  go_enter Tryz.func41, Tryz.ntmps41
  go_wp2
  go_loopw [4, 3] (fun i v w' => ∃ (k : Nat) (out : List Nat), k ≤ n ∧ out.length ≤ k ∧ i = .int .i64 k ∧ Hid (out ++ sureL k (RS.drop k) = sureN RS) ∧ St W w' [row 3 1 v out.length ((natI out).map (Value.int .i64))]) (fun i _ _ => n - (intOf i).toNat)
  case atStart => exact ⟨0, [], Nat.zero_le _, Nat.zero_le _, rfl, rfl, S0⟩
  case round =>
    obtain ⟨k, out, hk, hol, rfl, he, S⟩ := hrel
    clear S0
    by_cases hlt : k < n
    · obtain ⟨b', o, x, rfl, hx, c0, c1, c2⟩ := (H.out.1.below S.bel).elem3 (k := k) (fun s : Req => .string s.name) (fun s : Req => .bool s.g) (fun s : Req => .slice s.wa s.wn s.wc) (fun _ => rfl) hlt
      have HST : Hid (out ++ (if x.g then k :: sureL (k + 1) (RS.drop (k + 1)) else sureL (k + 1) (RS.drop (k + 1))) = sureN RS) := by
        show _ = _
        rw [← he.out, drop_at (show RS[k]? = some x.rq by rw [← HRS.out, List.getElem?_map, hx]; rfl), sureL]; rfl
      obtain ⟨name, g, wa, wn, wc, ws⟩ := x
      dsimp only at c0 c1 c2 HST
      clear hx he c0 c2
      cases g with
      | true =>
        have HNX : Hid ((out ++ [k]) ++ sureL (k + 1) (RS.drop (k + 1)) = sureN RS) := by
          show _ = _
          rw [← HST.out]; simp
        clear HST
        go_wp2_with (first
          | (at_builtin
             refine wpList_append_st eltI rfl _ _ rfl rfl (S.alloc _) (k := 0) rfl rfl (rd_new (m := 1) wr #[.int .i64 k] 3 rfl (by omega) (fun _ => True) trivial) (by simp [Value.oneCell']) (by omega) (by omega) ?_
             intro v' w' S' _))
        have HS' := Lib.hid S'
        clear S' S
        go_roundw
        case rel =>
          refine ⟨k + 1, out ++ [k], by omega, by simp; omega, by go_num, HNX.out, ?_⟩
          have := HS'.out
          rw [List.length_append, natI_append, List.map_append]
          exact this
        case measure => simp [intOf]; omega
      | false =>
        have HNX : Hid (out ++ sureL (k + 1) (RS.drop (k + 1)) = sureN RS) := HST.out
        have HSS := Lib.hid S
        clear HST S
        go_wp2
        go_roundw
        case rel => exact ⟨k + 1, out, by omega, by omega, by go_num, HNX.out, HSS.out⟩
        case measure => simp [intOf]; omega
    · obtain rfl : k = n := by omega
      have HE : Hid (out = sureN RS) := by
        show _ = _
        have := he.out
        rw [List.drop_of_length_le (by rw [← HRS.out, List.length_map]; have := HN.out; omega), sureL, List.append_nil] at this
        exact this
      have HSS := Lib.hid S
      clear S he
      go_wp2
      go_ret
      refine ⟨_, rfl, ?_⟩
      rw [← HE.out]
      exact HSS.out
set_option maxRecDepth 100000 in
set_option maxHeartbeats 4000000 in
theorem refExcludes_any (W : World) (vx vr vs : Value) (nl n : Nat) (l : List Slot) (rs : List Req) (s : List Nat) (hl : Rd W (· < W.heap.size) 3 vx nl (l.flatMap Slot.cells)) (h : RdReqs W (· < W.heap.size) vr n rs) (hs : Rd W (· < W.heap.size) 1 vs s.length ((natI s).map (Value.int .i64)))
    (ok : Okay l (rs.map Req.rq)) (hb : ∀ i ∈ s, i < n) : Calls Tryz.prog 44 #[vx, vr, vs] W fun e w' => e = .returned (.bool (exclR l (rs.map Req.rq) s)) ∧ Below W.heap.size W w' := by
  have hsl := hs.le
  generalize HSL : s.length = ns at *
  have HSL := Lib.hid HSL
  have HNL := Lib.hid (hl.count (f := Slot.cells) (size := 3) (fun _ => rfl) (by decide))
  have hnl24 : nl ≤ 24 := by have := ok.nl; have := HNL.out; omega
  obtain ⟨A, c, rfl, _, _, _⟩ := h.1.open_
  obtain ⟨Al, cl, rfl, _, _, _⟩ := hl.open_
  obtain ⟨As, cs, rfl, _, _, _⟩ := hs.open_
  have HH := Lib.hid h
  have HL := Lib.hid hl
  have HS := Lib.hid hs
  have HB := Lib.hid hb
  have HOK := Lib.hid ok
  generalize HRS : rs.map Req.rq = RS at *
  have HRS' := Lib.hid HRS
  have HEX : Hid (exclR l RS s = decide (roomR l RS s nl < (ns : Int))) := by
    show _ = _
    rw [exclR, HSL.out, ← HNL.out]
  clear HRS h hl hs hb ok
  go_enter Tryz.func44, Tryz.ntmps44
  go_wp2
  go_loopw [8, 7] (fun i p w' => ∃ k : Nat, k ≤ nl ∧ i = .int .i64 k ∧ p = .int .i64 (roomR l RS s k) ∧ Below W.heap.size W w') (fun i _ _ => nl - (intOf i).toNat)
  case atStart => exact ⟨0, Nat.zero_le _, rfl, rfl, Below.refl _ _⟩
  case round =>
    obtain ⟨k, hk, rfl, rfl, hbk⟩ := hrel
    have hrb := roomR_bd HOK.out s k
    have HSTEP : Hid (roomR l RS s (k + 1) = roomR l RS s k + if s.any (fun i => decide (0 < refWAt RS i k)) then (match l[k]? with | some x => x.p | none => 0) else 0) := rfl
    generalize hrk : roomR l RS s k = rk at *
    have HRK := Lib.hid hrk
    clear hrk
    by_cases hlt : k < nl
    · go_wp2_with fail
      go_loopw [10, 9] (fun i p w' => ∃ j : Nat, j ≤ ns ∧ i = .int .i64 j ∧ p = .bool ((s.take j).any (fun i => decide (0 < refWAt RS i k))) ∧ Below W.heap.size W w') (fun i _ _ => ns - (intOf i).toNat)
      case atStart => exact ⟨0, Nat.zero_le _, rfl, rfl, hbk⟩
      case round =>
        obtain ⟨j, hj, rfl, rfl, hbj⟩ := hrel
        clear hbk
        by_cases hlj : j < ns
        · obtain ⟨b, o, si, rfl, hsi, ci⟩ := (HS.out.later hbj).int hlj
          obtain ⟨m, hm, rfl⟩ : ∃ m : Nat, s[j]? = some m ∧ si = m := by
            unfold natI at hsi
            rw [List.getElem?_map] at hsi
            cases hx : s[j]? with
            | none => rw [hx] at hsi; cases hsi
            | some m => rw [hx] at hsi; exact ⟨m, rfl, (Option.some.inj hsi).symm⟩
          have hmn := HB.out m (List.mem_of_getElem? hm)
          obtain ⟨b2, o2, x, rfl, hx, c0, c1, c2⟩ := (HH.out.1.later hbj).elem3 (k := m) (fun s : Req => .string s.name) (fun s : Req => .bool s.g) (fun s : Req => .slice s.wa s.wn s.wc) (fun _ => rfl) hmn
          have hws := (HH.out.2 x (List.mem_of_getElem? hx)).1
          have HTK : Hid ((s.take (j + 1)).any (fun i => decide (0 < refWAt RS i k)) = ((s.take j).any (fun i => decide (0 < refWAt RS i k)) || decide (0 < refW x.rq k))) := by
            show _ = _
            have hx2 : RS[m]? = some x.rq := by rw [← HRS'.out, List.getElem?_map, hx]; rfl
            rw [take_at hm, List.any_append, List.any_cons, List.any_nil, Bool.or_false, refWAt, hx2]
          have HC := Lib.hid (refWeight_any wr x k (hws.later hbj))
          obtain ⟨name, g, wa, wn, wc, ws⟩ := x
          dsimp only at c0 c1 c2
          clear hsi hm hx hws
          generalize (s.take j).any (fun i => decide (0 < refWAt RS i k)) = pj at *
          generalize refW (Req.rq ⟨name, g, wa, wn, wc, ws⟩) k = R at *
          cases pj with
          | true =>
            have HT2 : Hid ((s.take (j + 1)).any (fun i => decide (0 < refWAt RS i k)) = true) := by show _ = _; rw [HTK.out]; rfl
            clear HTK HC
            go_wp2
            go_roundw
            case rel => exact ⟨j + 1, by omega, by go_num, by rw [HT2.out], hbj⟩
            case measure => simp [intOf]; omega
          | false =>
            have HT2 : Hid ((s.take (j + 1)).any (fun i => decide (0 < refWAt RS i k)) = decide (0 < R)) := by show _ = _; rw [HTK.out]; rfl
            clear HTK
            go_wp2_with fail
            refine HC.out.mono ?_
            rintro e w9 ⟨rfl, hb9⟩
            have hbj2 := hbj.trans (hb9.mono hbj.size)
            clear hbj hb9 HC c0 c1 c2 ci
            go_wp2
            go_roundw
            case rel => exact ⟨j + 1, by omega, by go_num, by rw [HT2.out], hbj2⟩
            case measure => simp [intOf]; omega
        · obtain rfl : j = ns := by omega
          have HALL : Hid ((s.take j).any (fun i => decide (0 < refWAt RS i k)) = s.any (fun i => decide (0 < refWAt RS i k))) := by
            show _ = _
            rw [List.take_of_length_le (by have := HSL.out; omega)]
          rw [HALL.out]
          obtain ⟨b, o, x, rfl, hx, c0, c1, c2⟩ := (HL.out.later hbj).elem3 (k := k) (fun s : Slot => .int .i64 s.m) (fun s : Slot => .int .i64 s.h) (fun s : Slot => .int .i64 s.p) (fun _ => rfl) hlt
          have hxp := HOK.out.slot x (List.mem_of_getElem? hx)
          rw [hx] at HSTEP
          dsimp only at HSTEP
          obtain ⟨xm, xh, xp⟩ := x
          dsimp only at c0 c1 c2 hxp HSTEP
          clear hx HALL
          generalize s.any (fun i => decide (0 < refWAt RS i k)) = pw at *
          cases pw with
          | true =>
            have HST2 : Hid (roomR l RS s (k + 1) = rk + xp) := HSTEP.out
            clear HSTEP
            go_wp2
            go_roundw
            case rel => exact ⟨k + 1, by omega, by go_num, by rw [HST2.out], hbj⟩
            case measure => simp [intOf]; omega
          | false =>
            have HST2 : Hid (roomR l RS s (k + 1) = rk) := by
              show _ = _
              rw [HSTEP.out]; simp
            clear HSTEP
            go_wp2
            go_roundw
            case rel => exact ⟨k + 1, by omega, by go_num, by rw [HST2.out], hbj⟩
            case measure => simp [intOf]; omega
    · obtain rfl : k = nl := by omega
      go_wp2
      go_ret
      exact ⟨ret_bool (by rw [HEX.out, HRK.out]), hbk⟩
end Go.Proofs.YtjfhncnpmelopaaGreatDoor
/- Walk of the reference: Few, up to 20 requests. -/
namespace Go.Proofs.YtjfhncnpmelopaaGreatDoor
open Go.RowKit Go.Mem Go.Sheet
/-- how Few ends -/
def FewE20 (E : Int) (e : Ending) : Prop := ∃ b, e = .returned (.bool b) ∧ (b = true → E = 0)
set_option maxRecDepth 100000 in
set_option maxHeartbeats 2000000 in
theorem Own.few20 {W w : World} {vx : Value} {A : Option Addr} {nl n c : Nat} {l : List Slot} {RS : List RQ} (h : Own W w vx (.slice A n c) nl n l RS) :
    Calls Tryz.prog 25 #[vx, .slice A n c, .int .i64 20] w fun e w' => FewE20 (checkRequests l RS) e ∧ Below w.heap.size w w' := by
  have HS := Lib.hid h.short
  have HC := Lib.hid h.check
  have hn : n ≤ 9223372036854775807 := by obtain ⟨_, _, h2⟩ := h.y; exact h2.1.le
  generalize checkRequests l RS = E at *
  clear h
  go_enter Tryz.func25, Tryz.ntmps25
  by_cases h24 : n ≤ 20
  · have h24' : decide ((n : Int) ≤ 20) = true := by simp; omega
    go_wp2_with fail
    refine HS.out.mono ?_
    rintro e w' ⟨⟨b, rfl⟩, rfl⟩
    cases b with
    | false =>
      go_wp2
      go_ret
      exact ⟨⟨false, rfl, fun h => by cases h⟩, Below.refl _ _⟩
    | true =>
      go_wp2_with fail
      refine HC.out.mono ?_
      rintro e w' ⟨rfl, hb⟩
      by_cases hE : (E == 0) = true
      · go_wp2
        go_ret
        exact ⟨⟨_, rfl, fun _ => by simpa using hE⟩, hb⟩
      · have hE' : (E == 0) = false := by simpa using hE
        go_wp2
        go_ret
        exact ⟨⟨false, rfl, fun h => by cases h⟩, hb⟩
  · have h24' : decide ((n : Int) ≤ 20) = false := by simp; omega
    go_wp2
    go_ret
    exact ⟨⟨false, rfl, fun h => by cases h⟩, Below.refl _ _⟩
end Go.Proofs.YtjfhncnpmelopaaGreatDoor
/- Walk of the law's package: known; what the law SheetCertain asks, as a plain law. -/
namespace Go.Sheet
theorem drop_sub {s : List Nat} (i : Nat) : (s.take i ++ s.drop (i + 1)).Sublist s := by
  have h := (List.Sublist.refl (s.take i)).append (List.drop_sublist 1 (s.drop i))
  rwa [List.drop_drop, List.take_append_drop] at h
theorem drop_len {s : List Nat} {i : Nat} (h : i < s.length) : (s.take i ++ s.drop (i + 1)).length < s.length := by
  rw [List.length_append, List.length_take, List.length_drop]; omega
/-- the two cases of the law -/
theorem certain_cases {l : List Slot} {rs : List RQ} (h : checkRequests l rs = 0) (h12 : (sureN rs).length ≤ 12) :
    (∃ v a c, best l rs = (v, 0) ∧ assign l rs = (a, 0) ∧ firstF l rs = (c, 0) ∧ (proofF l rs).2 = 0 ∧ checkProof l rs v (proofF l rs).1 = 0 ∧ excluded l rs = ([], 7) ∧ checkAssignment l rs a = (v, 0) ∧ checkAssignment l rs c = (v, 0) ∧ ∀ z p, checkProof l rs z p = 0 → v ≤ z) ∨
    (best l rs = (0, 23) ∧ assign l rs = ([], 23) ∧ firstF l rs = ([], 23) ∧ proofF l rs = (⟨[], []⟩, 23) ∧ ∃ s, excluded l rs = (natI s, 0) ∧ s ≠ [] ∧ s.Sublist (sureN rs) ∧ exclR l rs s = true ∧ ∀ t, t.Sublist (sureN rs) → t.length < s.length → exclR l rs t = false) := by
  have hf := okay_fit (okay_of h)
  obtain ⟨_, b1, b2⟩ := best_ref h
  obtain ⟨p1, p2⟩ := proof_ref h
  rcases excluded_cases h h12 with ⟨⟨a0, ha0, hs0⟩, he⟩ | ⟨hno, s, hs⟩
  · left
    have hE : enumA true rs (capL l) ≠ [] := by
      intro hE
      have := (mem_all hf true a0).2 ⟨ha0, fun _ => hs0⟩
      rw [hE] at this; cases this
    have hF := search_found rs true (capL l) hE
    generalize searchF rs true [] rs (capL l) fnd0 = f at *
    have hi := hF.is
    obtain ⟨g1, ⟨a, g2, ga, gs, gw⟩, g3⟩ := b2 hi
    obtain ⟨q1, q2⟩ := p2 hi
    obtain ⟨f1, f2⟩ := (mem_all hf true f.first).1 hF.mem
    refine ⟨f.value, a, f.first, g1, g2, g3, q1, q2, he, ?_, ?_, fun z p hz => ?_⟩
    · rw [ca_good h ga gs, gw]
    · rw [ca_good h f1 (f2 rfl), hF.val]
    · have := proved_le hz ga gs
      omega
  · right
    have hi : (searchF rs true [] rs (capL l) fnd0).is = false := by
      cases hi : (searchF rs true [] rs (capL l) fnd0).is with
      | false => rfl
      | true =>
        obtain ⟨_, ⟨a, _, ga, gs, _⟩, _⟩ := b2 hi
        exact absurd gs (hno a ga)
    obtain ⟨g1, g2, g3⟩ := b1 hi
    exact ⟨g1, g2, g3, p1 hi, s, hs⟩
end Go.Sheet
namespace Go.Proofs.YtjfhncnpmelopaaGreatDoor
open Go.RowKit Go.Mem Go.Sheet
set_option maxRecDepth 100000 in
set_option maxHeartbeats 4000000 in
theorem known_yes (w : World) (vr vs : Value) (n : Nat) (rs : List Req) (s : List Nat) (h : RdReqs w (· < w.heap.size) vr n rs) (hs : Rd w (· < w.heap.size) 1 vs s.length ((natI s).map (Value.int .i64)))
    (hb : ∀ (i m : Nat), s[i]? = some m → m < n ∧ ∀ x, rs[m]? = some x → x.g = true) (ha : ∀ (i m m' : Nat), s[i]? = some m → s[i + 1]? = some m' → m < m') :
    Calls Tryz.prog 43 #[vr, vs] w fun e w' => e = .returned (.bool true) ∧ ∃ q, w' = w.drewN q := by
  have HB := Lib.hid hb
  have HAS := Lib.hid ha
  have hsl := hs.le
  generalize HSL : s.length = ns at *
  have HSL := Lib.hid HSL
  obtain ⟨A, c, rfl, _, _, _⟩ := h.1.open_
  obtain ⟨As, cs, rfl, _, _, _⟩ := hs.open_
  have hn := h.1.le
  have HH := Lib.hid h
  have HS := Lib.hid hs
  clear h hs hb ha
  go_enter Tryz.func43, Tryz.ntmps43
  go_wp2_with fail
  go_loopw [5] (fun i w' => ∃ k q : Nat, k ≤ ns ∧ i = .int .i64 k ∧ w' = w.drewN q) (fun i _ => ns - (intOf i).toNat)
  case atStart => exact ⟨0, 0, Nat.zero_le _, rfl, rfl⟩
  case round =>
    obtain ⟨k, q, hk, rfl, rfl⟩ := hrel
    have hbq : Below w.heap.size w (w.drewN q) := below_drewN (Below.refl _ _) q
    by_cases hlt : k < ns
    · obtain ⟨b, o, si, rfl, hsi, ci⟩ := (HS.out.later hbq).int hlt
      obtain ⟨m, hm, rfl⟩ : ∃ m : Nat, s[k]? = some m ∧ si = m := by
        unfold natI at hsi
        rw [List.getElem?_map] at hsi
        cases hx : s[k]? with
        | none => rw [hx] at hsi; cases hsi
        | some m => rw [hx] at hsi; exact ⟨m, rfl, (Option.some.inj hsi).symm⟩
      obtain ⟨hmn, hmg⟩ := HB.out k m hm
      obtain ⟨b2, o2, x, rfl, hx, c0, c1, c2⟩ := (HH.out.1.later hbq).elem3 (k := m) (fun s : Req => .string s.name) (fun s : Req => .bool s.g) (fun s : Req => .slice s.wa s.wn s.wc) (fun _ => rfl) hmn
      have hg := hmg x hx
      rw [hg] at c1
      have t1 : decide ((m : Int) < 0) = false := by simp
      have t2 : decide ((n : Int) ≤ (m : Int)) = false := by simp; omega
      have t2' : decide (n ≤ m) = false := by simp; omega
      have HM := Lib.hid hm
      clear hsi hm hmg hx c0 c2 hg
      by_cases hk0 : k = 0
      · have t3 : decide (0 < (k : Int)) = false := by simp; omega
        have t3' : decide (0 < k) = false := by simp; omega
        generalize hw5 : w.drewN q = w5 at *
        have HW5 := Lib.hid hw5
        clear hw5 hk0 hbq
        go_wp2_with fail
        go_quiet (fail)
        go_wp2
        go_roundw
        case rel => exact ⟨k + 1, q + nq, by omega, by go_num, by rw [← HW5.out]; first | rfl | exact World.drewN_drewN _ _ _⟩
        case measure => simp [intOf]; omega
      · have t3 : decide (0 < (k : Int)) = true := by simp; omega
        have t3' : decide (0 < k) = true := by simp; omega
        obtain ⟨kp, hkp⟩ : ∃ kp : Nat, (k : Int) - 1 = kp := ⟨k - 1, by omega⟩
        have hkk : k = kp + 1 := by omega
        obtain ⟨_, _, sp, hA, hsp, cp⟩ := (HS.out.later hbq).int (k := kp) (by omega)
        cases hA
        obtain ⟨mp, hmp, rfl⟩ : ∃ m : Nat, s[kp]? = some m ∧ sp = m := by
          unfold natI at hsp
          rw [List.getElem?_map] at hsp
          cases hx : s[kp]? with
          | none => rw [hx] at hsp; cases hsp
          | some m => rw [hx] at hsp; exact ⟨m, rfl, (Option.some.inj hsp).symm⟩
        have hlt2 := HAS.out kp mp m hmp (by rw [← hkk]; exact HM.out)
        have t4 : decide ((m : Int) ≤ (mp : Int)) = false := by simp; omega
        have t4' : decide (m ≤ mp) = false := by simp; omega
        generalize hw5 : w.drewN q = w5 at *
        have HW5 := Lib.hid hw5
        clear hw5 hk0 hbq hkk hsp hmp hlt2
        go_wp2_with fail
        go_quiet (fail)
        go_wp2
        go_roundw
        case rel => exact ⟨k + 1, q + nq, by omega, by go_num, by rw [← HW5.out]; first | rfl | exact World.drewN_drewN _ _ _⟩
        case measure => simp [intOf]; omega
    · obtain rfl : k = ns := by omega
      have tkk : decide ((k : Int) < (k : Int)) = false := by simp
      go_wp2
      go_ret
      exact ⟨rfl, q, rfl⟩
end Go.Proofs.YtjfhncnpmelopaaGreatDoor
/- Like TailW, slice expressions among the plain operations. A drawn region of three parts: first m operations that have one value in whatever world; quiet operations (loads) that have one value in every world that meets S; loud operations that keep S, in whatever order; then a forced tail. -/
namespace Go.MemS
open Go Go.RowKit Go.Mem
variable {P : Program} {ops : Array Oper} {md : Region.Mode} {S : World → Prop} {Q : Exit → Act → World → Prop}
/-- operations that yield a value and nothing else -/
def plainOp : Op → Bool
  | .move _ | .assign _ | .fieldAddr _ _ _ | .load _ _ | .nilCheck _ | .indexAddr _ _ _ => true
  | .binOp _ _ _ _ _ => true
  | .call { callee := .builtin .len, args := _, argTypes := _ } => true
  | .call { callee := .builtin .max, args := _, argTypes := _ } => true
  | .slice _ _ _ _ _ => true
  | _ => false
def Good (P : Program) (t : Sem Next) : Prop := ∀ w w' n, t.run P w = .ok n w' → ∃ v, n = .value v
theorem Good.pure (x : Value) : Good P (Pure.pure (Next.value x)) := fun w w' n h => by
  simp only [Sem.run_pure, Result.ok.injEq] at h; exact ⟨_, h.1.symm⟩
theorem Good.bind {α : Type} (s : Sem α) (f : α → Sem Next) (h : ∀ x, Good P (f x)) : Good P (s >>= f) := fun w w' n hs => by
  simp only [Sem.run_bind] at hs
  cases hq : s.run P w with
  | ok x w2 => rw [hq] at hs; simp only [Result.andThen_ok] at hs; exact h x _ _ _ hs
  | halt x w2 => rw [hq] at hs; simp [Result.andThen] at hs
theorem Good.nilDeref : Good P (runtimePanic .nilDeref) := fun w w' n h => by
  simp [runtimePanic, goPanic, go_sem] at h
theorem plain_good {o : Oper} (h : plainOp o.op = true) (ρ : Operand → Value) : Good P (execOp ρ o) := by
  unfold execOp
  unfold plainOp at h
  split at h
  · rename_i e; simp only [e]; exact .pure _
  · rename_i e; simp only [e]; exact .pure _
  · rename_i e; simp only [e]; exact .bind _ _ fun x => .pure x
  · rename_i e; simp only [e]; exact .bind _ _ fun x => .pure x
  · rename_i e
    simp only [e]
    split
    · exact .nilDeref
    · exact .nilDeref
    · exact .nilDeref
    · split
      · exact .nilDeref
      · refine .bind _ _ fun x => .bind _ _ fun y => ?_
        split
        · exact .bind _ _ fun _ => .pure _
        · exact .pure _
      · exact .pure _
    · exact .pure _
  · rename_i e; simp only [e]; exact .bind _ _ fun x => .pure x
  · rename_i e; simp only [e]; exact .bind _ _ fun x => .pure x
  · rename_i e
    simp only [e, resolve, invoke, builtin]
    intro w w' n hs
    simp only [Sem.run_bind, Sem.run_pure, Result.andThen_ok] at hs
    exact (Good.bind (Builtin.len_ _ _ _) (fun x => Pure.pure (Next.value x)) fun x => .pure x) _ _ _ (by simpa only [Sem.run_bind, Sem.run_pure] using hs)
  · rename_i e
    simp only [e, resolve, invoke, builtin]
    intro w w' n hs
    simp only [Sem.run_bind, Sem.run_pure, Result.andThen_ok] at hs
    exact (Good.bind (Builtin.max_ _ _ _) (fun x => Pure.pure (Next.value x)) fun x => .pure x) _ _ _ (by simpa only [Sem.run_bind, Sem.run_pure] using hs)
  · rename_i e; simp only [e]; exact .bind _ _ fun x => .pure x
  · cases h
/-- what a quiet walk shows of a plain operation -/
theorem yieldsIf_of_qOp {i : Nat} {o : Oper} {a : Act} {K : Act → Prop} (hi : ops[i]? = some o) (hp : plainOp o.op = true) (h : qOp P ops S i K a) : ∃ v, YieldsIf P ops S o v a ∧ K (a.put o.dst v) := by
  obtain ⟨v, hy, hk⟩ := yieldsIn_of_qOp hi h
  refine ⟨v, hy.imp (fun ⟨h1, h2⟩ => ⟨h1, fun w hw => ?_⟩) id, hk⟩
  have h3 := h2 w hw
  unfold Oper.quietAt at h3
  generalize hr : (execOp a.eval o).run P w = r at *
  cases r with
  | ok n w' =>
    obtain ⟨u, rfl⟩ := plain_good hp _ _ _ _ hr
    obtain ⟨rfl, rfl⟩ := h3
    rfl
  | halt x w' => simp only [Oper.quietUpon] at h3
/-- the operations of the list, each ready and free when its turn comes -/
def lexIs (md : Region.Mode) (ops : Array Oper) : List Nat → Array Bool → Bool
  | [], _ => true
  | i :: l, ls => (Region.ready md ops ls).contains i && Region.free md ops ls i && ((ops[i]?).map fun o => plainOp o.op).getD false && lexIs md ops l (ls.setIfInBounds i true)
def setAll : List Nat → Array Bool → Array Bool
  | [], ls => ls
  | i :: l, ls => setAll l (ls.setIfInBounds i true)
def pick (ops : Array Oper) (l : List Nat) : List Oper := l.filterMap (ops[·]?)
theorem wpQuiet_mono' {R R' : Act → Prop} (hR : ∀ a, R a → R' a) : ∀ {l : List Oper} {a : Act}, wpQuiet P ops S R l a → wpQuiet P ops S R' l a := by
  intro l
  induction l with
  | nil => intro a h; exact hR _ h
  | cons o l ih =>
    intro a h
    simp only [wpQuiet] at h ⊢
    split
    · rename_i hw; rw [if_pos hw] at h; exact Oper.quiet_mono (fun a => ih) h
    · rename_i hw; rw [if_neg hw] at h; exact ih h
/-- operations that have one value in whatever world may come first in the region -/
theorem wpAny_pre (hsel : Region.noSelect ops = true) (hQ : ∀ c a a' w, Q (.panic c) a' w → Q (.panic c) a w) {g : Nat} {w : World} (pre : List Nat) :
    ∀ (ls : Array Bool) (a : Act), lexIs md ops pre ls = true → wpQuiet P ops (fun _ => True) (fun a' => wpAny P md ops Q g (setAll pre ls) a' w) (pick ops pre) a → wpAny P md ops Q (pre.length + g) ls a w := by
  induction pre with
  | nil => intro ls a _ h; rw [List.length_nil, Nat.zero_add]; exact h
  | cons i l ih =>
    intro ls a hB h
    simp only [lexIs, Bool.and_eq_true] at hB
    obtain ⟨⟨⟨hr, hf⟩, hp⟩, hB⟩ := hB
    cases ho : ops[i]? with
    | none => rw [ho] at hp; cases hp
    | some o =>
      rw [ho] at hp
      have e : pick ops (i :: l) = o :: pick ops l := by simp [pick, ho]
      rw [e] at h
      have hq : qOp P ops (fun _ => True) i (wpQuiet P ops (fun _ => True) (fun a' => wpAny P md ops Q g (setAll (i :: l) ls) a' w) (pick ops l)) a := by unfold qOp; simp only [ho]; exact h
      obtain ⟨v, hy, hk⟩ := yieldsIf_of_qOp ho hp hq
      have e2 : (i :: l).length + g = (l.length + g) + 1 := by simp only [List.length_cons]; omega
      rw [e2]
      exact wpAny_take ho hsel hf hr (fun c a w h => hQ _ _ _ _ h) (hy.imp (fun ⟨h1, h2⟩ => ⟨h1, fun w => h2 w trivial⟩) id) (ih _ _ hB hk)
def sinkFrom (md : Region.Mode) (ops : Array Oper) (m n : Nat) : Bool :=
  (List.range n).all fun i => decide (i < m) || (List.range (n + 1)).any fun j => decide (i < j) && Region.waitsFor md ops j i
theorem tail_waits' {m n : Nat} {listed : Array Bool} (hs : sinkFrom md ops m n = true) (hc : Region.chainB md ops n = true) (hn : n < ops.size) (inv : HeadInv md ops n listed) :
    ∀ (d i : Nat), n - i = d → m ≤ i → i < n → listed.getD i true = false → ∀ t, n ≤ t → t ∉ Region.ready md ops listed := by
  intro d
  induction d using Nat.strongRecOn with
  | _ d ih =>
    intro i hd hmi hi hun t ht hr
    obtain ⟨_, ot, hot, hall⟩ := mem_ready.1 hr
    have htlt : t < ops.size := (Array.getElem?_eq_some_iff.1 hot).1
    by_cases htn : t = n
    · subst htn
      have h1 := List.all_eq_true.1 hs i (List.mem_range.2 hi)
      have h1' : ((List.range (t + 1)).any fun j => decide (i < j) && Region.waitsFor md ops j i) = true := by
        simp only [Bool.or_eq_true, decide_eq_true_eq] at h1
        rcases h1 with h1 | h1
        · omega
        · exact h1
      obtain ⟨j, hj, hj2⟩ := List.any_eq_true.1 h1'
      simp only [Bool.and_eq_true, decide_eq_true_eq] at hj2
      obtain ⟨oj, hoj, e, he, hb, hon⟩ := Region.waitsFor_spec hj2.2
      have hjle : j ≤ t := by have := List.mem_range.1 hj; omega
      by_cases hjt : j = t
      · subst hjt
        have : oj = ot := Option.some.inj (hoj.symm.trans hot)
        subst this
        have h2 := hall e he hb
        rw [hon, getD_both hun] at h2
        cases h2
      · cases hl : listed.getD j false with
        | true =>
          have h2 := inv.closed j oj hoj hl e he hb
          rw [hon, getD_both hun] at h2
          cases h2
        | false =>
          have hjs : j < listed.size := by rw [inv.size]; omega
          exact ih (t - j) (by omega) j rfl (by omega) (by omega) (getD_in hjs hl) t (Nat.le_refl _) hr
    · have h1 := List.all_eq_true.1 hc t (List.mem_range.2 htlt)
      simp only [Bool.or_eq_true, decide_eq_true_eq] at h1
      rcases h1 with h1 | h1
      · omega
      · obtain ⟨o', ho', e, he, hb, hon⟩ := Region.waitsFor_spec h1
        have : o' = ot := Option.some.inj (ho'.symm.trans hot)
        subst this
        have h2 := hall e he hb
        rw [hon, getD_both (inv.tail (t - 1) (by omega) (by omega))] at h2
        cases h2
/-- whatever is picked within the head; S is kept -/
def headW (P : Program) (md : Region.Mode) (ops : Array Oper) (Q : Exit → Act → World → Prop) (S : World → Prop) (n : Nat) (L : Array Bool → Act → World → Prop) : Nat → Array Bool → Act → World → Prop
  | 0, ls, a, w => L ls a w
  | k + 1, ls, a, w => Region.ready md ops ls ≠ [] ∧ ∀ i ∈ Region.ready md ops ls, i < n ∧ wpOp P ops Q i (fun a' w' => S w' ∧ headW P md ops Q S n L k (ls.setIfInBounds i true) a' w') a w
theorem headW_sound {n g : Nat} {L : Array Bool → Act → World → Prop} (hL : ∀ ls a w, L ls a w → wpAny P md ops Q g ls a w) (k : Nat) :
    ∀ (ls : Array Bool) (a : Act) (w : World), headW P md ops Q S n L k ls a w → wpAny P md ops Q (k + g) ls a w := by
  induction k with
  | zero => intro ls a w h; rw [Nat.zero_add]; exact hL ls a w h
  | succ k ih =>
    intro ls a w h
    have e : k + 1 + g = (k + g) + 1 := by omega
    rw [e]
    exact ⟨fun h0 => absurd h0 h.1, fun i hi => wpOp_mono (fun a' w' h' => ih _ a' w' h'.2) (h.2 i hi).2⟩
theorem headW_first {m n i : Nat} {oi : Oper} {v : Value} {L : Array Bool → Act → World → Prop} (hi : ops[i]? = some oi) (hsel : ∀ (j : Nat) (o : Oper) cs b, ops[j]? = some o → o.op ≠ .select cs b)
    (hs : sinkFrom md ops m n = true) (hc : Region.chainB md ops n = true) (hn : n < ops.size) (hin : i < n) (hQ : ∀ c a a' w, Q (.panic c) a' w → Q (.panic c) a w)
    (hend : ∀ ls a w, L ls a w → ∀ j ∈ Region.ready md ops ls, n ≤ j) (k : Nat) :
    ∀ (ls : Array Bool) (a : Act) (w : World), HeadInv md ops n ls → (∀ i < m, ls.getD i true = true) →
      (∀ j oj, ops[j]? = some oj → j ≠ i → ls.getD j true = false → (∀ e ∈ oj.after, Region.binds md e = true → e.on ≠ i) → oi.apart ops oj = true) →
      i ∈ Region.ready md ops ls → YieldsIf P ops S oi v a → S w → headW P md ops Q S n L k (ls.setIfInBounds i true) (a.put oi.dst v) w → headW P md ops Q S n L (k + 1) ls a w := by
  have inHead : ∀ (ls : Array Bool), HeadInv md ops n ls → (∀ i < m, ls.getD i true = true) → i ∈ Region.ready md ops ls → ∀ j ∈ Region.ready md ops ls, j < n := by
    intro ls inv hm hr j hj
    rcases Nat.lt_or_ge j n with h | h
    · exact h
    · have hun := (mem_ready.1 hr).1
      have hmi : m ≤ i := by
        rcases Nat.lt_or_ge i m with h' | h'
        · rw [hm i h'] at hun; cases hun
        · exact h'
      exact absurd hj (tail_waits' hs hc hn inv _ i rfl hmi hin hun j h)
  induction k with
  | zero =>
    intro ls a w inv hm _ hr hy hS H
    refine ⟨fun h => (by rw [h] at hr; cases hr), fun j hj => ⟨inHead ls inv hm hr j hj, ?_⟩⟩
    by_cases e : j = i
    · subst e; exact hy.wpOp hi hS ⟨hS, H⟩
    · have h1 := hend _ _ _ H j (ready_mono hj e)
      have h2 := inHead ls inv hm hr j hj
      omega
  | succ k ih =>
    intro ls a w inv hm hfree hr hy hS H
    refine ⟨fun h => (by rw [h] at hr; cases hr), fun j hj => ⟨inHead ls inv hm hr j hj, ?_⟩⟩
    by_cases e : j = i
    · subst e; exact hy.wpOp hi hS ⟨hS, H⟩
    · obtain ⟨hju, oj, hoj, hall⟩ := mem_ready.1 hj
      have hnot : ∀ d ∈ oj.after, Region.binds md d = true → d.on ≠ i := fun d hd hb hq => by
        have h1 := hall d hd hb
        rw [hq, getD_both (mem_ready.1 hr).1] at h1
        cases h1
      have h1 := wpOp_putIf hoj (hfree j oj hoj e hju hnot) (fun cs b => hsel i oi cs b hi) (fun cs b => hsel j oj cs b hoj) (fun c a w h => hQ c a _ w h) hy (H.2 j (ready_mono hj e)).2
      refine wpOp_mono (fun a' w' h2 => ⟨h2.2.1, ?_⟩) h1
      refine ih (ls.setIfInBounds j true) a' w' (inv.set hj (inHead ls inv hm hr j hj)) (fun x hx => ?_) (fun q om hq hqi hqu hno => ?_) (ready_mono hr (Ne.symm e)) h2.1 h2.2.1 ?_
      · by_cases hjx : j = x
        · subst hjx
          have := (mem_ready.1 hj).1
          rw [hm j hx] at this
          cases this
        · rw [getD_set_ne true hjx]; exact hm x hx
      · refine hfree q om hq hqi ?_ hno
        by_cases hjm : j = q
        · subst hjm; exact hju
        · rw [getD_set_ne true hjm] at hqu; exact hqu
      · rw [Array.setIfInBounds_comm _ _ e]
        exact h2.2.2
theorem HeadInv.setAll {n : Nat} : ∀ (l : List Nat) (ls : Array Bool), HeadInv md ops n ls → lexIs md ops l ls = true → (∀ i ∈ l, i < n) → HeadInv md ops n (setAll l ls)
  | [], _, inv, _, _ => inv
  | i :: l, ls, inv, hB, hl => by
    simp only [lexIs, Bool.and_eq_true] at hB
    exact HeadInv.setAll l _ (inv.set (by simpa using hB.1.1.1) (hl i (List.mem_cons_self ..))) hB.2 fun j hj => hl j (List.mem_cons_of_mem _ hj)
theorem setAll_true : ∀ (l : List Nat) (ls : Array Bool) (x : Nat), ls.getD x true = true → (Go.MemS.setAll l ls).getD x true = true
  | [], _, _, h => h
  | i :: l, ls, x, h => by
    refine setAll_true l _ x ?_
    by_cases hix : i = x
    · subst hix
      rcases Nat.lt_or_ge i ls.size with h' | h'
      · simp [h']
      · simp [h']
    · rw [getD_set_ne true hix]; exact h
theorem setAll_mem : ∀ (l : List Nat) (ls : Array Bool) (x : Nat), x ∈ l → (Go.MemS.setAll l ls).getD x true = true
  | i :: l, ls, x, h => by
    rcases List.mem_cons.1 h with rfl | h
    · refine setAll_true l _ x ?_
      rcases Nat.lt_or_ge x ls.size with h' | h'
      · simp [h']
      · simp [Array.getElem?_eq_none h']
    · exact setAll_mem l _ x h
/-- operations that have one value in every world that meets S may come first in the head -/
theorem headW_qs {m n k : Nat} {L : Array Bool → Act → World → Prop} {w : World} (hsel : Region.noSelect ops = true) (hs : sinkFrom md ops m n = true) (hc : Region.chainB md ops n = true) (hn : n < ops.size)
    (hQ : ∀ c a a' w, Q (.panic c) a' w → Q (.panic c) a w) (hend : ∀ ls a w, L ls a w → ∀ j ∈ Region.ready md ops ls, n ≤ j) (hS : S w) (qs : List Nat) :
    ∀ (ls : Array Bool) (a : Act), HeadInv md ops n ls → (∀ i < m, ls.getD i true = true) → lexIs md ops qs ls = true → (∀ i ∈ qs, i < n) →
      wpQuiet P ops S (fun a' => headW P md ops Q S n L k (setAll qs ls) a' w) (pick ops qs) a → headW P md ops Q S n L (qs.length + k) ls a w := by
  induction qs with
  | nil => intro ls a _ _ _ _ h; rw [List.length_nil, Nat.zero_add]; exact h
  | cons i l ih =>
    intro ls a inv hm hB hl h
    simp only [lexIs, Bool.and_eq_true] at hB
    obtain ⟨⟨⟨hr, hf⟩, hp⟩, hB⟩ := hB
    cases ho : ops[i]? with
    | none => rw [ho] at hp; cases hp
    | some o =>
      rw [ho] at hp
      have e : pick ops (i :: l) = o :: pick ops l := by simp [pick, ho]
      rw [e] at h
      have hq : qOp P ops S i (wpQuiet P ops S (fun a' => headW P md ops Q S n L k (Go.MemS.setAll (i :: l) ls) a' w) (pick ops l)) a := by unfold qOp; simp only [ho]; exact h
      obtain ⟨v, hy, hk⟩ := yieldsIf_of_qOp ho hp hq
      have e2 : (i :: l).length + k = (l.length + k) + 1 := by simp only [List.length_cons]; omega
      have hr' : i ∈ Region.ready md ops ls := by simpa using hr
      have hin := hl i (List.mem_cons_self ..)
      rw [e2]
      refine headW_first ho (Region.noSelect_spec hsel) hs hc hn hin hQ hend _ ls a w inv hm (Region.free_spec ho hf) hr' hy hS ?_
      refine ih _ _ (inv.set hr' hin) (fun x hx => ?_) hB (fun j hj => hl j (List.mem_cons_of_mem _ hj)) hk
      exact setAll_true [i] ls x (hm x hx)
/-- what the numbers of a region must be -/
def headWB (ops : Array Oper) (m n k : Nat) (qs : List Nat) : Bool :=
  let l0 := Array.replicate ops.size false
  let l1 := setAll (List.range m) l0
  Region.noSelect ops && decide (n < ops.size) && decide (m + (qs.length + k) = n) && sinkFrom .any ops m n && Region.chainB .any ops n && lexIs .any ops (List.range m) l0 && lexIs .any ops qs l1 && qs.all (fun i => decide (i < n)) &&
    decide (m ≤ n)
/-- the law -/
theorem wp_head_tail {id : Nat} {a : Act} {w : World} {l : List Oper} (m n k : Nat) (qs : List Nat) (S : World → Prop) (Fin : Act → World → Prop) (hm : P.follows .mixedOrders = true) (hB : headWB l.toArray m n k qs = true) (hS : S w.drew)
    (h1 : wpQuiet P l.toArray (fun _ => True) (fun a1 => wpQuiet P l.toArray S (fun a2 => headW P .any l.toArray (NoPanic Q) S n
        (fun ls a' w' => Region.seqB .any l.toArray (l.toArray.size - n) n ls = true ∧ Fin a' w') k (setAll qs (setAll (List.range m) (Array.replicate l.toArray.size false))) a2 w.drew) (pick l.toArray qs) a1) (pick l.toArray (List.range m)) a)
    (h2 : ∀ a' w', Fin a' w' → wpList P l.toArray (NoPanic Q) (l.drop n) a' w') : (Code.region id l.toArray true).wp P Q a w := by
  simp only [headWB, Bool.and_eq_true, decide_eq_true_eq] at hB
  obtain ⟨⟨⟨⟨⟨⟨⟨⟨hsel, hn⟩, hmk⟩, hs⟩, hc⟩, hpre⟩, hqs⟩, hqn⟩, hmn⟩ := hB
  have hQ : ∀ c a a' w, NoPanic Q (.panic c) a' w → NoPanic Q (.panic c) a w := fun _ _ _ _ h => (h : False).elim
  have inv0 : HeadInv .any l.toArray n (Array.replicate l.toArray.size false) :=
    ⟨by simp, fun j oj _ hl => (by rw [getD_replicate_false] at hl; cases hl), fun t _ ht => getD_in (by simpa using ht) (getD_replicate_false _ _)⟩
  have inv1 := HeadInv.setAll (List.range m) _ inv0 hpre fun i hi => by have := List.mem_range.1 hi; omega
  refine wp_region_noPanic (wp_region_any hm ?_)
  have hdl : (l.drop n).length = l.toArray.size - n := by simp
  have hsz : l.toArray.size = (List.range m).length + ((qs.length + k) + (l.toArray.size - n)) := by rw [List.length_range]; omega
  have hfu : wpAny P .any l.toArray (NoPanic Q) ((List.range m).length + ((qs.length + k) + (l.toArray.size - n))) (Array.replicate l.toArray.size false) a w.drew := by
    refine wpAny_pre hsel hQ (List.range m) _ _ hpre ?_
    refine wpQuiet_mono' (fun a1 h3 => ?_) h1
    refine headW_sound (n := n) (S := S) (fun ls a' w' hL => ?_) (qs.length + k) _ a1 w.drew ?_ (L := fun ls a' w' => Region.seqB .any l.toArray (l.toArray.size - n) n ls = true ∧ Fin a' w')
    · have := wpAny_of_seq (P := P) (md := .any) (Q' := NoPanic Q) (l.drop n) n ls a' w' (fun j => by simp [List.getElem?_drop]) (by rw [hdl]; exact hL.1) (h2 a' w' hL.2)
      rwa [hdl] at this
    · exact headW_qs hsel hs hc hn hQ (fun ls a w hL => seqB_ready hL.1) hS qs _ a1 inv1 (fun i hi => setAll_mem _ _ i (List.mem_range.2 hi)) hqs (fun i hi => by simpa using List.all_eq_true.1 hqn i hi) h3
  rw [← hsz] at hfu
  exact hfu
/-- whichever comes up -/
theorem headW_all {n k : Nat} {L : Array Bool → Act → World → Prop} {rs : List Nat} {ls : Array Bool} {a : Act} {w : World} (hr : Region.ready md ops ls = rs) (hne : rs ≠ []) (hn : rs.all (fun i => decide (i < n)) = true)
    (h : ∀ i ∈ rs, wpOp P ops Q i (fun a' w' => S w' ∧ headW P md ops Q S n L k (ls.setIfInBounds i true) a' w') a w) : headW P md ops Q S n L (k + 1) ls a w :=
  ⟨fun h0 => hne (hr ▸ h0), fun i hi => ⟨by have := List.all_eq_true.1 hn i (hr ▸ hi); simpa using this, h i (hr ▸ hi)⟩⟩
/-- one operation, walked like a list of one -/
theorem wpOp_list {i : Nat} {o : Oper} {K : Act → World → Prop} {a : Act} {w : World} (ho : ops[i]? = some o) (h : ∀ Q' : Exit → Act → World → Prop, (∀ a w, K a w → Q' .normal a w) → wpList P ops Q' [o] a w) : wpOp P ops Q i K a w := by
  have h1 := h (fun e a w => match e with | .normal => K a w | _ => False) (fun _ _ h => h)
  unfold wpOp
  simp only [ho]
  simp only [wpList] at h1
  split
  · rename_i hw
    rw [if_pos hw] at h1
    rcases h1 with h1 | ⟨_, h1⟩
    · refine .inl ?_
      unfold Oper.wp at *
      generalize (execOp a.eval o).run P w = r at *
      cases r with
      | ok n w' =>
        cases n <;> simp only [Oper.upon] at h1 ⊢ <;>
          first
            | exact h1
            | exact Calls.mono h1 (fun e w'' he => by cases e <;> first | exact he | exact False.elim he | exact (let ⟨_, _, h⟩ := he; False.elim h))
            | exact Rows.mono h1 (fun _ _ he => he)
      | halt x w' => cases x <;> simp only [Oper.upon] at h1 ⊢
    · obtain ⟨_, _, h1⟩ := h1
      exact h1.elim
  · rename_i hw; rw [if_neg hw] at h1; exact h1
/-- the law, with what follows in the place of its predicate -/
theorem wp_head_tail' {id : Nat} {a : Act} {w : World} {l : List Oper} (m n k : Nat) (pre qs : List Nat) (hpre : List.range m = pre) (K : World → Prop) (hm : P.follows .mixedOrders = true) (hB : headWB l.toArray m n k qs = true) (hK : K w.drew)
    (h1 : wpQuiet P l.toArray (fun _ => True) (fun a1 => wpQuiet P l.toArray (fun w' => ∃ y : Wd K, w' = y.w) (fun a2 => headW P .any l.toArray (NoPanic Q) K n
        (fun ls a' w' => Region.seqB .any l.toArray (l.toArray.size - n) n ls = true ∧ wpList P l.toArray (NoPanic Q) (l.drop n) a' w') k (setAll qs (setAll pre (Array.replicate l.toArray.size false))) a2 w.drew) (pick l.toArray qs) a1) (pick l.toArray pre) a) :
    (Code.region id l.toArray true).wp P Q a w := by
  subst hpre
  have e : (fun w' => ∃ y : Wd K, w' = y.w) = K := by
    funext w'
    exact propext ⟨fun ⟨y, hy⟩ => hy ▸ y.h, fun h => ⟨⟨w', h⟩, rfl⟩⟩
  rw [e] at h1
  exact wp_head_tail m n k qs K (fun a' w' => wpList P l.toArray (NoPanic Q) (l.drop n) a' w') hm hB hK h1 (fun _ _ h => h)
theorem headW_mono {n : Nat} {L L' : Array Bool → Act → World → Prop} (hL : ∀ ls a w, L ls a w → L' ls a w) (k : Nat) :
    ∀ (ls : Array Bool) (a : Act) (w : World), headW P md ops Q S n L k ls a w → headW P md ops Q S n L' k ls a w := by
  induction k with
  | zero => exact hL
  | succ k ih => exact fun ls a w h => ⟨h.1, fun i hi => ⟨(h.2 i hi).1, wpOp_mono (fun a' w' h' => ⟨h'.1, ih _ a' w' h'.2⟩) (h.2 i hi).2⟩⟩
/-- the law, with a predicate between the loud operations and the tail -/
theorem wp_head_tail3 {id : Nat} {a : Act} {w : World} {l : List Oper} (m n k : Nat) (pre qs : List Nat) (hpre : List.range m = pre) (K : World → Prop) (Fin : Act → Act → World → Prop) (hm : P.follows .mixedOrders = true) (hB : headWB l.toArray m n k qs = true) (hK : K w.drew)
    (h1 : wpQuiet P l.toArray (fun _ => True) (fun a1 => wpQuiet P l.toArray (fun w' => ∃ y : Wd K, w' = y.w) (fun a2 => headW P .any l.toArray (NoPanic Q) K n
        (fun ls a' w' => Region.seqB .any l.toArray (l.toArray.size - n) n ls = true ∧ Fin a2 a' w') k (setAll qs (setAll pre (Array.replicate l.toArray.size false))) a2 w.drew ∧
        ∀ a' w', Fin a2 a' w' → wpList P l.toArray (NoPanic Q) (l.drop n) a' w') (pick l.toArray qs) a1) (pick l.toArray pre) a) :
    (Code.region id l.toArray true).wp P Q a w :=
  wp_head_tail' m n k pre qs hpre K hm hB hK (wpQuiet_mono' (fun _ h => wpQuiet_mono' (fun _ h' => headW_mono (fun _ _ _ hl => ⟨hl.1, h'.2 _ _ hl.2⟩) _ _ _ _ h'.1) h) h1)
end Go.MemS
/- The law SheetCertain, walked. -/
namespace Go.Mem
theorem Rd.take1 {w : World} {S : Nat → Prop} {A : Option Addr} {n m c j : Nat} {xs : List Value} (h : Rd w S 1 (.slice A m c) n xs) (hj : j ≤ n) : Rd w S 1 (.slice A j c) j (xs.take j) := by
  obtain ⟨A', c', hv, h1, h2, h3, h4, h5⟩ := h
  injection hv with e1 e2 e3
  subst e1 e2 e3
  refine ⟨A, c, rfl, by omega, h2, by rw [List.length_take, h3]; omega, h4, fun h0 => ?_⟩
  obtain ⟨b, o, hA, hS, hb, hc⟩ := h5 (by omega)
  refine ⟨b, o, hA, hS, hb, fun q u hq => hc q u ?_⟩
  have hql := (List.getElem?_eq_some_iff.1 hq).1
  rw [List.length_take] at hql
  rwa [List.getElem?_take_of_lt (by omega)] at hq
theorem Rd.drop1 {w : World} {S : Nat → Prop} {b o n c k : Nat} {xs : List Value} (h : Rd w S 1 (.slice (some ⟨b, o, none⟩) n c) n xs) (hk : k ≤ n) : Rd w S 1 (.slice (some ⟨b, o + k, none⟩) (n - k) (c - k)) (n - k) (xs.drop k) := by
  obtain ⟨A, c', hv, h1, h2, h3, h4, h5⟩ := h
  injection hv with e1 e2 e3
  subst e1 e3
  refine ⟨_, _, rfl, by omega, by omega, by rw [List.length_drop, h3]; omega, (fun h => by cases h), fun hn => ?_⟩
  obtain ⟨b', o', hA, hS, hb, hc⟩ := h5 (by omega)
  cases hA
  refine ⟨b, o + k, rfl, hS, hb, fun j u hj => ?_⟩
  rw [Nat.add_assoc]
  exact hc (k + j) u (by rw [← hj, List.getElem?_drop])
end Go.Mem
namespace Go.Proofs.YtjfhncnpmelopaaGreatDoor
open Go.RowKit Go.Mem Go.Sheet
theorem Own.sure12 {W w : World} {vx vy : Value} {nl n : Nat} {l : List Slot} {RS : List RQ} (h : Own W w vx vy nl n l RS) (ok : Okay l RS) :
    Calls Tryz.prog 41 #[vy] w fun e w' => ∃ v', e = .returned v' ∧ St w w' [row 3 1 v' (sureN RS).length ((natI (sureN RS)).map (Value.int .i64))] := by
  obtain ⟨rs', h1, h2⟩ := h.y
  subst h1
  have hn := h2.1.count (f := Req.cells) (size := 3) (fun _ => rfl) (by decide)
  exact refSure_any w vy n rs' h2 (by have := ok.nr; rw [List.length_map] at this; omega)
theorem Own.excludes {W w : World} {vx vy vs : Value} {nl n : Nat} {l : List Slot} {RS : List RQ} {s : List Nat} (h : Own W w vx vy nl n l RS) (ok : Okay l RS) (hs : Rd w (· < w.heap.size) 1 vs s.length ((natI s).map (Value.int .i64))) (hb : ∀ i ∈ s, i < RS.length) :
    Calls Tryz.prog 44 #[vx, vy, vs] w fun e w' => e = .returned (.bool (exclR l RS s)) ∧ Below w.heap.size w w' := by
  obtain ⟨rs', h1, h2⟩ := h.y
  subst h1
  have hn := h2.1.count (f := Req.cells) (size := 3) (fun _ => rfl) (by decide)
  rw [List.length_map] at hb
  exact refExcludes_any w vx vy vs nl n l rs' s h.x h2 hs ok (fun i hi => by rw [hn]; exact hb i hi)
theorem Own.known {W w : World} {vx vy vs : Value} {nl n : Nat} {l : List Slot} {RS : List RQ} {s : List Nat} (h : Own W w vx vy nl n l RS) (hs : Rd w (· < w.heap.size) 1 vs s.length ((natI s).map (Value.int .i64))) (hsub : s.Sublist (sureN RS)) :
    Calls Tryz.prog 43 #[vy, vs] w fun e w' => e = .returned (.bool true) ∧ ∃ q, w' = w.drewN q := by
  obtain ⟨rs', h1, h2⟩ := h.y
  subst h1
  have hn := h2.1.count (f := Req.cells) (size := 3) (fun _ => rfl) (by decide)
  refine known_yes w vy vs n rs' s h2 hs (fun i m hi => ?_) (fun i m m' hi hi' => ?_)
  · obtain ⟨x, hx, hg⟩ := mem_sureN.1 (hsub.subset (List.mem_of_getElem? hi))
    rw [List.getElem?_map] at hx
    cases hr : rs'[m]? with
    | none => rw [hr] at hx; cases hx
    | some y =>
      rw [hr] at hx
      refine ⟨by rw [hn]; exact (List.getElem?_eq_some_iff.1 hr).1, fun z hz => ?_⟩
      cases hz
      have := Option.some.inj hx
      subst this
      exact hg
  · have hp : s.Pairwise (· < ·) := (sureL_sorted (rs'.map Req.rq) 0).sublist hsub
    obtain ⟨h1, e1⟩ := List.getElem?_eq_some_iff.1 hi
    obtain ⟨h2, e2⟩ := List.getElem?_eq_some_iff.1 hi'
    have := List.pairwise_iff_getElem.1 hp i (i + 1) h1 h2 (by omega)
    rwa [e1, e2] at this
set_option maxRecDepth 100000 in
set_option maxHeartbeats 0 in
theorem sheetCertain_any (W : World) (vl : Value) (nl : Nat) (l : List Slot) (vr : Value) (n : Nat) (rs : List Req) (z : Int) (vq vs : Value) (p : PR) (hl : Rd W (· < W.heap.size) 3 vl nl (l.flatMap Slot.cells)) (hrl : nl * 24 ≤ 140737488351232)
    (h : RdReqs W (· < W.heap.size) vr n rs) (hrr : n * 48 ≤ 140737488351232) (hrw : ∀ r ∈ rs, r.wn * 16 ≤ 140737488351232) (hp : RdPrices W vq vs p) (hz : (Lit.int .i64 z).wf = true) :
    Calls Tryz.prog 8 #[vl, vr, .agg #[.int .i64 z, vq, vs]] W fun e w' => e = .returned (.bool true) ∧ Below W.heap.size W w' := by
  clear hz
  have hb0 := (Below.refl W.heap.size W).alloc (Nat.le_refl _) (.cells #[.int .i64 z, vq, vs] 76)
  have HB0 := Lib.hid hb0
  obtain ⟨Ar, cr, rfl, -, -, -⟩ := h.1.open_
  obtain ⟨Aq, cq, rfl, -, -, -⟩ := hp.1.open_
  obtain ⟨As, cs, rfl, -, -, -⟩ := hp.2.open_
  have k0 : (W.alloc (.cells #[.int .i64 z, .slice Aq p.rq.length cq, .slice As p.sl.length cs] 76)).cell? ⟨W.heap.size, 0, none⟩ = some (.int .i64 z) := by simp
  have k1 : (W.alloc (.cells #[.int .i64 z, .slice Aq p.rq.length cq, .slice As p.sl.length cs] 76)).cell? ⟨W.heap.size, 1, none⟩ = some (.slice Aq p.rq.length cq) := by simp
  have k2 : (W.alloc (.cells #[.int .i64 z, .slice Aq p.rq.length cq, .slice As p.sl.length cs] 76)).cell? ⟨W.heap.size, 2, none⟩ = some (.slice As p.sl.length cs) := by simp
  have HL := Lib.hid (hl.later hb0)
  have HR := Lib.hid (reqs_later h hb0)
  have HP := Lib.hid (hp.later hb0)
  have HRW := Lib.hid hrw
  generalize HRS : rs.map Req.rq = RS
  have HRS := Lib.hid HRS
  generalize p.rq.length = nq at *
  generalize p.sl.length = ns at *
  clear hl h hp hrw hb0
  go_enter Tryz.func8, Tryz.ntmps8
  go_wp2_with fail
  generalize W.alloc (.cells #[.int .i64 z, .slice Aq nq cq, .slice As ns cs] 76) = W0 at *
  have hg0 := World.block_lt_of_cell? _ _ k0
  have HBW : Hid (∀ w', Below W0.heap.size W0 w' → Below W.heap.size W w') := fun w' hb => HB0.out.trans (hb.mono HB0.out.size)
  generalize hWs : W.heap.size = g0 at hg0 k0 k1 k2 ⊢
  have HWS := Lib.hid hWs
  have HK : Hid (∀ w', Below W0.heap.size W0 w' → w'.cell? ⟨g0, 0, none⟩ = some (.int .i64 z) ∧ w'.cell? ⟨g0, 1, none⟩ = some (.slice Aq nq cq) ∧ w'.cell? ⟨g0, 2, none⟩ = some (.slice As ns cs)) :=
    fun w' hb => ⟨(hb.cell (p := ⟨g0, 0, none⟩) hg0).trans k0, (hb.cell (p := ⟨g0, 1, none⟩) hg0).trans k1, (hb.cell (p := ⟨g0, 2, none⟩) hg0).trans k2⟩
  have HB1 : Hid (∀ w, Below W0.heap.size W0 w → Calls Tryz.prog 16 #[vl, .slice Ar n cr] w fun e w' => e = .returned (.tuple #[.int .i64 (best l RS).1, .int .i64 (best l RS).2]) ∧ Below w.heap.size w w') :=
    fun w hb => by have := best_any w _ _ nl n l rs (HL.out.later hb) (reqs_later HR.out hb); rw [HRS.out] at this; exact this
  have HA1 : Hid (∀ w, Below W0.heap.size W0 w → Calls Tryz.prog 17 #[vl, .slice Ar n cr] w (RetInts w (assign l RS))) :=
    fun w hb => by have := assign_any w _ _ nl n l rs (HL.out.later hb) (reqs_later HR.out hb); rw [HRS.out] at this; exact this
  have HF1 : Hid (∀ w, Below W0.heap.size W0 w → Calls Tryz.prog 18 #[vl, .slice Ar n cr] w (RetInts w (firstF l RS))) :=
    fun w hb => by have := first_run w _ _ nl n l rs (HL.out.later hb) (reqs_later HR.out hb); rw [HRS.out] at this; exact this
  have HP1 : Hid (∀ w, Below W0.heap.size W0 w → Calls Tryz.prog 38 #[vl, .slice Ar n cr] w (RetPrices w (proofF l RS))) :=
    fun w hb => by have := proof_any w vl (.slice Ar n cr) nl n l rs (HL.out.later hb) (reqs_later HR.out hb); rw [HRS.out] at this; exact this
  have HX1 : Hid (∀ w, Below W0.heap.size W0 w → Calls Tryz.prog 42 #[vl, .slice Ar n cr] w (RetInts w (excluded l RS))) :=
    fun w hb => by have := excluded_run w vl (.slice Ar n cr) nl n l rs (HL.out.later hb) (reqs_later HR.out hb); rw [HRS.out] at this; exact this
  have HCP : Hid (∀ w, Below W0.heap.size W0 w → Calls Tryz.prog 39 #[vl, .slice Ar n cr, .int .i64 z, .agg #[.slice Aq nq cq, .slice As ns cs]] w (RetInt w (checkProof l RS z p))) :=
    fun w hb => by have := checkProof_any w vl (.slice Aq nq cq) (.slice As ns cs) nl n cr Ar z l rs p (HL.out.later hb) (reqs_later HR.out hb) (HP.out.later hb).1 (HP.out.later hb).2; rw [HRS.out] at this; exact this
  clear k0 k1 k2 hg0 hWs HB0
  refine (ownSlots_any _ _ nl l HL.out hrl).mono ?_
  rintro e w1 ⟨v1, rfl, S1⟩
  have HS1 := Lib.hid S1
  clear S1
  go_wp2_with fail
  refine (ownRequests_any w1 _ n rs (reqs_later HR.out HS1.out.bel) hrr HRW.out).mono ?_
  rintro e w2 ⟨v2, rs', rfl, he, hnm, S2⟩
  have HO : Hid (Own W0 w2 v1 v2 nl n l RS) := ⟨HS1.out.bel.trans (S2.bel.mono HS1.out.bel.size), (HS1.out.row_rd (i := 0) rfl).now.later S2.bel, rs', he.trans HRS.out, own_reqs S2 hnm⟩
  obtain ⟨A2, c2, rfl, -, -, -⟩ := (S2.row_rd (i := 0) rfl).open_
  clear HS1 he hnm S2 HL HR HRW HRS HP
  go_wp2_with fail
  refine (awake_any w2).mono ?_
  rintro e w3 ⟨rfl, hb3⟩
  have HO3 := Lib.hid (HO.out.later hb3)
  clear HO hb3
  go_wp2_with fail
  refine HO3.out.few20.mono ?_
  rintro e w4 ⟨⟨b, rfl, hE⟩, hb4⟩
  have HO4 := Lib.hid (HO3.out.later hb4)
  clear HO3 hb4
  cases b with
  | false =>
    go_wp2_with fail
    refine (awake_any w4).mono ?_
    rintro e w5 ⟨rfl, hb5⟩
    have hbW := HBW.out _ (HO4.out.bel.trans (hb5.mono HO4.out.bel.size))
    go_wp2
    go_ret
    exact ⟨rfl, hbW⟩
  | true =>
    have HC0 := Lib.hid (hE rfl)
    clear hE
    have HOK := Lib.hid (okay_of HC0.out)
    have HCERT := Lib.hid (fun h12 => certain_cases HC0.out h12)
    have HSUB : Hid (∀ s : List Nat, s.Sublist (sureN RS) → ∀ i ∈ s, i < RS.length) := fun s hs i hi => by
      obtain ⟨x, hx, _⟩ := mem_sureN.1 (hs.subset hi)
      exact (List.getElem?_eq_some_iff.1 hx).1
    go_wp2_with fail
    refine (HO4.out.sure12 HOK.out).mono ?_
    rintro e w5 ⟨v5, rfl, S5⟩
    have hm9 := (S5.row_rd (i := 0) rfl).le
    obtain ⟨A5, c5, rfl, -, -, -⟩ := (S5.row_rd (i := 0) rfl).open_
    have HO5 := Lib.hid (HO4.out.later S5.bel)
    clear S5 HO4
    generalize hmm : (sureN RS).length = m at *
    have HMM := Lib.hid hmm
    clear hmm
    by_cases h12 : 12 < m
    · have t12 : decide (12 < (m : Int)) = true := by simp; omega
      clear h12
      go_wp2_with fail
      refine (awake_any w5).mono ?_
      rintro e w6 ⟨rfl, hb6⟩
      have hbW := HBW.out _ (HO5.out.bel.trans (hb6.mono HO5.out.bel.size))
      go_wp2
      go_ret
      exact ⟨rfl, hbW⟩
    have t12 : decide (12 < (m : Int)) = false := by simp; omega
    have hm12 : m ≤ 12 := by omega
    have hcert := HCERT.out hm12
    clear h12 HCERT hm9
    rcases hcert with ⟨v, a, c, e1, e2, e3, e4, e5, e6, e7, e8, e9⟩ | ⟨e1, e2, e3, e4, s, e5, hs0, hs1, hs2, hs3⟩
    · as_aux_lemma =>
      rw [e1] at HB1
      rw [e2] at HA1
      rw [e3] at HF1
      rw [e6] at HX1
      have HCA : Hid (∀ w va na a', Own W0 w v1 (.slice A2 n c2) nl n l RS → Rd w (· < w.heap.size) 1 va na (a'.map (Value.int .i64)) → checkAssignment l RS a' = (v, 0) → Calls Tryz.prog 24 #[v1, .slice A2 n c2, va] w fun e w' => e = .returned (.tuple #[.int .i64 v, .int .i64 0]) ∧ Below w.heap.size w w') :=
        fun w va na a' h ha h1 => by have := h.assignment ha HC0.out; rw [h1] at this; exact this
      have HRC : Hid (∀ w vq vs p, Own W0 w v1 (.slice A2 n c2) nl n l RS → RdPrices w vq vs p → checkProof l RS v p = 0 → Calls Tryz.prog 40 #[v1, .slice A2 n c2, .int .i64 v, .agg #[vq, vs]] w fun e w' => e = .returned (.int .i64 0) ∧ Below w.heap.size w w') :=
        fun w vq vs p h hp h1 => by have := h.checkProof HC0.out v hp; rw [h1] at this; exact this
      have HE7 := Lib.hid e7
      have HE8 := Lib.hid e8
      have HE9 := Lib.hid (e9 z p)
      have HE5 := Lib.hid e5
      generalize proofF l RS = PF at *
      obtain ⟨⟨rq1, sl1⟩, pe⟩ := PF
      dsimp only at *
      subst e4
      generalize checkProof l RS z p = CK at *
      clear e1 e2 e3 e5 e6 e7 e8 e9 HOK HSUB HC0
      go_wp2_with fail
      clear t12
      refine (HB1.out w5 HO5.out.bel).mono ?_
      rintro e w6 ⟨rfl, hb6⟩
      have HO6 := Lib.hid (HO5.out.later hb6)
      clear HO5 hb6 HB1
      go_wp2_with fail
      refine (HA1.out w6 HO6.out.bel).mono ?_
      rintro e w7 ⟨va, rfl, S7⟩
      have HO7 := Lib.hid (HO6.out.later S7.bel)
      have HV7 := Lib.hid (S7.row_rd (i := 0) rfl).now
      clear HO6 S7 HA1
      go_wp2_with fail
      refine (HF1.out w7 HO7.out.bel).mono ?_
      rintro e w8 ⟨vf, rfl, S8⟩
      have HO8 := Lib.hid (HO7.out.later S8.bel)
      have HV8 := Lib.hid (HV7.out.later S8.bel)
      have HG8 := Lib.hid (S8.row_rd (i := 0) rfl).now
      clear HO7 HV7 S8 HF1
      go_wp2_with fail
      refine (HP1.out w8 HO8.out.bel).mono ?_
      rintro e w9 ⟨vq1, vs1, rfl, hb9, hr91, hr92⟩
      have HO9 := Lib.hid (HO8.out.later hb9)
      have HV9 := Lib.hid (HV8.out.later hb9)
      have HG9 := Lib.hid (HG8.out.later hb9)
      dsimp only at *
      have HRP9 : Hid (RdPrices w9 vq1 vs1 ⟨rq1, sl1⟩) := ⟨hr91, hr92⟩
      obtain ⟨Aq1, cq1, rfl, -, -, -⟩ := hr91.open_
      obtain ⟨As1, cs1, rfl, -, -, -⟩ := hr92.open_
      clear HO8 HV8 HG8 hb9 hr91 hr92 HP1
      have hba := (Below.refl w9.heap.size w9).alloc (Nat.le_refl _) (.cells #[.slice Aq1 rq1.length cq1, .slice As1 sl1.length cs1] 74)
      have HO10 := Lib.hid (HO9.out.later hba)
      have HV10 := Lib.hid (HV9.out.later hba)
      have HG10 := Lib.hid (HG9.out.later hba)
      have HRP10 := Lib.hid (HRP9.out.later hba)
      have j0 : (w9.alloc (.cells #[.slice Aq1 rq1.length cq1, .slice As1 sl1.length cs1] 74)).cell? ⟨w9.heap.size, 0, none⟩ = some (.slice Aq1 rq1.length cq1) := by simp
      have j1 : (w9.alloc (.cells #[.slice Aq1 rq1.length cq1, .slice As1 sl1.length cs1] 74)).cell? ⟨w9.heap.size, 1, none⟩ = some (.slice As1 sl1.length cs1) := by simp
      clear HO9 HV9 HG9 HRP9 hba
      go_wp2_with fail
      generalize w9.alloc (.cells #[.slice Aq1 rq1.length cq1, .slice As1 sl1.length cs1] 74) = w10 at *
      have hg1 := World.block_lt_of_cell? _ _ j0
      refine (HX1.out w10 HO10.out.bel).mono ?_
      rintro e w11 ⟨vx, rfl, S11⟩
      have hb11 := S11.bel
      have i0 := (hb11.cell (p := ⟨w9.heap.size, 0, none⟩) hg1).trans j0
      have i1 := (hb11.cell (p := ⟨w9.heap.size, 1, none⟩) hg1).trans j1
      have HO11 := Lib.hid (HO10.out.later hb11)
      have HV11 := Lib.hid (HV10.out.later hb11)
      have HG11 := Lib.hid (HG10.out.later hb11)
      have HRP11 := Lib.hid (HRP10.out.later hb11)
      clear HO10 HV10 HG10 HRP10 hb11 S11 j0 j1 hg1 HX1
      generalize w9.heap.size = g9 at *
      go_wp2_with fail
      refine (HRC.out w11 _ _ _ HO11.out HRP11.out HE5.out).mono ?_
      rintro e w12 ⟨rfl, hb12⟩
      have HO12 := Lib.hid (HO11.out.later hb12)
      have HV12 := Lib.hid (HV11.out.later hb12)
      have HG12 := Lib.hid (HG11.out.later hb12)
      clear HO11 HV11 HG11 HRP11 hb12 i0 i1 HRC HE5
      go_wp2_with fail
      refine (HCA.out w12 _ _ _ HO12.out HV12.out HE7.out).mono ?_
      rintro e w13 ⟨rfl, hb13⟩
      have HO13 := Lib.hid (HO12.out.later hb13)
      have HG13 := Lib.hid (HG12.out.later hb13)
      clear HO12 HV12 HG12 hb13 HE7
      go_wp2_with fail
      refine (HCA.out w13 _ _ _ HO13.out HG13.out HE8.out).mono ?_
      rintro e w14 ⟨rfl, hb14⟩
      have HO14 := Lib.hid (HO13.out.later hb14)
      obtain ⟨k0, k1, k2⟩ := HK.out _ HO14.out.bel
      have tv : (v != v) = false := by simp
      clear HO13 HG13 hb14 HE8 HCA
      go_wp2_with fail
      clear tv k0 k1 k2
      refine (HCP.out w14 HO14.out.bel).mono ?_
      rintro e w15 ⟨rfl, hb15⟩
      have HB15 := Lib.hid (HO14.out.bel.trans (hb15.mono HO14.out.bel.size))
      have hbW := HBW.out _ HB15.out
      clear HO14 hb15 HCP
      by_cases hck : CK = 0
      · have tck : (CK != 0) = false := by simpa using hck
        have hvz := HE9.out hck
        have tvz : decide (v ≤ z) = true := by simpa using hvz
        obtain ⟨k0, k1, k2⟩ := HK.out _ HB15.out
        clear hck hvz HE9
        go_wp2
        go_ret
        exact ⟨rfl, hbW⟩
      · have tck : (CK != 0) = true := by simpa using hck
        clear hck HE9
        go_wp2
        go_ret
        exact ⟨rfl, hbW⟩
    · as_aux_lemma =>
      rw [e1] at HB1
      rw [e2] at HA1
      rw [e3] at HF1
      rw [e4] at HP1
      rw [e5] at HX1
      have HKN := Lib.hid (fun w vs (h : Own W0 w v1 (.slice A2 n c2) nl n l RS) (hs : Rd w (· < w.heap.size) 1 vs s.length ((natI s).map (Value.int .i64))) => h.known hs hs1)
      have HEXC := Lib.hid (fun w vs t (h : Own W0 w v1 (.slice A2 n c2) nl n l RS) (hs : Rd w (· < w.heap.size) 1 vs t.length ((natI t).map (Value.int .i64))) (ht : t.Sublist (sureN RS)) => h.excludes HOK.out hs (HSUB.out t ht))
      have HEX1 := Lib.hid (fun w vs (h : Own W0 w v1 (.slice A2 n c2) nl n l RS) (hs : Rd w (· < w.heap.size) 1 vs s.length ((natI s).map (Value.int .i64))) => by have := h.excludes HOK.out hs (HSUB.out s hs1); rw [hs2] at this; exact this)
      have HEX2 := Lib.hid (fun w vs i (h : Own W0 w v1 (.slice A2 n c2) nl n l RS) (hi : i < s.length) (hs : Rd w (· < w.heap.size) 1 vs (s.take i ++ s.drop (i + 1)).length ((natI (s.take i ++ s.drop (i + 1))).map (Value.int .i64))) => by
        have := h.excludes HOK.out hs (HSUB.out _ ((drop_sub i).trans hs1)); rw [hs3 _ ((drop_sub i).trans hs1) (drop_len hi)] at this; exact this)
      have hsl : 0 < s.length := List.length_pos_iff.2 hs0
      have hsn12 : s.length ≤ 12 := by have := hs1.length_le; have := HMM.out; omega
      generalize HSL : s.length = sn at *
      have HSL := Lib.hid HSL
      have HNS : Hid ((natI s).length = sn) := by show _ = _; unfold natI; rw [List.length_map]; exact HSL.out
      clear e1 e2 e3 e4 e5 hs0 hs1 hs2 hs3 HOK HSUB HC0 HCP HEXC
      go_wp2_with fail
      clear t12
      refine (HB1.out w5 HO5.out.bel).mono ?_
      rintro e w6 ⟨rfl, hb6⟩
      have HO6 := Lib.hid (HO5.out.later hb6)
      clear HO5 hb6 HB1
      go_wp2_with fail
      refine (HA1.out w6 HO6.out.bel).mono ?_
      rintro e w7 ⟨va, rfl, S7⟩
      have HO7 := Lib.hid (HO6.out.later S7.bel)
      clear HO6 S7 HA1
      go_wp2_with fail
      refine (HF1.out w7 HO7.out.bel).mono ?_
      rintro e w8 ⟨vf, rfl, S8⟩
      have HO8 := Lib.hid (HO7.out.later S8.bel)
      clear HO7 S8 HF1
      go_wp2_with fail
      refine (HP1.out w8 HO8.out.bel).mono ?_
      rintro e w9 ⟨vq1, vs1, rfl, hb9, hr91, hr92⟩
      have HO9 := Lib.hid (HO8.out.later hb9)
      obtain ⟨Aq1, cq1, rfl, -, -, -⟩ := hr91.open_
      obtain ⟨As1, cs1, rfl, -, -, -⟩ := hr92.open_
      simp only [List.length_nil] at *
      clear HO8 hb9 hr91 hr92 HP1
      have hba := (Below.refl w9.heap.size w9).alloc (Nat.le_refl _) (.cells #[.slice Aq1 0 cq1, .slice As1 0 cs1] 74)
      have HO10 := Lib.hid (HO9.out.later hba)
      clear HO9 hba
      go_wp2_with fail
      generalize w9.alloc (.cells #[.slice Aq1 0 cq1, .slice As1 0 cs1] 74) = w10 at *
      refine (HX1.out w10 HO10.out.bel).mono ?_
      rintro e w11 ⟨vx, rfl, S11⟩
      have HO11 := Lib.hid (HO10.out.later S11.bel)
      have hvx := (S11.row_rd (i := 0) rfl).now
      dsimp only at hvx
      rw [HNS.out] at hvx
      obtain ⟨Ax, cx, rfl, hcx, hcm, hvx⟩ := hvx.open_
      have HVX := Lib.hid hvx
      have hsn9 := hvx.le
      clear HO10 S11 HX1 hvx
      have ts0 : ((sn : Int) == 0) = false := by simp; omega
      go_wp2_with fail
      refine (HKN.out w11 _ HO11.out HVX.out).mono ?_
      rintro e w12 ⟨rfl, ⟨q12, rfl⟩⟩
      have hd12 : Below w11.heap.size w11 (w11.drewN q12) := below_drewN (Below.refl _ _) q12
      have HO12 := Lib.hid (HO11.out.later hd12)
      have HV12 := Lib.hid (HVX.out.later hd12)
      clear HO11 HVX hd12 HKN
      generalize w11.drewN q12 = w12 at *
      go_wp2_with fail
      refine (HEX1.out w12 _ HO12.out HV12.out).mono ?_
      rintro e w13 ⟨rfl, hb13⟩
      have HO13 := Lib.hid (HO12.out.later hb13)
      have HV13 := Lib.hid (HV12.out.later hb13)
      clear HO12 HV12 hb13 HEX1 ts0
      go_wp2_with fail
      obtain ⟨bx, ox, rfl, -, -, -⟩ := HV13.out.addr hsl
      have hbW0 := HBW.out _ HO13.out.bel
      have HBW0 := Lib.hid hbW0
      clear hbW0
      go_loopw [19] (fun i w' => ∃ (k : Nat), k ≤ sn ∧ i = .int .i64 k ∧ Below w13.heap.size w13 w') (fun i _ => sn - (intOf i).toNat)
      case atStart => exact ⟨0, Nat.zero_le _, rfl, Below.refl _ _⟩
      case round =>
        obtain ⟨k, hk, rfl, hbk⟩ := hrel
        by_cases hlt : k < sn
        · have HOK := Lib.hid (HO13.out.later hbk)
          have hVK := HV13.out.later hbk
          have HTK := Lib.hid (hVK.take1 (j := k) (by omega))
          have HON : Hid (∀ u ∈ (natI s).map (Value.int .i64), u.oneCell' = true) := fun u hu => by obtain ⟨y, _, rfl⟩ := List.mem_map.1 hu; rfl
          have HLE : Hid ((s.take k ++ s.drop (k + 1)).length = 0 + k + (sn - (k + 1))) := by
            show _ = _
            rw [List.length_append, List.length_take, List.length_drop, HSL.out]; omega
          have HXS : Hid (([] ++ ((natI s).map (Value.int .i64)).take k) ++ ((natI s).map (Value.int .i64)).drop (k + 1) = (natI (s.take k ++ s.drop (k + 1))).map (Value.int .i64)) := by
            show _ = _
            unfold natI
            rw [List.nil_append, List.map_append, List.map_append, List.map_take, List.map_take, List.map_drop, List.map_drop]
          have hVV : (cx = k + 1 ∧ Hid (Rd wr (· < wr.heap.size) 1 (.slice (some ⟨bx, ox, none⟩) 0 0) (sn - (k + 1)) (((natI s).map (Value.int .i64)).drop (k + 1)))) ∨
              (k + 1 < cx ∧ Hid (Rd wr (· < wr.heap.size) 1 (.slice (some ⟨bx, ox + (k + 1), none⟩) (sn - (k + 1)) (cx - (k + 1))) (sn - (k + 1)) (((natI s).map (Value.int .i64)).drop (k + 1)))) := by
            by_cases hcap : cx = k + 1
            · left
              have hnk : sn = k + 1 := by omega
              refine ⟨hcap, ?_⟩
              show Rd _ _ _ _ _ _
              have hd : ((natI s).map (Value.int .i64)).drop (k + 1) = [] := List.drop_of_length_le (by rw [List.length_map, HNS.out]; omega)
              rw [hd, hnk, Nat.sub_self]
              exact ⟨_, 0, rfl, Nat.le_refl _, Nat.zero_le _, rfl, (fun h => by cases h), fun h => absurd h (by decide)⟩
            · right
              exact ⟨by omega, hVK.drop1 (k := k + 1) (by omega)⟩
          clear hVK
          have HBK := Lib.hid hbk
          clear hbk
          rcases hVV with ⟨rfl, hV⟩ | ⟨hc1, hV⟩
          all_goals
            go_wp2_with fail
            refine Go.MemS.wp_head_tail' 0 12 3 [] [0, 1, 3, 4, 5, 7, 8, 9, 10] rfl (fun w' => Below wr.heap.size wr w') (by kernel_rfl) (by kernel_rfl) (Below.refl _ _).drew ?_
            simp only [Go.MemS.pick, List.filterMap_cons, List.filterMap_nil, List.getElem?_toArray, List.getElem?_cons_succ, List.getElem?_cons_zero]
            generalize hK : (fun w' => Below wr.heap.size wr w') = K
            have hKd : ∀ w' L, St wr w' L → K w' := by subst hK; exact fun w' L h => h.bel
            have hne : Nonempty (Wd K) := ⟨⟨wr, hKd _ [] (St.refl _)⟩⟩
            clear hK
            refine wpQuiet_nil ?_
            change wpQuiet _ _ _ _ (_ :: _ :: _ :: _ :: _ :: _ :: _ :: _ :: _ :: []) _
            repeat (go_big_quiet_step ((fail)))
            refine wpQuiet_nil ?_
            clear hne
            have S3 := (St.refl wr).drew
            refine Go.MemS.headW_all (rs := [2]) (by kernel_rfl) (by decide) (by decide) (List.forall_mem_cons.2 ⟨?_, List.forall_mem_nil _⟩)
            refine Go.MemS.wpOp_list (o := _) rfl ?_
            intro Q' hQ'
            go_wp2_with fail
            have U1 := S3.row_new (e := 3) (size := 1) (n := 0) #[] (by unfold maxLen; omega) rfl
            simp only [List.nil_append] at U1
            refine ⟨hKd _ _ U1, ?_⟩
            refine Go.MemS.headW_all (rs := [6]) (by kernel_rfl) (by decide) (by decide) (List.forall_mem_cons.2 ⟨?_, List.forall_mem_nil _⟩)
            refine Go.MemS.wpOp_list (o := _) rfl ?_
            intro Q' hQ'
            refine wpList_append_st eltI rfl _ _ rfl rfl U1 (k := 0) rfl rfl (HTK.out.later U1.bel) (fun u hu => HON.out u (List.mem_of_mem_take hu)) (by omega) (by omega) ?_
            intro va0 wa0 U2 _
            go_wp2_with fail
            simp only [List.set_cons_zero] at U2
            refine ⟨hKd _ _ U2, ?_⟩
            refine Go.MemS.headW_all (rs := [11]) (by kernel_rfl) (by decide) (by decide) (List.forall_mem_cons.2 ⟨?_, List.forall_mem_nil _⟩)
            refine Go.MemS.wpOp_list (o := _) rfl ?_
            intro Q' hQ'
            refine wpList_append_st eltI rfl _ _ rfl rfl U2 (k := 0) rfl rfl (hV.out.later U2.bel) (fun u hu => HON.out u (List.mem_of_mem_drop hu)) (by omega) (by omega) ?_
            intro va1 wa1 U3 _
            go_wp2_with fail
            simp only [List.set_cons_zero] at U3
            refine ⟨hKd _ _ U3, ⟨by kernel_rfl, ?_⟩⟩
            have hvr := (U3.row_rd (i := 0) rfl).now
            rw [← HLE.out, HXS.out] at hvr
            simp only [List.drop_succ_cons, List.drop_zero]
            have HC := Lib.hid (HEX2.out _ _ k (HOK.out.later U3.bel) hlt hvr)
            have HU3 := Lib.hid (HBK.out.trans (U3.bel.mono HBK.out.size))
            clear S3 U1 U2 U3 hvr hKd
            go_wp2_with fail
            refine HC.out.mono ?_
            rintro e wz ⟨rfl, hbz⟩
            have hbzz := HU3.out.trans (hbz.mono HU3.out.size)
            clear HC hbz
            go_wp2_with fail
            refine NoPanic.normal ?_
            go_wp2
            go_roundw
            case rel => exact ⟨k + 1, by omega, by go_num, hbzz⟩
            case measure => simp [intOf]; omega
        · obtain rfl : k = sn := by omega
          have hbW := HBW.out _ (HO13.out.bel.trans (hbk.mono HO13.out.bel.size))
          have tkk : decide ((k : Int) < (k : Int)) = false := by simp
          go_wp2
          go_ret
          exact ⟨rfl, hbW⟩
end Go.Proofs.YtjfhncnpmelopaaGreatDoor
