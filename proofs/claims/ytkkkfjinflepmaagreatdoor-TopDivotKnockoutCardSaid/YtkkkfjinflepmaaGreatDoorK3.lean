/- TopDivotKnockout, plain: a bracket in which the better one wins. -/
import Derived.Test.YtkkkfjinflepmaaGreatDoorB24
set_option linter.unusedVariables false
set_option linter.unusedSimpArgs false
set_option linter.unusedSectionVars false
set_option linter.constructorNameAsVariable false
namespace Go.Proofs.YtkkkfjinflepmaaGreatDoor
open Go.RowKit Go.Mem Go.Sheet Go.Adj
def upK (pl : Nat → Nat) (a b : Nat) : Int := if pl a < pl b then 1 else -1
theorem loseK (pl : Nat → Nat) (a b : Nat) : loseF (upK pl) a b = if pl a < pl b then b else a := by
  unfold loseF upK
  by_cases h : pl a < pl b <;> simp [h]
theorem pairK {pl : Nat → Nat} {x y : Option Nat} {p : Nat} (hd : ∀ a b, x = some a → y = some b → pl a ≠ pl b) :
    pairF (upK pl) none x y = some p ↔ (x = some p ∧ ∀ b, y = some b → pl p ≤ pl b) ∨ (y = some p ∧ ∀ a, x = some a → pl p ≤ pl a) := by
  cases x with
  | none => cases y <;> simp [pairF]
  | some a =>
    cases y with
    | none => simp [pairF]
    | some b =>
      have hab := hd a b rfl rfl
      have hne : b ≠ a := fun e => hab (by rw [e])
      simp only [pairF, loseK, reduceCtorEq, if_false, Option.some.injEq]
      by_cases h : pl a < pl b
      · rw [if_pos h, if_neg hne]
        constructor
        · rintro e; cases e; exact .inl ⟨rfl, fun c hc => by cases hc; omega⟩
        · rintro (⟨e, _⟩ | ⟨e, h2⟩)
          · rw [e]
          · have := h2 a rfl; subst e; omega
      · rw [if_neg h, if_pos rfl]
        constructor
        · rintro e; cases e; exact .inr ⟨rfl, fun c hc => by cases hc; omega⟩
        · rintro (⟨e, h2⟩ | ⟨e, _⟩)
          · have := h2 b rfl; subst e; omega
          · rw [e]
structure PlOk (pl : Nat → Nat) (S : Nat → Option Nat) : Prop where
  inj : ∀ i j p, S i = some p → S j = some p → i = j
  pli : ∀ i j p q, S i = some p → S j = some q → pl p = pl q → p = q
theorem half_pow (i r : Nat) : i / 2 ^ (r + 1) = i / 2 ^ r / 2 := by rw [Nat.pow_succ, Nat.div_div_eq_div_mul]
theorem plOk_ne {pl : Nat → Nat} {S : Nat → Option Nat} (h : PlOk pl S) (r j : Nat) : ∀ a b, rndF (upK pl) none S r (2 * j) = some a → rndF (upK pl) none S r (2 * j + 1) = some b → pl a ≠ pl b := fun a b ha hb e => by
  obtain ⟨i1, h1⟩ := rndF_from r _ a ha
  obtain ⟨i2, h2⟩ := rndF_from r _ b hb
  have := h.pli i1 i2 a b h1 h2 e
  subst this
  have := rndF_inj (up := upK pl) (gone := none) h.inj r _ _ a ha hb
  omega
theorem rndK_succ (pl : Nat → Nat) (S : Nat → Option Nat) (r j : Nat) : rndF (upK pl) none S (r + 1) j = pairF (upK pl) none (rndF (upK pl) none S r (2 * j)) (rndF (upK pl) none S r (2 * j + 1)) := by
  show pairF (upK pl) (if r = 0 then none else none) _ _ = _
  rw [ite_self]
/-- the winner of a part of the bracket is the best one in it -/
theorem win_iff {pl : Nat → Nat} {S : Nat → Option Nat} (h : PlOk pl S) : ∀ r j p, rndF (upK pl) none S r j = some p ↔ (∃ i, i / 2 ^ r = j ∧ S i = some p) ∧ ∀ i q, i / 2 ^ r = j → S i = some q → pl p ≤ pl q
  | 0, j, p => by
    show S j = some p ↔ _
    simp only [Nat.pow_zero, Nat.div_one]
    constructor
    · intro e
      exact ⟨⟨j, rfl, e⟩, fun i q hi hq => by subst hi; rw [e] at hq; cases hq; omega⟩
    · rintro ⟨⟨i, rfl, e⟩, _⟩; exact e
  | r + 1, j, p => by
    have ih := win_iff h r
    rw [rndK_succ, pairK (plOk_ne h r j)]
    have hleft : ∀ i q, S i = some q → ∃ b, rndF (upK pl) none S r (i / 2 ^ r) = some b ∧ pl b ≤ pl q := fun i q hq => by
      obtain ⟨b, hb⟩ := rnd_left (up := upK pl) (gone := none) hq (by simp) r
      exact ⟨b, hb, ((ih _ b).1 hb).2 i q rfl hq⟩
    constructor
    · rintro (⟨h1, h2⟩ | ⟨h1, h2⟩)
      · obtain ⟨⟨i, hi, hs⟩, hm⟩ := (ih _ p).1 h1
        refine ⟨⟨i, by rw [half_pow, hi]; omega, hs⟩, fun i' q hi' hq => ?_⟩
        rw [half_pow] at hi'
        have hc : i' / 2 ^ r = 2 * j ∨ i' / 2 ^ r = 2 * j + 1 := by omega
        rcases hc with hc | hc
        · exact hm i' q hc hq
        · obtain ⟨b, hb, hbq⟩ := hleft i' q hq
          rw [hc] at hb
          have := h2 b hb
          omega
      · obtain ⟨⟨i, hi, hs⟩, hm⟩ := (ih _ p).1 h1
        refine ⟨⟨i, by rw [half_pow, hi]; omega, hs⟩, fun i' q hi' hq => ?_⟩
        rw [half_pow] at hi'
        have hc : i' / 2 ^ r = 2 * j ∨ i' / 2 ^ r = 2 * j + 1 := by omega
        rcases hc with hc | hc
        · obtain ⟨b, hb, hbq⟩ := hleft i' q hq
          rw [hc] at hb
          have := h2 b hb
          omega
        · exact hm i' q hc hq
    · rintro ⟨⟨i, hi, hs⟩, hm⟩
      rw [half_pow] at hi
      have hb : ∀ j' b, (j' = 2 * j ∨ j' = 2 * j + 1) → rndF (upK pl) none S r j' = some b → pl p ≤ pl b := fun j' b hj' hb => by
        obtain ⟨⟨i', hi', hs'⟩, _⟩ := (ih _ b).1 hb
        exact hm i' b (by rw [half_pow, hi']; omega) hs'
      have hc : i / 2 ^ r = 2 * j ∨ i / 2 ^ r = 2 * j + 1 := by omega
      have hw : rndF (upK pl) none S r (i / 2 ^ r) = some p := (ih _ p).2 ⟨⟨i, rfl, hs⟩, fun i' q hi' hq => hm i' q (by rw [half_pow, hi']; exact hi) hq⟩
      rcases hc with hc | hc
      · rw [hc] at hw
        exact .inl ⟨hw, fun b hb' => hb _ b (.inr rfl) hb'⟩
      · rw [hc] at hw
        exact .inr ⟨hw, fun b hb' => hb _ b (.inl rfl) hb'⟩
/-- the player at slot s is there after r rounds -/
def WonK (pl : Nat → Nat) (S : Nat → Option Nat) (r s p : Nat) : Prop := rndF (upK pl) none S r (s / 2 ^ r) = some p
theorem wonK_iff {pl : Nat → Nat} {S : Nat → Option Nat} (h : PlOk pl S) {r s p : Nat} (hs : S s = some p) : WonK pl S r s p ↔ ∀ i q, i / 2 ^ r = s / 2 ^ r → S i = some q → pl p ≤ pl q := by
  unfold WonK
  rw [win_iff h]
  exact ⟨fun e => e.2, fun e => ⟨⟨s, rfl, hs⟩, e⟩⟩
theorem wonK_mono {pl : Nat → Nat} {S : Nat → Option Nat} (h : PlOk pl S) {r s p : Nat} (hs : S s = some p) (hw : WonK pl S (r + 1) s p) : WonK pl S r s p := by
  rw [wonK_iff h hs] at hw ⊢
  exact fun i q hi hq => hw i q (by rw [half_pow, half_pow, hi]) hq
theorem lossP_iff {up : Nat → Nat → Int} {x y : Option Nat} {p : Nat} : p ∈ lossP up none x y ↔ ∃ a b, x = some a ∧ y = some b ∧ p = loseF up a b := by
  cases x <;> cases y <;> simp [lossP]
/-- who loses in a round -/
theorem lossK {pl : Nat → Nat} {n R r s p m : Nat} (hS : SlotOk n R) (h : PlOk pl (slotF n)) (hs : slotF n s = some p) (hm : (slotL n).length / 2 ^ r = 2 * m) :
    p ∈ lossL (upK pl) none (rndL (upK pl) none n r) m ↔ WonK pl (slotF n) r s p ∧ ¬ WonK pl (slotF n) (r + 1) s p := by
  have hat : ∀ i, i < 2 * m → (rndL (upK pl) none n r).getD i none = rndF (upK pl) none (slotF n) r i := fun i hi => rndL_getD (by omega)
  constructor
  · intro hp
    unfold lossL at hp
    obtain ⟨i, hi, hp⟩ := List.mem_flatMap.1 hp
    have hi := List.mem_range.1 hi
    rw [hat _ (by omega), hat _ (by omega)] at hp
    obtain ⟨a, b, ha, hb, hl⟩ := lossP_iff.1 hp
    rw [loseK] at hl
    have hab := plOk_ne h r i a b ha hb
    have hwp : ∃ j, (j = 2 * i ∨ j = 2 * i + 1) ∧ rndF (upK pl) none (slotF n) r j = some p := by
      rw [hl]; split
      · exact ⟨_, .inr rfl, hb⟩
      · exact ⟨_, .inl rfl, ha⟩
    obtain ⟨j, hj, hw⟩ := hwp
    have hsj : s / 2 ^ r = j := by
      obtain ⟨⟨i', h1, h2⟩, _⟩ := (win_iff h r j p).1 hw
      rw [← h1, h.inj _ _ p hs h2]
    refine ⟨by unfold WonK; rw [hsj]; exact hw, ?_⟩
    unfold WonK
    rw [half_pow, hsj, show j / 2 = i by omega, rndK_succ, pairK (plOk_ne h r i), ha, hb]
    have hne : a ≠ b := fun e => hab (by rw [e])
    rintro (⟨e, h2⟩ | ⟨e, h2⟩)
    · cases e
      have := h2 b rfl
      split at hl
      · exact hne hl
      · omega
    · cases e
      have := h2 a rfl
      split at hl
      · omega
      · exact hne hl.symm
  · rintro ⟨hw, hn⟩
    obtain ⟨i, hi⟩ : ∃ i, i = s / 2 ^ (r + 1) := ⟨_, rfl⟩
    have hi2 := hi
    rw [half_pow] at hi
    have hbd := (hS.bd s p hs).2
    have him : i < m := by
      rw [← hS.len] at hbd
      have h1 : s / 2 ^ r ≤ (slotL n).length / 2 ^ r := Nat.div_le_div_right (by omega)
      have hlt : s / 2 ^ r < (slotL n).length / 2 ^ r := by
        obtain ⟨k, hk⟩ : ∃ k, k = (slotL n).length / 2 ^ r := ⟨_, rfl⟩
        have hp2 : 0 < 2 ^ r := Nat.pow_pos (by decide)
        have hdv : 2 ^ r ∣ (slotL n).length := by
          rw [hS.len]
          rcases Nat.lt_or_ge R r with hRr | hRr
          · have h3 : (slotL n).length / 2 ^ r = 0 := Nat.div_eq_of_lt (by rw [hS.len]; exact Nat.pow_lt_pow_right (by decide) hRr)
            have h4 : s / 2 ^ r = 0 := by omega
            rw [h3] at hm
            exfalso
            have h5 : m = 0 := by omega
            unfold WonK at hw hn
            rw [half_pow, h4] at hn
            rw [h4] at hw
            rw [show (0 : Nat) / 2 = 0 from rfl, rndK_succ, pairK (plOk_ne h r 0)] at hn
            refine hn (.inl ⟨hw, fun b hb => ?_⟩)
            obtain ⟨⟨i', h1', h2'⟩, _⟩ := (win_iff h r _ b).1 hb
            have h6 := (hS.bd i' b h2').2
            have h7 : 2 ^ R < 2 ^ r := Nat.pow_lt_pow_right (by decide) hRr
            have : i' / 2 ^ r = 0 := Nat.div_eq_of_lt (by omega)
            omega
          · exact Nat.pow_dvd_pow 2 hRr
        rw [Nat.div_lt_iff_lt_mul hp2, Nat.div_mul_cancel hdv]
        exact hbd
      omega
    unfold lossL
    refine List.mem_flatMap.2 ⟨i, List.mem_range.2 him, ?_⟩
    rw [hat _ (by omega), hat _ (by omega)]
    unfold WonK at hw hn
    rw [← hi2, rndK_succ, pairK (plOk_ne h r i)] at hn
    have hd := plOk_ne h r i
    have hc : s / 2 ^ r = 2 * i ∨ s / 2 ^ r = 2 * i + 1 := by omega
    rw [lossP_iff]
    rcases hc with hc | hc
    · rw [hc] at hw
      cases hy : rndF (upK pl) none (slotF n) r (2 * i + 1) with
      | none => exact absurd (.inl ⟨hw, fun b hb => by rw [hy] at hb; cases hb⟩) hn
      | some b =>
        refine ⟨p, b, hw, rfl, ?_⟩
        rw [loseK, if_neg]
        intro hlt
        exact hn (.inl ⟨hw, fun b' hb => by rw [hy] at hb; cases hb; omega⟩)
    · rw [hc] at hw
      cases hx : rndF (upK pl) none (slotF n) r (2 * i) with
      | none => exact absurd (.inr ⟨hw, fun b hb => by rw [hx] at hb; cases hb⟩) hn
      | some a =>
        refine ⟨a, p, rfl, hw, ?_⟩
        rw [loseK, if_pos]
        have := hd a p hx hw
        rcases Nat.lt_or_ge (pl a) (pl p) with h1 | h1
        · exact h1
        · exact absurd (.inr ⟨hw, fun a' ha => by rw [hx] at ha; cases ha; omega⟩) hn
/-- in which round the player loses, so far -/
def lostK (pl : Nat → Nat) (n : Nat) : Nat → Nat → Nat
  | 0, _ => 0
  | r + 1, p => lostK pl n r p + (if (lossL (upK pl) none (rndL (upK pl) none n r) ((slotL n).length / 2 ^ (r + 1))).contains p then r + 1 else 0)
theorem lost_inv {pl : Nat → Nat} {n R s p : Nat} (hS : SlotOk n R) (h : PlOk pl (slotF n)) (hs : slotF n s = some p) : ∀ t, t ≤ R →
    (WonK pl (slotF n) t s p ∧ lostK pl n t p = 0) ∨ ∃ r, 1 ≤ r ∧ r ≤ t ∧ ¬ WonK pl (slotF n) t s p ∧ ¬ WonK pl (slotF n) r s p ∧ (∀ r', r' < r → WonK pl (slotF n) r' s p) ∧ lostK pl n t p = r
  | 0, _ => .inl ⟨by unfold WonK; rw [Nat.pow_zero, Nat.div_one]; exact hs, rfl⟩
  | t + 1, ht => by
    have ih := lost_inv hS h hs t (by omega)
    have hpw : (slotL n).length / 2 ^ t = 2 * ((slotL n).length / 2 ^ (t + 1)) := by
      rw [hS.len, Nat.pow_div (by omega) (by decide), Nat.pow_div (by omega) (by decide), show R - t = R - (t + 1) + 1 by omega, Nat.pow_succ]; omega
    have hk := lossK hS h hs hpw
    rw [← List.contains_iff_mem] at hk
    show (_ ∧ lostK pl n t p + _ = 0) ∨ ∃ r, _ ∧ _ ∧ _ ∧ _ ∧ _ ∧ lostK pl n t p + _ = r
    rcases ih with ⟨h1, h2⟩ | ⟨r, h1, h2, h3, h4, h5, h6⟩
    · by_cases hw : WonK pl (slotF n) (t + 1) s p
      · refine .inl ⟨hw, ?_⟩
        rw [h2, if_neg (fun e => (hk.1 e).2 hw)]
      · refine .inr ⟨t + 1, by omega, Nat.le_refl _, hw, hw, fun r' hr' => ?_, ?_⟩
        · have hall : ∀ d, d ≤ t → WonK pl (slotF n) (t - d) s p := by
            intro d
            induction d with
            | zero => exact fun _ => h1
            | succ d ihd =>
              intro hd
              refine wonK_mono h hs ?_
              rw [show t - (d + 1) + 1 = t - d by omega]
              exact ihd (by omega)
          have := hall (t - r') (by omega)
          rwa [show t - (t - r') = r' by omega] at this
        · rw [h2, if_pos (hk.2 ⟨h1, hw⟩)]; omega
    · refine .inr ⟨r, h1, by omega, fun hw => h3 (wonK_mono h hs hw), h4, h5, ?_⟩
      rw [h6, if_neg (fun e => h3 (hk.1 e).1)]; omega
/-- the least round at which two slots are in one part -/
def meetGo : Nat → Nat → Nat → Nat
  | 0, _, _ => 0
  | f + 1, i, k => if i = k then 0 else 1 + meetGo f (i / 2) (k / 2)
theorem meetGo_spec : ∀ f i k, i < 2 ^ f → k < 2 ^ f → meetGo f i k ≤ f ∧ i / 2 ^ meetGo f i k = k / 2 ^ meetGo f i k ∧ ∀ r, i / 2 ^ r = k / 2 ^ r → meetGo f i k ≤ r
  | 0, i, k, hi, hk => by
    rw [Nat.pow_zero] at hi hk
    refine ⟨Nat.le_refl _, by rw [show i = k by omega], fun r _ => Nat.zero_le _⟩
  | f + 1, i, k, hi, hk => by
    rw [Nat.pow_succ] at hi hk
    obtain ⟨h0, h1, h2⟩ := meetGo_spec f (i / 2) (k / 2) (by omega) (by omega)
    unfold meetGo
    split
    · rename_i e
      exact ⟨Nat.zero_le _, by rw [e], fun r _ => Nat.zero_le _⟩
    · rename_i hne
      refine ⟨by omega, ?_, fun r hr => ?_⟩
      · rw [Nat.add_comm 1, Nat.pow_succ', ← Nat.div_div_eq_div_mul, ← Nat.div_div_eq_div_mul]; exact h1
      · cases r with
        | zero => rw [Nat.pow_zero, Nat.div_one, Nat.div_one] at hr; exact absurd hr hne
        | succ r =>
          rw [Nat.pow_succ', ← Nat.div_div_eq_div_mul, ← Nat.div_div_eq_div_mul] at hr
          have := h2 r hr
          omega
/-- the slot of a player -/
def idxK (n p : Nat) : Nat := (slotL n).idxOf (some p)
theorem idxK_spec {n R p : Nat} (hS : SlotOk n R) (hp : p < n) : slotF n (idxK n p) = some p ∧ idxK n p < 2 ^ R := by
  obtain ⟨i, hi⟩ := hS.all p hp
  have hm : some p ∈ slotL n := by
    unfold slotF at hi
    exact List.mem_of_getElem? (getD_some.1 hi)
  have hl : idxK n p < (slotL n).length := List.idxOf_lt_length_of_mem hm
  have e : slotF n (idxK n p) = some p := by
    unfold slotF
    rw [getD_some, List.getElem?_eq_getElem hl]
    exact congrArg some (List.getElem_idxOf hl)
  exact ⟨e, by rw [← hS.len]; exact hl⟩
def meetK (n a b : Nat) : Nat := meetGo 9 (idxK n a) (idxK n b)
theorem meetK_spec {n R a b : Nat} (hS : SlotOk n R) (ha : a < n) (hb : b < n) : idxK n a / 2 ^ meetK n a b = idxK n b / 2 ^ meetK n a b ∧ ∀ r, idxK n a / 2 ^ r = idxK n b / 2 ^ r → meetK n a b ≤ r := by
  have h1 := (idxK_spec hS ha).2
  have h2 := (idxK_spec hS hb).2
  have h3 : 2 ^ R ≤ 2 ^ 9 := Nat.pow_le_pow_right (by decide) (by have := hS.rr; omega)
  have := meetGo_spec 9 (idxK n a) (idxK n b) (by omega) (by omega)
  exact ⟨this.2.1, this.2.2⟩
/-- the first round in which a player may meet a better one -/
def firstK (pl : Nat → Nat) (n p : Nat) : Nat → Int
  | 0 => 99
  | k + 1 => if pl k < pl p then min (firstK pl n p k) (meetK n p k) else firstK pl n p k
theorem firstK_spec (pl : Nat → Nat) (n p : Nat) : ∀ t, firstK pl n p t ≤ 99 ∧ 0 ≤ firstK pl n p t ∧ (∀ k, k < t → pl k < pl p → firstK pl n p t ≤ meetK n p k) ∧ (firstK pl n p t = 99 ∨ ∃ k, k < t ∧ pl k < pl p ∧ firstK pl n p t = meetK n p k)
  | 0 => ⟨Int.le_refl _, by show (0 : Int) ≤ 99; omega, fun k h => absurd h (Nat.not_lt_zero k), .inl rfl⟩
  | t + 1 => by
    obtain ⟨h0, hnn, h1, h2⟩ := firstK_spec pl n p t
    show (if pl t < pl p then min (firstK pl n p t) (meetK n p t : Int) else firstK pl n p t) ≤ 99 ∧ 0 ≤ (if pl t < pl p then min (firstK pl n p t) (meetK n p t : Int) else firstK pl n p t) ∧ (∀ k, k < t + 1 → pl k < pl p → (if pl t < pl p then min (firstK pl n p t) (meetK n p t : Int) else firstK pl n p t) ≤ meetK n p k) ∧
      ((if pl t < pl p then min (firstK pl n p t) (meetK n p t : Int) else firstK pl n p t) = 99 ∨ ∃ k, k < t + 1 ∧ pl k < pl p ∧ (if pl t < pl p then min (firstK pl n p t) (meetK n p t : Int) else firstK pl n p t) = meetK n p k)
    split
    · rename_i hlt
      refine ⟨by omega, by omega, fun k hk hp => ?_, ?_⟩
      · rcases Nat.lt_or_ge k t with h | h
        · have := h1 k h hp; omega
        · obtain rfl : k = t := by omega
          omega
      · rcases Int.le_total (firstK pl n p t) (meetK n p t) with h | h
        · rw [Int.min_eq_left h]
          rcases h2 with h2 | ⟨k, hk, hp, e⟩
          · exact .inl h2
          · exact .inr ⟨k, by omega, hp, e⟩
        · rw [Int.min_eq_right h]
          exact .inr ⟨t, by omega, hlt, rfl⟩
    · rename_i hlt
      refine ⟨h0, hnn, fun k hk hp => ?_, ?_⟩
      · rcases Nat.lt_or_ge k t with h | h
        · exact h1 k h hp
        · obtain rfl : k = t := by omega
          exact absurd hp hlt
      · rcases h2 with h2 | ⟨k, hk, hp, e⟩
        · exact .inl h2
        · exact .inr ⟨k, by omega, hp, e⟩
/-- the places are those of n players, each once -/
structure PlaceOk (pl : Nat → Nat) (n : Nat) : Prop where
  inj : ∀ i j, i < n → j < n → pl i = pl j → i = j
theorem PlaceOk.plOk {pl : Nat → Nat} {n R : Nat} (h : PlaceOk pl n) (hS : SlotOk n R) : PlOk pl (slotF n) :=
  ⟨hS.inj, fun i j p q hi hj e => h.inj p q (hS.bd i p hi).1 (hS.bd j q hj).1 e⟩
/-- everybody but the best loses where somebody better is met first -/
theorem lost_first {pl : Nat → Nat} {n R p b : Nat} (h : PlaceOk pl n) (hS : SlotOk n R) (hp : p < n) (hb : b < n) (hlt : pl b < pl p) : (lostK pl n R p : Int) = firstK pl n p n ∧ lostK pl n R p ≤ 4 := by
  have hP := h.plOk hS
  obtain ⟨hs, hs2⟩ := idxK_spec hS hp
  obtain ⟨hsb, hsb2⟩ := idxK_spec hS hb
  have hno : ¬ WonK pl (slotF n) R (idxK n p) p := fun hw => by
    rw [wonK_iff hP hs] at hw
    have := hw (idxK n b) b (by rw [Nat.div_eq_of_lt hs2, Nat.div_eq_of_lt hsb2]) hsb
    omega
  rcases lost_inv hS hP hs R (Nat.le_refl _) with ⟨h1, _⟩ | ⟨r, h1, h2, h3, h4, h5, h6⟩
  · exact absurd h1 hno
  have hR := hS.rr
  obtain ⟨f0, _, f1, f2⟩ := firstK_spec pl n p n
  rw [h6]
  refine ⟨?_, by omega⟩
  rw [wonK_iff hP hs] at h4
  have hq : ∃ i q, i / 2 ^ r = idxK n p / 2 ^ r ∧ slotF n i = some q ∧ pl q < pl p := by
    refine Classical.byContradiction fun hc => h4 fun i q hi hq => ?_
    rcases Nat.lt_or_ge (pl q) (pl p) with h' | h'
    · exact absurd ⟨i, q, hi, hq, h'⟩ hc
    · exact h'
  obtain ⟨i, q, hi, hq, hqp⟩ := hq
  have hqn := (hS.bd i q hq).1
  have hiq : idxK n q = i := hP.inj _ _ q (idxK_spec hS hqn).1 hq
  have hm := (meetK_spec hS hp hqn).2 r (by rw [hiq]; exact hi.symm)
  have hf := f1 q hqn hqp
  rcases f2 with f2 | ⟨k, hk, hkp, e⟩
  · omega
  · have hmk := (meetK_spec hS hp hk).1
    have hnw : ¬ WonK pl (slotF n) (meetK n p k) (idxK n p) p := fun hw => by
      rw [wonK_iff hP hs] at hw
      have := hw (idxK n k) k hmk.symm (idxK_spec hS hk).1
      omega
    have : ¬ meetK n p k < r := fun hlt' => hnw (h5 _ hlt')
    omega
/-- the best one loses nowhere and wins -/
theorem best_wins {pl : Nat → Nat} {n R b : Nat} (h : PlaceOk pl n) (hS : SlotOk n R) (hb : b < n) (hmin : ∀ i, i < n → pl b ≤ pl i) : lostK pl n R b = 0 ∧ rndF (upK pl) none (slotF n) R 0 = some b := by
  have hP := h.plOk hS
  obtain ⟨hs, hs2⟩ := idxK_spec hS hb
  have hw : WonK pl (slotF n) R (idxK n b) b := (wonK_iff hP hs).2 fun i q _ hq => hmin q (hS.bd i q hq).1
  rcases lost_inv hS hP hs R (Nat.le_refl _) with ⟨h1, h2⟩ | ⟨r, _, _, h3, _⟩
  · refine ⟨h2, ?_⟩
    unfold WonK at h1
    rwa [Nat.div_eq_of_lt hs2] at h1
  · exact absurd hw h3
/-- the second best loses where both seeds meet -/
theorem second_loses {pl : Nat → Nat} {n R b p : Nat} (h : PlaceOk pl n) (hS : SlotOk n R) (hp : p < n) (hb : b < n) (hlt : pl b < pl p) (honly : ∀ i, i < n → pl i < pl p → i = b) : lostK pl n R p = meetK n p b := by
  obtain ⟨h1, h2⟩ := lost_first h hS hp hb hlt
  obtain ⟨_, _, _, f2⟩ := firstK_spec pl n p n
  rcases f2 with f2 | ⟨k, hk, hkp, e⟩
  · omega
  · rw [honly k hk hkp] at e; omega
theorem meetK_comm (n a b : Nat) : meetK n a b = meetK n b a := by
  unfold meetK
  generalize idxK n a = i
  generalize idxK n b = k
  generalize 9 = f
  induction f generalizing i k with
  | zero => rfl
  | succ f ih =>
    unfold meetGo
    by_cases h : i = k
    · rw [if_pos h, if_pos h.symm]
    · rw [if_neg h, if_neg (fun e => h e.symm), ih]
end Go.Proofs.YtkkkfjinflepmaaGreatDoor
