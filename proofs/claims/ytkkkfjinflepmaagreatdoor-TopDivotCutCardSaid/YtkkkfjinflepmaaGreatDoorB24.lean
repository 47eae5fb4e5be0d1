/- Part 24 of the walks of the golf union's program: DM2, DN1, DM3. -/
import Derived.Test.YtkkkfjinflepmaaGreatDoorB23
set_option linter.unusedVariables false
set_option linter.unusedSimpArgs false
set_option linter.unusedSectionVars false
set_option linter.constructorNameAsVariable false
/- TopDivotMatches, plain: a round of a bracket that is played. -/
namespace Go.Proofs.YtkkkfjinflepmaaGreatDoor
open Go.RowKit Go.Mem Go.Sheet Go.Adj
/-- everybody has one slot -/
def InjS (S : List (Option Nat)) : Prop := ∀ i j p : Nat, S[i]? = some (some p) → S[j]? = some (some p) → i = j
theorem mem_pres {S : List (Option Nat)} {p : Nat} : p ∈ pres S ↔ some p ∈ S := by
  unfold pres
  rw [List.mem_filterMap]
  exact ⟨fun ⟨a, h, e⟩ => by rw [← show a = some p from e]; exact h, fun h => ⟨_, h, rfl⟩⟩
theorem pres_nodup : ∀ {S : List (Option Nat)}, InjS S → (pres S).Nodup
  | [], _ => List.nodup_nil
  | s :: S, h => by
    have ih : (pres S).Nodup := pres_nodup fun i j p hi hj => by
      have := h (i + 1) (j + 1) p hi hj; omega
    cases s with
    | none => exact ih
    | some p =>
      show (p :: pres S).Nodup
      rw [List.nodup_cons]
      refine ⟨fun hp => ?_, ih⟩
      obtain ⟨j, hj, e⟩ := List.mem_iff_getElem.1 (mem_pres.1 hp)
      have := h 0 (j + 1) p rfl (by rw [List.getElem?_cons_succ, List.getElem?_eq_getElem hj, e])
      omega
def lossP (up : Nat → Nat → Int) (gone : Option Nat) : Option Nat → Option Nat → List Nat
  | some a, some b => if gone = some a ∨ gone = some b then [] else [loseF up a b]
  | _, _ => []
def lossL (up : Nat → Nat → Int) (gone : Option Nat) (S : List (Option Nat)) (k : Nat) : List Nat := (List.range k).flatMap fun i => lossP up gone (S.getD (2 * i) none) (S.getD (2 * i + 1) none)
theorem lossL_snoc (up : Nat → Nat → Int) (gone : Option Nat) (S : List (Option Nat)) (k : Nat) : lossL up gone S (k + 1) = lossL up gone S k ++ lossP up gone (S.getD (2 * k) none) (S.getD (2 * k + 1) none) := by
  unfold lossL; rw [List.range_succ, List.flatMap_append]; simp
def outL : Option Nat → List Nat
  | some g => [g]
  | none => []
def losers (up : Nat → Nat → Int) (gone : Option Nat) (S : List (Option Nat)) (k : Nat) : List Nat := outL gone ++ lossL up gone S k
theorem losers_snoc (up : Nat → Nat → Int) (gone : Option Nat) (S : List (Option Nat)) (k : Nat) : losers up gone S (k + 1) = losers up gone S k ++ lossP up gone (S.getD (2 * k) none) (S.getD (2 * k + 1) none) := by
  unfold losers; rw [lossL_snoc, List.append_assoc]
theorem lossP_mem {up : Nat → Nat → Int} {gone x y : Option Nat} {p : Nat} (h : p ∈ lossP up gone x y) : (x = some p ∨ y = some p) ∧ gone ≠ some p := by
  cases x <;> cases y <;> simp only [lossP, List.not_mem_nil] at h
  rename_i a b
  split at h
  · cases h
  · rename_i hn
    rw [List.mem_singleton] at h
    subst h
    unfold loseF
    split
    · exact ⟨.inl rfl, fun e => hn (.inl e)⟩
    · exact ⟨.inr rfl, fun e => hn (.inr e)⟩
theorem lossP_len (up : Nat → Nat → Int) (gone x y : Option Nat) : (lossP up gone x y).length ≤ 1 := by
  cases x <;> cases y <;> simp only [lossP] <;> try exact Nat.zero_le _
  split
  · exact Nat.zero_le _
  · exact Nat.le_refl _
theorem getD_some {S : List (Option Nat)} {i p : Nat} : S.getD i none = some p ↔ S[i]? = some (some p) := by
  rw [List.getD_eq_getElem?_getD]
  cases S[i]? with
  | none => simp
  | some s => simp
theorem lossL_mem {up : Nat → Nat → Int} {gone : Option Nat} {S : List (Option Nat)} {k p : Nat} (h : p ∈ lossL up gone S k) : ∃ i, i < k ∧ p ∈ lossP up gone (S.getD (2 * i) none) (S.getD (2 * i + 1) none) ∧ ∃ j, (j = 2 * i ∨ j = 2 * i + 1) ∧ S[j]? = some (some p) := by
  unfold lossL at h
  obtain ⟨i, hi, hp⟩ := List.mem_flatMap.1 h
  refine ⟨i, List.mem_range.1 hi, hp, ?_⟩
  rcases (lossP_mem hp).1 with e | e
  · exact ⟨_, .inl rfl, getD_some.1 e⟩
  · exact ⟨_, .inr rfl, getD_some.1 e⟩
theorem mem_losers {up : Nat → Nat → Int} {gone : Option Nat} {S : List (Option Nat)} {m i p : Nat} (hS : InjS S) (hi : i < m) (hp : S.getD (2 * i) none = some p ∨ S.getD (2 * i + 1) none = some p) :
    (losers up gone S m).contains p = true ↔ gone = some p ∨ p ∈ lossP up gone (S.getD (2 * i) none) (S.getD (2 * i + 1) none) := by
  rw [List.contains_iff_mem]
  unfold losers
  rw [List.mem_append]
  have h1 : p ∈ outL gone ↔ gone = some p := by
    cases gone with
    | none => simp [outL]
    | some g =>
      show p ∈ [g] ↔ _
      rw [List.mem_singleton]
      exact ⟨fun e => by rw [e], fun e => by cases e; rfl⟩
  rw [h1]
  refine or_congr Iff.rfl ⟨fun h => ?_, fun h => ?_⟩
  · obtain ⟨i', hi', hp', j, hj, e⟩ := lossL_mem h
    have : i' = i := by
      rcases hp with h2 | h2
      · have := hS _ _ p e (getD_some.1 h2); omega
      · have := hS _ _ p e (getD_some.1 h2); omega
    subst this
    exact hp'
  · unfold lossL
    exact List.mem_flatMap.2 ⟨i, List.mem_range.2 hi, h⟩
theorem lossL_nodup {up : Nat → Nat → Int} {gone : Option Nat} {S : List (Option Nat)} (hS : InjS S) : ∀ k, (lossL up gone S k).Nodup
  | 0 => List.nodup_nil
  | k + 1 => by
    rw [lossL_snoc, List.nodup_append]
    refine ⟨lossL_nodup hS k, ?_, fun a ha b hb e => ?_⟩
    · have := lossP_len up gone (S.getD (2 * k) none) (S.getD (2 * k + 1) none)
      generalize lossP up gone (S.getD (2 * k) none) (S.getD (2 * k + 1) none) = l at *
      match l, this with
      | [], _ => exact List.nodup_nil
      | [x], _ => exact List.nodup_cons.2 ⟨List.not_mem_nil, List.nodup_nil⟩
    · subst e
      obtain ⟨i, hi, _, j, hj, e⟩ := lossL_mem ha
      rcases (lossP_mem hb).1 with h | h
      · have := hS _ _ a e (getD_some.1 h); omega
      · have := hS _ _ a e (getD_some.1 h); omega
theorem losers_nodup {up : Nat → Nat → Int} {gone : Option Nat} {S : List (Option Nat)} (hS : InjS S) (k : Nat) : (losers up gone S k).Nodup := by
  unfold losers
  rw [List.nodup_append]
  refine ⟨?_, lossL_nodup hS k, fun a ha b hb e => ?_⟩
  · cases gone with
    | none => exact List.nodup_nil
    | some g => exact List.nodup_cons.2 ⟨List.not_mem_nil, List.nodup_nil⟩
  · subst e
    obtain ⟨i, _, hp, _⟩ := lossL_mem hb
    have h2 := (lossP_mem hp).2
    cases gone with
    | none => cases ha
    | some g =>
      have : a = g := List.mem_singleton.1 ha
      exact h2 (by rw [this])
theorem losers_pres {up : Nat → Nat → Int} {gone : Option Nat} {S : List (Option Nat)} {k p : Nat} (hg : ∀ g, gone = some g → g ∈ pres S) (h : p ∈ losers up gone S k) : p ∈ pres S := by
  unfold losers at h
  rcases List.mem_append.1 h with h | h
  · cases gone with
    | none => cases h
    | some g =>
      have : p = g := List.mem_singleton.1 h
      rw [this]; exact hg g rfl
  · obtain ⟨_, _, _, j, _, e⟩ := lossL_mem h
    exact mem_pres.2 (List.mem_of_getElem? e)
/-- who stays of two slots -/
theorem pair_stay {up : Nat → Nat → Int} {gone : Option Nat} {S : List (Option Nat)} {m i : Nat} (hS : InjS S) (hi : i < m) :
    (stayO (losers up gone S m) (S.getD (2 * i) none) && stayO (losers up gone S m) (S.getD (2 * i + 1) none)) = false ∧
    pairO (losers up gone S m) (S.getD (2 * i) none) (S.getD (2 * i + 1) none) = pairF up gone (S.getD (2 * i) none) (S.getD (2 * i + 1) none) := by
  have hd : ∀ p, S.getD (2 * i) none = some p → S.getD (2 * i + 1) none = some p → False := fun p h1 h2 => by
    have := hS _ _ p (getD_some.1 h1) (getD_some.1 h2); omega
  have h1 : ∀ p, S.getD (2 * i) none = some p → ((losers up gone S m).contains p = true ↔ gone = some p ∨ p ∈ lossP up gone (S.getD (2 * i) none) (S.getD (2 * i + 1) none)) := fun p h => mem_losers hS hi (.inl h)
  have h2 : ∀ p, S.getD (2 * i + 1) none = some p → ((losers up gone S m).contains p = true ↔ gone = some p ∨ p ∈ lossP up gone (S.getD (2 * i) none) (S.getD (2 * i + 1) none)) := fun p h => mem_losers hS hi (.inr h)
  generalize losers up gone S m = l at *
  generalize S.getD (2 * i) none = x at *
  generalize S.getD (2 * i + 1) none = y at *
  have key : ∀ p (P : Prop) [Decidable P], (l.contains p = true ↔ P) → l.contains p = decide P := fun p P _ h => by
    by_cases hp : P
    · rw [h.2 hp]; simp [hp]
    · rw [decide_eq_false hp]
      cases hc : l.contains p with
      | false => rfl
      | true => exact absurd (h.1 hc) hp
  cases x with
  | none =>
    cases y with
    | none => exact ⟨rfl, rfl⟩
    | some b =>
      have e := key b _ (h2 b rfl)
      simp only [lossP, List.not_mem_nil, or_false] at e
      refine ⟨rfl, ?_⟩
      simp only [pairO, stayO, pairF, e]
      by_cases hb : gone = some b <;> simp [hb]
  | some a =>
    cases y with
    | none =>
      have e := key a _ (h1 a rfl)
      simp only [lossP, List.not_mem_nil, or_false] at e
      refine ⟨by simp [stayO], ?_⟩
      simp only [pairO, stayO, pairF, e]
      by_cases hb : gone = some a <;> simp [hb]
    | some b =>
      have hab : a ≠ b := fun e => hd a rfl (by rw [e])
      have ea := key a _ (h1 a rfl)
      have eb := key b _ (h2 b rfl)
      simp only [lossP] at ea eb
      simp only [pairO, stayO, pairF]
      by_cases hga : gone = some a
      · subst hga
        simp [hab] at ea eb
        simp [ea, eb]
      · by_cases hgb : gone = some b
        · subst hgb
          have hba : ¬ b = a := fun e => hab e.symm
          simp [hba] at ea eb
          simp [ea, eb, hba]
        · clear ea eb
          have h1 := h1 a rfl
          have h2 := h2 b rfl
          simp only [lossP] at h1 h2
          rw [if_neg (by simp [hga, hgb])] at h1 h2
          simp only [hga, hgb, false_or, List.mem_singleton] at h1 h2
          have hba : ¬ b = a := fun e => hab e.symm
          by_cases hl : loseF up a b = a
          · rw [hl] at h1 h2
            have ea := key a _ h1
            have eb := key b _ h2
            simp [hba] at ea eb
            simp [ea, eb, hga, hgb, hl]
          · have hl2 : loseF up a b = b := by
              unfold loseF at hl ⊢
              split
              · rename_i h; rw [if_pos h] at hl; exact absurd rfl hl
              · rfl
            rw [hl2] at h1 h2
            have ea := key a _ h1
            have eb := key b _ h2
            simp [hab] at ea eb
            simp [ea, eb, hga, hgb, hl2, hba]
/-- the slots of a round -/
def rndL (up : Nat → Nat → Int) (gone : Option Nat) (n r : Nat) : List (Option Nat) := (List.range ((slotL n).length / 2 ^ r)).map (rndF up gone (slotF n) r)
theorem rndL_len (up : Nat → Nat → Int) (gone : Option Nat) (n r : Nat) : (rndL up gone n r).length = (slotL n).length / 2 ^ r := by unfold rndL; rw [List.length_map, List.length_range]
theorem rndL_zero (up : Nat → Nat → Int) (gone : Option Nat) (n : Nat) : rndL up gone n 0 = slotL n := by
  unfold rndL
  rw [Nat.pow_zero, Nat.div_one]
  apply List.ext_getElem?
  intro i
  rw [List.getElem?_map]
  rcases Nat.lt_or_ge i (slotL n).length with h | h
  · rw [List.getElem?_range h, List.getElem?_eq_getElem h]
    show some (slotF n i) = _
    unfold slotF
    rw [List.getD_eq_getElem?_getD, List.getElem?_eq_getElem h]; rfl
  · rw [List.getElem?_eq_none h, List.getElem?_eq_none (by simpa using h)]; rfl
theorem rndL_at {up : Nat → Nat → Int} {gone : Option Nat} {n r i : Nat} {s : Option Nat} (h : (rndL up gone n r)[i]? = some s) : i < (slotL n).length / 2 ^ r ∧ rndF up gone (slotF n) r i = s := by
  have hl := (List.getElem?_eq_some_iff.1 h).1
  rw [rndL_len] at hl
  unfold rndL at h
  rw [List.getElem?_map, List.getElem?_range hl] at h
  exact ⟨hl, by simpa using h⟩
theorem rndL_get {up : Nat → Nat → Int} {gone : Option Nat} {n r i : Nat} (h : i < (slotL n).length / 2 ^ r) : (rndL up gone n r)[i]? = some (rndF up gone (slotF n) r i) := by
  unfold rndL
  rw [List.getElem?_map, List.getElem?_range h]; rfl
theorem rndL_getD {up : Nat → Nat → Int} {gone : Option Nat} {n r i : Nat} (h : i < (slotL n).length / 2 ^ r) : (rndL up gone n r).getD i none = rndF up gone (slotF n) r i := by
  rw [List.getD_eq_getElem?_getD, rndL_get h]; rfl
theorem rndF_inj {up : Nat → Nat → Int} {gone : Option Nat} {S : Nat → Option Nat} (hS : ∀ i j p, S i = some p → S j = some p → i = j) : ∀ r i j p, rndF up gone S r i = some p → rndF up gone S r j = some p → i = j
  | 0, i, j, p, h1, h2 => hS i j p h1 h2
  | r + 1, i, j, p, h1, h2 => by
    have ih := rndF_inj (up := up) (gone := gone) hS r
    rcases pairF_from h1 with a1 | a1 <;> rcases pairF_from h2 with a2 | a2 <;> have := ih _ _ p a1 a2 <;> omega
theorem rndF_from {up : Nat → Nat → Int} {gone : Option Nat} {S : Nat → Option Nat} : ∀ r i p, rndF up gone S r i = some p → ∃ j, S j = some p
  | 0, i, _, h => ⟨i, h⟩
  | r + 1, i, p, h => by
    rcases pairF_from h with a | a
    · exact rndF_from r _ p a
    · exact rndF_from r _ p a
theorem rndL_inj {up : Nat → Nat → Int} {gone : Option Nat} {n r : Nat} (hS : ∀ i j p, slotF n i = some p → slotF n j = some p → i = j) : InjS (rndL up gone n r) := fun i j p hi hj =>
  rndF_inj hS r i j p (rndL_at hi).2 (rndL_at hj).2
/-- a round: who advances -/
theorem rndL_step {up : Nat → Nat → Int} {gone : Option Nat} {n r m : Nat} (hS : ∀ i j p, slotF n i = some p → slotF n j = some p → i = j) (hm : (slotL n).length / 2 ^ r = 2 * m) :
    advL (losers up (if r = 0 then gone else none) (rndL up gone n r) m) (rndL up gone n r) m = rndL up gone n (r + 1) := by
  have hl : (slotL n).length / 2 ^ (r + 1) = m := by rw [Nat.pow_succ, ← Nat.div_div_eq_div_mul, hm]; omega
  unfold advL
  rw [show rndL up gone n (r + 1) = (List.range m).map (rndF up gone (slotF n) (r + 1)) from by unfold rndL; rw [hl]]
  refine List.map_congr_left fun i hi => ?_
  have hi := List.mem_range.1 hi
  rw [(pair_stay (up := up) (rndL_inj hS) hi).2, rndL_getD (by omega), rndL_getD (by omega)]
  rfl
end Go.Proofs.YtkkkfjinflepmaaGreatDoor
/- TopDivotMatches: the number of a player. -/
namespace Go.Proofs.YtkkkfjinflepmaaGreatDoor
open Go.RowKit Go.Mem Go.Sheet Go.Adj
theorem bytes_neL {a b : ByteArray} (h : a ≠ b) : (a.toList == b.toList) = false := by
  rw [Bool.eq_false_iff]
  intro e
  apply h
  have e := eq_of_beq e
  rw [ByteArray.toList_eq, ByteArray.toList_eq] at e
  obtain ⟨a⟩ := a
  obtain ⟨b⟩ := b
  have e2 : a = b := Array.toList_inj.1 e
  rw [e2]
def seedO : Option Nat → Int
  | none => -1
  | some p => (p : Nat)
theorem GoodNs.slot {f : Nat → ByteArray} {n k : Nat} (h : GoodNs f n) (hk : k < n) {s : Option Nat} (hs : ∀ p, s = some p → p < n) : f k = nmO f s ↔ s = some k := by
  cases s with
  | none => exact ⟨fun e => absurd e (name_ne (h.ok k hk).1), fun e => by cases e⟩
  | some p => exact ⟨fun e => by rw [h.ne hk (hs p rfl) e], fun e => by cases e; rfl⟩
set_option maxRecDepth 100000 in
set_option maxHeartbeats 4000000 in
theorem divotSeed_ok (w : World) (F : Nat → Prop) (v : Value) (n : Nat) (f : Nat → ByteArray) (h : Rd w F 1 v n (strsV f n)) (hg : GoodNs f n) (s : Option Nat) (hs : ∀ p, s = some p → p < n) :
    Calls Tryz.prog 11 #[v, .string (nmO f s)] w fun e w' => e = .returned (.int .i64 (seedO s)) ∧ w = w' := by
  have hn := h.le
  obtain ⟨A, c, rfl, _, _, h⟩ := h.open_
  have H := Lib.hid h
  have HNE : Hid (∀ k, k < n → (f k = nmO f s ↔ s = some k)) := fun k hk => hg.slot hk hs
  have HSN : Hid (∀ p, s = some p → p < n) := hs
  clear h hg hs
  obtain ⟨nm, hnm⟩ : ∃ nm, nm = nmO f s := ⟨_, rfl⟩
  rw [← hnm] at HNE ⊢
  clear hnm
  go_enter Tryz.func11, Tryz.ntmps11
  go_wp2
  go_loop [9] (fun i => ∃ k : Nat, k ≤ n ∧ i = .int .i64 k ∧ ∀ j, j < k → s ≠ some j) (fun i => n - (intOf i).toNat)
  case atStart => exact ⟨0, Nat.zero_le _, rfl, fun j hj => absurd hj (Nat.not_lt_zero j)⟩
  case round =>
    obtain ⟨k, hk, rfl, hno⟩ := hrel
    have HNO := Lib.hid hno
    clear hno
    by_cases hlt : k < n
    · obtain ⟨b, o, u, hA, _, hu, hc⟩ := H.out.at_ hlt
      subst hA
      rw [strsV_at f hlt] at hu
      cases hu
      have hiff := HNE.out k hlt
      have HIF := Lib.hid hiff
      by_cases he : f k = nm
      · have hsk := hiff.1 he
        rw [he] at hc
        have HSK := Lib.hid hsk
        clear hiff hsk he HIF
        go_wp2
        go_ret
        refine ⟨?_, rfl⟩
        rw [HSK.out]; rfl
      · have hsk : s ≠ some k := fun e => he (hiff.2 e)
        have HSK := Lib.hid hsk
        have hb := bytes_neL he
        clear hiff hsk HIF
        generalize f k = fk at *
        go_wp2
        go_round
        case rel =>
          refine ⟨k + 1, by omega, by go_num, fun j hj => ?_⟩
          rcases Nat.lt_or_ge j k with h1 | h1
          · exact HNO.out j h1
          · obtain rfl : j = k := by omega
            exact HSK.out
        case measure => simp [intOf]; omega
    · obtain rfl : n = k := by omega
      go_wp2
      go_ret
      refine ⟨?_, rfl⟩
      cases s with
      | none => rfl
      | some p => exact absurd rfl (HNO.out p (HSN.out p rfl))
end Go.Proofs.YtkkkfjinflepmaaGreatDoor
/- Brackets of up to twelve, plain: each player has one slot. -/
namespace Go.Proofs.YtkkkfjinflepmaaGreatDoor
open Go.RowKit Go.Mem Go.Sheet Go.Adj
def slotChk (n : Nat) : Bool := ((List.range 5).any fun R => decide (1 ≤ R) && (slotL n).length == 2 ^ R) &&
  ((List.range 16).all fun i => (List.range 16).all fun j => (slotF n i).isNone || slotF n i != slotF n j || i == j) &&
  ((List.range 16).all fun i => match slotF n i with | some p => decide (p < n) | none => true) &&
  ((List.range n).all fun p => (List.range 16).any fun i => slotF n i == some p)
theorem slots_chk : ((List.range 13).all fun n => decide (n < 2) || slotChk n) = true := by decide +kernel
structure SlotOk (n R : Nat) : Prop where
  rr : 1 ≤ R ∧ R ≤ 4
  len : (slotL n).length = 2 ^ R
  inj : ∀ i j p, slotF n i = some p → slotF n j = some p → i = j
  bd : ∀ i p, slotF n i = some p → p < n ∧ i < 2 ^ R
  all : ∀ p, p < n → ∃ i, slotF n i = some p
theorem slot_ok (n : Nat) (h : 2 ≤ n ∧ n ≤ 12) : ∃ R, SlotOk n R := by
  have hc := List.all_eq_true.1 slots_chk n (List.mem_range.2 (by omega))
  rw [decide_eq_false (by omega), Bool.false_or] at hc
  unfold slotChk at hc
  simp only [Bool.and_eq_true] at hc
  obtain ⟨⟨⟨h1, h2⟩, h3⟩, h4⟩ := hc
  obtain ⟨R, hR, h1⟩ := List.any_eq_true.1 h1
  simp only [Bool.and_eq_true, decide_eq_true_eq, beq_iff_eq] at h1
  have hR4 := List.mem_range.1 hR
  have hl : (slotL n).length ≤ 16 := by
    rw [h1.2]
    have : R = 1 ∨ R = 2 ∨ R = 3 ∨ R = 4 := by omega
    rcases this with rfl | rfl | rfl | rfl <;> decide
  have hlt : ∀ i p, slotF n i = some p → i < (slotL n).length := fun i p hi => by
    unfold slotF at hi
    exact (List.getElem?_eq_some_iff.1 (getD_some.1 hi)).1
  refine ⟨R, ⟨h1.1, by omega⟩, h1.2, fun i j p hi hj => ?_, fun i p hi => ⟨?_, ?_⟩, fun p hp => ?_⟩
  · have hi' := hlt i p hi
    have hj' := hlt j p hj
    have := List.all_eq_true.1 (List.all_eq_true.1 h2 i (List.mem_range.2 (by omega))) j (List.mem_range.2 (by omega))
    rw [hi, hj] at this
    simpa using this
  · have hi' := hlt i p hi
    have := List.all_eq_true.1 h3 i (List.mem_range.2 (by omega))
    rw [hi] at this
    simpa using this
  · rw [← h1.2]; exact hlt i p hi
  · obtain ⟨i, _, hi⟩ := List.any_eq_true.1 (List.all_eq_true.1 h4 p (List.mem_range.2 hp))
    exact ⟨i, by simpa using hi⟩
/-- who wins -/
theorem wins {n R : Nat} (h : SlotOk n R) {up : Nat → Nat → Int} {gone : Option Nat} {a : Nat} (ha : a < n) (hg : gone ≠ some a) : ∃ b, rndF up gone (slotF n) R 0 = some b ∧ b < n := by
  obtain ⟨j, hj⟩ := h.all a ha
  obtain ⟨b, hb⟩ := rnd_left (up := up) hj hg R
  rw [Nat.div_eq_of_lt (h.bd j a hj).2] at hb
  obtain ⟨i, hi⟩ := rndF_from R 0 b hb
  exact ⟨b, hb, (h.bd i b hi).1⟩
end Go.Proofs.YtkkkfjinflepmaaGreatDoor
