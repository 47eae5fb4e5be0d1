/- Part 31 of the walks of the golf union's program: QL1, QL2, QS1, QS2, QS3, QS4, QS5. -/
import Derived.Test.YtlffgdmljioaoaaGreatDoorD24
import Derived.Test.YtlffgdmljioaoaaGreatDoorD25
import Derived.Test.YtlffgdmljioaoaaGreatDoorD30
import Derived.Test.YtlffgdmljioaoaaGreatDoorD08
import Derived.Deep.CutRange
set_option linter.unusedVariables false
set_option linter.unusedSimpArgs false
set_option linter.unusedSectionVars false
set_option linter.constructorNameAsVariable false
/- SheetMeans: what the law compares: plain. -/
namespace Go.Sheet
theorem cop_eq {a b c d : Nat} (h1 : Nat.gcd a b = 1) (h2 : Nat.gcd c d = 1) (h : a * d = c * b) : b = d := by
  have e1 : b ∣ d := by
    have h3 : b ∣ a * d := ⟨c, by rw [h, Nat.mul_comm]⟩
    exact (Nat.Coprime.symm (show Nat.Coprime a b from h1)).dvd_of_dvd_mul_left h3
  have e2 : d ∣ b := by
    have h3 : d ∣ c * b := ⟨a, by rw [← h, Nat.mul_comm]⟩
    exact (Nat.Coprime.symm (show Nat.Coprime c d from h2)).dvd_of_dvd_mul_left h3
  exact Nat.dvd_antisymm e1 e2
theorem txtL_eq {p q p' q' : Int} (hq : 1 ≤ q) (hq' : 1 ≤ q') (h : p * q' = p' * q) : txtL p q = txtL p' q' := by
  obtain ⟨g, P, Q, hg1, _, hP, hQ, hQ1, hcop, _, _, htx⟩ := low_terms p q hq
  obtain ⟨g', P', Q', hg1', _, hP', hQ', hQ1', hcop', _, _, htx'⟩ := low_terms p' q' hq'
  have e : P * Q' = P' * Q := by
    have h3 : (P * Q') * ((g : Int) * g') = (P' * Q) * ((g : Int) * g') := by
      rw [hP, hQ', hP', hQ] at h
      calc (P * Q') * ((g : Int) * g') = P * g * (Q' * g') := by ac_rfl
        _ = P' * g' * (Q * g) := h
        _ = (P' * Q) * ((g : Int) * g') := by ac_rfl
    have hz : ((g : Int) * g') ≠ 0 := Int.mul_ne_zero (by omega) (by omega)
    exact Int.eq_of_mul_eq_mul_right hz h3
  have eQ : Q = Q' := by
    have h4 : P.natAbs * Q'.natAbs = P'.natAbs * Q.natAbs := by rw [← Int.natAbs_mul, ← Int.natAbs_mul, e]
    have := cop_eq hcop hcop' h4
    omega
  have eP : P = P' := by
    rw [← eQ] at e
    exact Int.eq_of_mul_eq_mul_right (by omega) e
  rw [htx, htx', eP, eQ]
/-- the errors of a list of heads, as the law finds them -/
def hE0 (l : List Int) : Int := fst [whenE (decide (l.length = 0)) 12, whenE (decide (24 < l.length)) 5]
def HoInv (l : List Int) (k : Nat) (f : Int) : Prop := (f = 0 ∧ hE0 l = 0 ∧ ∀ x ∈ l.take k, outE x 1 10000 = 0) ∨ (f ≠ 0 ∧ f = holesE l)
theorem holesE_0 (l : List Int) : holesE l = if hE0 l ≠ 0 then hE0 l else eachF (fun _ n => outE n 1 10000) 0 l := by
  rw [holesE, hE0]
  generalize eachF (fun _ n => outE n 1 10000) 0 l = X
  generalize whenE (decide (l.length = 0)) 12 = A
  generalize whenE (decide (24 < l.length)) 5 = B
  simp only [fst]
  by_cases hA : A = 0
  · by_cases hB : B = 0
    · simp only [hA, hB, ne_eq, not_true_eq_false, if_false]
      split
      · rfl
      · rename_i h; exact (Classical.not_not.1 h).symm
    · simp [hA, hB]
  · simp [hA]
theorem HoInv.step {l : List Int} {k : Nat} {x : Int} (h : HoInv l k 0) (hx : l[k]? = some x) : HoInv l (k + 1) (outE x 1 10000) := by
  rcases h with ⟨_, h0, h1⟩ | ⟨h0, _⟩
  · by_cases he : outE x 1 10000 = 0
    · refine .inl ⟨he, h0, fun y hy => ?_⟩
      rw [take_at hx] at hy
      rcases List.mem_append.1 hy with hy | hy
      · exact h1 y hy
      · rw [List.mem_singleton.1 hy]; exact he
    · refine .inr ⟨he, ?_⟩
      rw [holesE_0, if_neg (by rw [h0]; decide)]
      have hk : k < l.length := (List.getElem?_eq_some_iff.1 hx).1
      have hgo : ∀ j, j ≤ k → eachF (fun _ n => outE n 1 10000) j (l.drop j) = eachF (fun _ n => outE n 1 10000) 0 l := by
        intro j
        induction j with
        | zero => intro _; rfl
        | succ j ih =>
          intro hj
          have hjl : j < l.length := by omega
          have e : l[j]? = some l[j] := List.getElem?_eq_getElem hjl
          have hz : outE l[j] 1 10000 = 0 := h1 _ (by
            rw [List.mem_take_iff_getElem]; exact ⟨j, by omega, rfl⟩)
          exact eachF_go (f := fun _ n => outE n 1 10000) e (by rw [hz]; decide) (ih (by omega))
      exact eachF_stop (f := fun _ n => outE n 1 10000) hx he (hgo k (Nat.le_refl _))
  · exact absurd rfl h0
theorem HoInv.done {l : List Int} {k : Nat} {f : Int} (h : HoInv l k f) (hk : k = l.length ∨ f ≠ 0) : f = holesE l := by
  rcases h with ⟨h0, h1, h2⟩ | ⟨h0, h1⟩
  · rcases hk with rfl | hk
    · rw [h0, holesE_0, if_neg (by rw [h1]; decide)]
      symm
      rw [eachF_zero]
      intro i x hx
      exact h2 x (by rw [List.take_length]; exact List.mem_of_getElem? hx)
    · exact absurd h0 hk
  · exact h1
end Go.Sheet
/- The law's walk: SheetMeans. -/
namespace Go.Proofs.YtlffgdmljioaoaaGreatDoor
open Go.RowKit Go.Mem Go.Sheet
end Go.Proofs.YtlffgdmljioaoaaGreatDoor
/- Walks of the reference on fractions' texts: Sign, Neg, slash, value. -/
namespace Go.Sheet
def sgnL (l : List UInt8) : Int := if l = [48] then 0 else if l.head? = some 45 then -1 else 1
end Go.Sheet
namespace Go.Proofs.YtlffgdmljioaoaaGreatDoor
open Go.RowKit Go.Mem Go.Sheet
set_option maxRecDepth 100000 in
set_option maxHeartbeats 1000000 in
theorem rsign_any (w : World) (l : List UInt8) (hl : l.length ≤ 1000) : Calls Tryz.prog 69 #[.string (tB l)] w fun e w' => e = .returned (.int .i64 (sgnL l)) ∧ w = w' := by
  have hsz : (tB l).size = l.length := tB_size l
  have H1 : Hid (((tB l).toList == [48]) = true → sgnL l = 0) := Lib.hid (fun h => by
    rw [tB_list, beq_iff_eq] at h
    rw [sgnL, if_pos h])
  have H2 : Hid (((tB l).toList == [48]) = false → ¬ l = [48]) := Lib.hid (fun h e => by
    rw [tB_list, e] at h; cases h)
  have H3 : Hid (∀ h : 0 < (tB l).size, ((((tB l)[0].toNat : Int) == 45) = true ↔ l.head? = some 45)) := Lib.hid (fun h => by
    cases l with
    | nil => simp [tB_size] at h
    | cons a t =>
      rw [show (tB (a :: t))[0] = a from rfl, List.head?_cons, Option.some.injEq, beq_iff_eq]
      constructor
      · intro h; exact UInt8.toNat_inj.1 (by show a.toNat = 45; omega)
      · intro h; subst h; rfl)
  have H4 : Hid (¬ 0 < l.length → l = []) := Lib.hid (fun h => List.eq_nil_of_length_eq_zero (by omega))
  go_enter Tryz.func69, Tryz.ntmps69
  go_wp2_with fail
  · rename_i h
    go_ret
    exact ⟨ret_i64 (H1.out h).symm, rfl⟩
  · rename_i h1 _ _ h2 h3
    go_ret
    exact ⟨ret_i64 (by rw [sgnL, if_neg (H2.out h1), if_pos ((H3.out (by omega)).1 h3)]), rfl⟩
  · rename_i h1 h2 h3
    go_ret
    exact ⟨ret_i64 (by rw [sgnL, if_neg (H2.out h1), if_neg (fun e => by rw [(H3.out (by omega)).2 e] at h3; cases h3)]), rfl⟩
  · rename_i h1 h2
    go_ret
    exact ⟨ret_i64 (by rw [sgnL, if_neg (H2.out h1), if_neg (by rw [H4.out h2]; simp)]), rfl⟩
/-- the sign turned -/
def negL (l : List UInt8) : List UInt8 := if sgnL l < 0 then l.tail else if sgnL l = 0 then l else 45 :: l
set_option maxRecDepth 100000 in
set_option maxHeartbeats 1000000 in
theorem rneg_any (w : World) (l : List UInt8) (hl : l.length ≤ 1000) : Calls Tryz.prog 115 #[.string (tB l)] w fun e w' => e = .returned (.string (tB (negL l))) ∧ Below w.heap.size w w' := by
  have HS := Lib.hid (rsign_any w l hl)
  have hsz : (tB l).size = l.length := tB_size l
  have HN : Hid (negL l = if sgnL l < 0 then l.tail else if sgnL l = 0 then l else 45 :: l) := Lib.hid rfl
  have HNE : Hid (sgnL l < 0 → 1 ≤ l.length) := Lib.hid (fun h => by
    cases l with
    | nil => simp [sgnL] at h
    | cons a t => simp)
  generalize hs : sgnL l = s at *
  clear hs
  go_enter Tryz.func115, Tryz.ntmps115
  go_wp2_with fail
  refine HS.out.mono ?_
  rintro e w' ⟨rfl, rfl⟩
  rcases Int.lt_or_le s 0 with h | h
  · have t : decide (s < 0) = true := decide_eq_true h
    have h1 := HNE.out h
    have HR : Hid ((tB l).extract 1 l.length = tB (negL l)) := Lib.hid (by rw [HN.out, if_pos h, tB_ext, List.take_length, List.drop_one])
    go_wp2_with fail
    go_ret
    exact ⟨by rw [← HR.out]; rfl, Below.refl _ _⟩
  · have t : decide (s < 0) = false := decide_eq_false (by omega)
    by_cases h0 : s = 0
    · have t0 : (s == 0) = true := by simpa using h0
      have HR : Hid (negL l = l) := Lib.hid (by rw [HN.out, if_neg (by omega), if_pos h0])
      go_wp2_with fail
      refine HS.out.mono ?_
      rintro e w' ⟨rfl, rfl⟩
      go_wp2_with fail
      go_ret
      exact ⟨by rw [HR.out]; rfl, Below.refl _ _⟩
    · have t0 : (s == 0) = false := by simpa using h0
      have HR : Hid (tB [45] ++ tB l = tB (negL l)) := Lib.hid (by rw [HN.out, if_neg (by omega), if_neg h0, tB_app]; rfl)
      go_wp2_with fail
      refine HS.out.mono ?_
      rintro e w' ⟨rfl, rfl⟩
      go_wp2_with fail
      go_ret
      exact ⟨by rw [← HR.out]; rfl, Below.refl _ _⟩
def slL (l : List UInt8) : Nat := l.findIdx (· == 47)
def valL (l : List UInt8) : Int := l.foldl (fun a c => 10 * a + (c.toNat : Int) - 48) 0
def DigL (l : List UInt8) : Prop := ∀ c ∈ l, 48 ≤ c.toNat ∧ c.toNat ≤ 57
set_option maxRecDepth 100000 in
set_option maxHeartbeats 1000000 in
theorem rslash_any (w : World) (l : List UInt8) (hl : l.length ≤ 1000) : Calls Tryz.prog 65 #[.string (tB l)] w fun e w' => e = .returned (.int .i64 (slL l : Int)) ∧ w = w' := by
  have hsz : (tB l).size = l.length := tB_size l
  go_enter Tryz.func65, Tryz.ntmps65
  go_wp2_with fail
  go_loop [3] (fun i => ∃ k : Nat, k ≤ l.length ∧ i = .int .i64 k ∧ Hid (∀ j (h : j < l.length), j < k → l[j] ≠ 47)) (fun i => l.length - (intOf i).toNat)
  case atStart => exact ⟨0, Nat.zero_le _, rfl, fun j _ h => by omega⟩
  case round =>
    obtain ⟨k, hk, rfl, HV⟩ := hrel
    by_cases hlt : k < l.length
    · have hsk : k < (tB l).size := by omega
      have hat := tB_at l k hsk
      by_cases h47 : l[k] = 47
      · have HR : Hid (slL l = k) := Lib.hid (by
          rw [slL, List.findIdx_eq hlt]
          exact ⟨beq_iff_eq.2 h47, fun j hj => beq_eq_false_iff_ne.2 (HV.out j (by omega) hj)⟩)
        have t : ((((tB l)[k]'hsk).toNat : Int) == 47) = true := by
          have h : (tB l)[k]'hsk = 47 := hat.trans h47
          rw [h]; rfl
        clear hat h47
        go_wp2_with fail
        go_ret
        exact ⟨ret_i64 (by rw [HR.out]), rfl⟩
      · have t : ((((tB l)[k]'hsk).toNat : Int) == 47) = false := by
          rw [beq_eq_false_iff_ne]
          intro h
          exact h47 (hat.symm.trans (UInt8.toNat_inj.1 (show ((tB l)[k]'hsk).toNat = 47 by omega)))
        have HV2 : Hid (∀ j (h : j < l.length), j < k + 1 → l[j] ≠ 47) := Lib.hid (fun j h hj => by
          rcases Nat.lt_or_eq_of_le (Nat.le_of_lt_succ hj) with h' | h'
          · exact HV.out j h h'
          · subst h'; exact h47)
        clear hat h47
        go_wp2_with fail
        go_round
        case rel => exact ⟨k + 1, by omega, by go_num, HV2.out⟩
        case measure => simp [intOf]; omega
    · obtain rfl : k = l.length := by omega
      have HR : Hid (slL l = l.length) := Lib.hid (by
        rw [slL, List.findIdx_eq_length]
        intro c hc
        obtain ⟨j, hj, rfl⟩ := List.mem_iff_getElem.1 hc
        exact beq_eq_false_iff_ne.2 (HV.out j hj hj))
      have tkk : decide ((l.length : Int) < (l.length : Int)) = false := by simp
      go_wp2
      go_ret
      exact ⟨ret_i64 (by rw [HR.out]), rfl⟩
theorem valL_snoc {l : List UInt8} {k : Nat} (h : k < l.length) : valL (l.take (k + 1)) = 10 * valL (l.take k) + (l[k].toNat : Int) - 48 := by
  rw [List.take_succ_eq_append_getElem h, valL, List.foldl_append]; rfl
theorem valL_bd {l : List UInt8} (hd : DigL l) : ∀ k, k ≤ l.length → k ≤ 18 → 0 ≤ valL (l.take k) ∧ valL (l.take k) < 10 ^ k
  | 0, _, _ => by simp [valL]
  | k + 1, h, h18 => by
    have ih := valL_bd hd k (by omega) (by omega)
    have h2 := hd _ (List.getElem_mem (show k < l.length by omega))
    rw [valL_snoc (by omega), Int.pow_succ]
    omega
theorem valL_rng {l : List UInt8} (hd : DigL l) (k : Nat) (h : k ≤ l.length) (h18 : k ≤ 17) : 0 ≤ valL (l.take k) ∧ valL (l.take k) < 100000000000000000 := by
  have h1 := valL_bd hd k h (by omega)
  refine ⟨h1.1, Int.lt_of_lt_of_le h1.2 ?_⟩
  have h2 : (10 : Nat) ^ k ≤ 10 ^ 17 := Nat.pow_le_pow_right (by omega) h18
  have h3 : ((10 ^ k : Nat) : Int) ≤ ((10 ^ 17 : Nat) : Int) := Int.ofNat_le.2 h2
  have e : ((10 ^ k : Nat) : Int) = (10 : Int) ^ k := by simp
  rw [e] at h3
  exact h3
set_option maxRecDepth 100000 in
set_option maxHeartbeats 1000000 in
theorem rvalue_any (w : World) (l : List UInt8) (hd : DigL l) (hl : l.length ≤ 17) : Calls Tryz.prog 117 #[.string (tB l)] w fun e w' => e = .returned (.int .i64 (valL l)) ∧ w = w' := by
  have hsz : (tB l).size = l.length := tB_size l
  have HD := Lib.hid hd
  clear hd
  go_enter Tryz.func117, Tryz.ntmps117
  go_wp2_with fail
  go_loop [3, 4] (fun s i => ∃ k : Nat, k ≤ l.length ∧ i = .int .i64 k ∧ s = .int .i64 (valL (l.take k))) (fun s i => l.length - (intOf i).toNat)
  case atStart => exact ⟨0, Nat.zero_le _, rfl, rfl⟩
  case round =>
    obtain ⟨k, hk, rfl, rfl⟩ := hrel
    have hb := valL_rng HD.out k hk (by omega)
    by_cases hlt : k < l.length
    · have hsk : k < (tB l).size := by omega
      have hat := tB_at l k hsk
      have hc := HD.out _ (List.getElem_mem hlt)
      have HS := Lib.hid (valL_snoc hlt)
      generalize valL (l.take k) = s0 at *
      have hc2 : 48 ≤ ((tB l)[k]'hsk).toNat ∧ ((tB l)[k]'hsk).toNat ≤ 57 := by rw [hat]; exact hc
      rw [← hat] at HS
      clear hat hc
      go_wp2_with fail
      go_round
      case rel => exact ⟨k + 1, by omega, by go_num, by rw [HS.out]⟩
      case measure => simp [intOf]; omega
    · obtain rfl : k = l.length := by omega
      rw [List.take_length]
      have tkk : decide ((l.length : Int) < (l.length : Int)) = false := by simp
      go_wp2
      go_ret
      exact ⟨rfl, rfl⟩
end Go.Proofs.YtlffgdmljioaoaaGreatDoor
/- Fractions' texts: their digits, their sign. Plain. -/
namespace Go.Sheet
open Go.Proofs.YtlffgdmljioaoaaGreatDoor
theorem u8_dig {d : Nat} (h : d < 10) : (UInt8.ofNat (48 + d)).toNat = 48 + d := by
  rw [UInt8.toNat_ofNat']; omega
theorem dec_dig : ∀ n : Nat, DigL (Lib.decDigits n) := by
  intro n
  induction n using Nat.strongRecOn with
  | _ n ih =>
    rw [Lib.decDigits]
    intro c hc
    split at hc
    · rw [List.mem_singleton.1 hc, u8_dig (by assumption)]; omega
    · rcases List.mem_append.1 hc with hc | hc
      · exact ih (n / 10) (by omega) c hc
      · rw [List.mem_singleton.1 hc, u8_dig (Nat.mod_lt _ (by omega))]; omega
theorem valL_app (l : List UInt8) (c : UInt8) : valL (l ++ [c]) = 10 * valL l + (c.toNat : Int) - 48 := by
  rw [valL, List.foldl_append]; rfl
theorem dec_val : ∀ n : Nat, valL (Lib.decDigits n) = (n : Int) := by
  intro n
  induction n using Nat.strongRecOn with
  | _ n ih =>
    rw [Lib.decDigits]
    split
    · rename_i h
      have : valL ([] ++ [UInt8.ofNat (48 + n)]) = _ := valL_app [] _
      rw [List.nil_append] at this
      rw [this, u8_dig h]
      simp [valL]; omega
    · rename_i h
      rw [valL_app, ih (n / 10) (by omega), u8_dig (Nat.mod_lt _ (by omega))]
      omega
theorem dec_len : ∀ (k n : Nat), ((Lib.decDigits n).length ≤ k + 1 ↔ n < 10 ^ (k + 1)) := by
  intro k
  induction k with
  | zero =>
    intro n
    rw [Lib.decDigits]
    split
    · simp; omega
    · rename_i h
      rw [List.length_append, List.length_singleton]
      have h1 : 1 ≤ (Lib.decDigits (n / 10)).length := by
        rw [Lib.decDigits]; split <;> simp
      constructor
      · intro h2; omega
      · intro h2; omega
  | succ k ih =>
    intro n
    rw [Lib.decDigits]
    split
    · rename_i h
      have h1 : 1 ≤ 10 ^ (k + 1) := Nat.pos_of_ne_zero (by simp)
      rw [Nat.pow_succ]
      simp; omega
    · rename_i h
      rw [List.length_append, List.length_singleton]
      have := ih (n / 10)
      rw [Nat.pow_succ]
      omega
theorem dec_ne (n : Nat) : 1 ≤ (Lib.decDigits n).length := by
  rw [Lib.decDigits]; split <;> simp
/-- a fraction's text, its parts in lowest terms -/
def tPQ (P Q : Int) : List UInt8 := Lib.itoa P ++ (if Q = 1 then [] else 47 :: Lib.itoa Q)
/-- its part behind the sign -/
def bPQ (P Q : Int) : List UInt8 := Lib.decDigits P.natAbs ++ (if Q = 1 then [] else 47 :: Lib.decDigits Q.natAbs)
theorem tPQ_b {P Q : Int} (hQ : 1 ≤ Q) : tPQ P Q = if P < 0 then 45 :: bPQ P Q else bPQ P Q := by
  have e : Lib.itoa Q = Lib.decDigits Q.natAbs := by
    have := Lib.itoa_nonneg Q.natAbs
    rw [show ((Q.natAbs : Nat) : Int) = Q by omega] at this
    exact this
  unfold tPQ bPQ
  rw [e]
  by_cases h : P < 0
  · rw [if_pos h]
    have := Lib.itoa_neg P.natAbs (by omega)
    rw [show -((P.natAbs : Nat) : Int) = P by omega] at this
    rw [this]; rfl
  · rw [if_neg h]
    have := Lib.itoa_nonneg P.natAbs
    rw [show ((P.natAbs : Nat) : Int) = P by omega] at this
    rw [this]
theorem bPQ_sl (P Q : Int) : slL (bPQ P Q) = (Lib.decDigits P.natAbs).length := by
  have hno : ∀ c ∈ Lib.decDigits P.natAbs, (c == 47) = false := fun c hc => by
    have := dec_dig _ c hc
    rw [beq_eq_false_iff_ne]
    intro h; subst h
    have : (47 : UInt8).toNat = 47 := rfl
    omega
  unfold slL bPQ
  split
  · rw [List.append_nil, List.findIdx_eq_length]
    exact hno
  · rw [List.findIdx_append]
    have h1 : List.findIdx (· == 47) (Lib.decDigits P.natAbs) = (Lib.decDigits P.natAbs).length := List.findIdx_eq_length.2 hno
    rw [h1, if_neg (by omega)]
    have h2 : List.findIdx (· == 47) (47 :: Lib.decDigits Q.natAbs) = 0 := by rw [List.findIdx_cons]; rfl
    rw [h2, Nat.zero_add]
theorem low_tPQ (p q : Int) (hq : 1 ≤ q) : ∃ (P Q : Int), txtL p q = tPQ P Q ∧ 1 ≤ Q ∧ Q ≤ q ∧ P.natAbs ≤ p.natAbs ∧ Nat.gcd P.natAbs Q.natAbs = 1 ∧ P * q = p * Q := by
  obtain ⟨g, P, Q, hg1, _, hP, hQ, hQ1, hcop, hPa, hQa, htx⟩ := low_terms p q hq
  refine ⟨P, Q, htx, hQ1, hQa, hPa, hcop, ?_⟩
  rw [hP, hQ]
  ac_rfl
theorem tPQ_sgn {P Q : Int} (hQ : 1 ≤ Q) (hc : Nat.gcd P.natAbs Q.natAbs = 1) : sgnL (tPQ P Q) = if P < 0 then -1 else if P = 0 then 0 else 1 := by
  have h0 : P = 0 → Q = 1 := fun h => by
    subst h
    rw [show (0 : Int).natAbs = 0 from rfl, Nat.gcd_zero_left] at hc
    omega
  rw [tPQ_b hQ]
  by_cases h : P < 0
  · rw [if_pos h, if_pos h, sgnL, if_neg (by simp), if_pos (show (45 :: bPQ P Q).head? = some 45 from rfl)]
  · rw [if_neg h, if_neg h]
    by_cases hz : P = 0
    · rw [if_pos hz]
      have hq := h0 hz
      subst hz hq
      have : bPQ 0 1 = [48] := by rw [bPQ, if_pos rfl, List.append_nil, show (0 : Int).natAbs = 0 from rfl, Lib.decDigits, dif_pos (by omega)]; rfl
      rw [this, sgnL, if_pos rfl]
    · rw [if_neg hz]
      have hd : ∃ c t, Lib.decDigits P.natAbs = c :: t ∧ c ≠ 45 ∧ (c :: t ≠ [48]) := by
        have h1 := dec_ne P.natAbs
        cases hD : Lib.decDigits P.natAbs with
        | nil => rw [hD] at h1; simp at h1
        | cons c t =>
          refine ⟨c, t, rfl, fun e => ?_, fun e => ?_⟩
          · have := dec_dig P.natAbs c (by rw [hD]; simp)
            subst e
            have : (45 : UInt8).toNat = 45 := rfl
            omega
          · have h2 := dec_val P.natAbs
            rw [hD, e] at h2
            have h3 : valL [48] = 0 := rfl
            omega
      obtain ⟨c, t, hD, hc45, hne⟩ := hd
      rw [bPQ, hD, sgnL, if_neg, if_neg]
      · simpa using hc45
      · intro e
        by_cases hq : Q = 1
        · rw [if_pos hq, List.append_nil] at e; exact hne e
        · rw [if_neg hq] at e; simp at e
theorem tPQ_neg {P Q : Int} (hQ : 1 ≤ Q) (hc : Nat.gcd P.natAbs Q.natAbs = 1) : negL (tPQ P Q) = tPQ (-P) Q := by
  have hb : bPQ (-P) Q = bPQ P Q := by unfold bPQ; rw [Int.natAbs_neg]
  unfold negL
  rw [tPQ_sgn hQ hc, tPQ_b hQ, tPQ_b (P := -P) hQ, hb]
  by_cases h : P < 0
  · rw [if_pos h, if_pos h, if_pos (by decide), if_neg (by omega), List.tail_cons]
  · rw [if_neg h, if_neg h]
    by_cases hz : P = 0
    · rw [if_pos hz, if_neg (by decide), if_pos rfl, if_neg (by omega)]
    · rw [if_neg hz, if_neg (by decide), if_neg (by decide), if_pos (by omega)]
end Go.Sheet
/- Walk of the reference's quick. -/
namespace Go.Proofs.YtlffgdmljioaoaaGreatDoor
open Go.RowKit Go.Mem Go.Sheet
def RetQk (W : World) (ok : Bool) (P Q : Int) (e : Ending) (w' : World) : Prop :=
  e = .returned (.tuple #[.int .i64 (if ok then P else 0), .int .i64 (if ok then Q else 0), .bool ok]) ∧ W = w'
set_option maxRecDepth 100000 in
set_option maxHeartbeats 1000000 in
theorem rquick_any (w : World) (P Q : Int) (hP : P.natAbs < 10000000000) (hQ : 1 ≤ Q ∧ Q ≤ 9) : Calls Tryz.prog 73 #[.string (tB (tPQ P Q))] w (RetQk w (decide (P.natAbs < 1000000000)) P Q) := by
  obtain ⟨D, hD⟩ : ∃ D, D = Lib.decDigits P.natAbs := ⟨_, rfl⟩
  obtain ⟨T, hT⟩ : ∃ T : List UInt8, T = if Q = 1 then [] else 47 :: Lib.decDigits Q.natAbs := ⟨_, rfl⟩
  have hb : bPQ P Q = D ++ T := by rw [hD, hT]; rfl
  have hsl : slL (D ++ T) = D.length := by rw [← hb, bPQ_sl, ← hD]
  have ht := tPQ_b (P := P) (Q := Q) hQ.1
  rw [hb] at ht
  have hDl : D.length ≤ 10 := by rw [hD]; exact (dec_len 9 _).2 hP
  have hD1 : 1 ≤ D.length := by rw [hD]; exact dec_ne _
  have hD9 : D.length ≤ 9 ↔ P.natAbs < 1000000000 := by rw [hD]; exact dec_len 8 _
  have hDd : DigL D := by rw [hD]; exact dec_dig _
  have hDv : valL D = (P.natAbs : Int) := by rw [hD]; exact dec_val _
  have hQl : (Lib.decDigits Q.natAbs).length = 1 := by
    have h1 := (dec_len 0 Q.natAbs).2 (by omega)
    have h2 := dec_ne Q.natAbs
    omega
  have hTl : T.length = if Q = 1 then 0 else 2 := by rw [hT]; split <;> simp [hQl]
  have hTl2 : T.length ≤ 2 := by rw [hTl]; split <;> omega
  have HVD := Lib.hid (rvalue_any w D hDd (by omega))
  have HVQ := Lib.hid (rvalue_any w (Lib.decDigits Q.natAbs) (dec_dig _) (by omega))
  rw [hDv] at HVD
  rw [dec_val, show ((Q.natAbs : Nat) : Int) = Q by omega] at HVQ
  have HSL := Lib.hid (rslash_any w (D ++ T) (by rw [List.length_append]; omega))
  rw [hsl] at HSL
  have hsz1 : (tB (tPQ P Q)).size = (tPQ P Q).length := tB_size _
  have hsz2 : (tB (D ++ T)).size = (D ++ T).length := tB_size _
  have hlen : (tPQ P Q).length = (D ++ T).length + if P < 0 then 1 else 0 := by rw [ht]; split <;> simp
  have hlen2 : (D ++ T).length = D.length + T.length := List.length_append ..
  have hl20 : (tPQ P Q).length ≤ 13 := by rw [hlen, hlen2]; split <;> omega
  have hl1 : 0 < (tPQ P Q).length := by rw [hlen, hlen2]; omega
  have HNG : Hid (∀ h : 0 < (tB (tPQ P Q)).size, ((((tB (tPQ P Q))[0]'h).toNat : Int) == 45) = decide (P < 0)) := Lib.hid (fun h => by
    rw [tB_at]
    have hx : (tPQ P Q)[0]? = some ((tPQ P Q)[0]'hl1) := List.getElem?_eq_getElem hl1
    generalize (tPQ P Q)[0]'hl1 = c at *
    rw [ht] at hx
    by_cases hp : P < 0
    · rw [if_pos hp] at hx
      rw [decide_eq_true hp]
      cases hx; rfl
    · rw [if_neg hp] at hx
      rw [decide_eq_false hp, beq_eq_false_iff_ne]
      rw [List.getElem?_append_left (by omega)] at hx
      have := hDd c (List.mem_of_getElem? hx)
      omega)
  have HEX : Hid (P < 0 → (tB (tPQ P Q)).extract 1 (tPQ P Q).length = tB (D ++ T)) := Lib.hid (fun hp => by
    rw [tB_ext, List.take_length, ht, if_pos hp]; rfl)
  have HEN : Hid (¬ P < 0 → tB (tPQ P Q) = tB (D ++ T)) := Lib.hid (fun hp => by rw [ht, if_neg hp])
  have HE1 : Hid ((tB (D ++ T)).extract 0 D.length = tB D) := Lib.hid (by rw [tB_ext, List.take_left, List.drop_zero])
  have HE2 : Hid (Q ≠ 1 → (tB (D ++ T)).extract (D.length + 1) (D ++ T).length = tB (Lib.decDigits Q.natAbs)) := Lib.hid (fun h => by
    rw [tB_ext, List.take_length, hT, if_neg h, ← List.drop_drop, List.drop_left]
    rfl)
  have HTQ : Hid (T.length = if Q = 1 then 0 else 2) := Lib.hid hTl
  have H9 : Hid (decide (D.length ≤ 9) = decide (P.natAbs < 1000000000)) := Lib.hid (by rw [decide_eq_decide]; exact hD9)
  have hPl : -10000000000 ≤ P ∧ P ≤ 10000000000 := by omega
  have HPA : Hid ((P.natAbs : Int) = if P < 0 then -P else P) := Lib.hid (by split <;> omega)
  generalize decide (P.natAbs < 1000000000) = ok at *
  generalize (P.natAbs : Int) = PA at *
  have HLEN2 := Lib.hid hlen2
  clear hD hT hb hsl ht hDd hDv hQl hTl hP hD9 hlen hlen2
  generalize tPQ P Q = l at *
  generalize Lib.decDigits Q.natAbs = DQ at *
  have ng := HNG.out (by omega)
  obtain ⟨bn, hbn⟩ : ∃ bn, bn = decide (P < 0) := ⟨_, rfl⟩
  rw [← hbn] at ng
  have HBN := Lib.hid hbn
  clear hbn HNG
  go_enter Tryz.func73, Tryz.ntmps73
  go_upto_region 4 with fail
  go_cut [6] from 14 to 21 (fun d wx => d = .bool bn ∧ wx = w)
  case first =>
    have hsp : decide (0 < (l.length : Int)) = true := by simp; omega
    clear hsz2 hTl2 hDl hD1 hPl hQ
    go_wp2
    go_meet
    case rel => first
      | exact ⟨rfl, rfl⟩
      | (refine ⟨?_, rfl⟩; simp)
  case rest =>
    obtain ⟨rfl, rfl⟩ := hcut
    go_upto_if 22 with fail
    go_cut [5] from 22 to 24 (fun d wx => d = .string (tB (D ++ T)) ∧ wx = wc)
    case first =>
      by_cases hp : P < 0
      · obtain rfl : bn = true := by rw [HBN.out, decide_eq_true hp]
        have HX := Lib.hid (HEX.out hp)
        go_wp2
        go_meet
        case rel => exact ⟨by rw [HX.out], rfl⟩
      · obtain rfl : bn = false := by rw [HBN.out, decide_eq_false hp]
        have HX := Lib.hid (HEN.out hp)
        go_wp2
        go_meet
        case rel => exact ⟨by rw [HX.out], rfl⟩
    case rest =>
      obtain ⟨rfl, rfl⟩ := hcut
      go_wp2_with fail
      refine HSL.out.mono ?_
      rintro e w' ⟨rfl, rfl⟩
      have h9 := H9.out
      have hl2 : (D ++ T).length = D.length + T.length := HLEN2.out
      cases hok : ok with
      | false =>
        have t9 : decide (9 < (D.length : Int)) = true := by
          rw [hok, decide_eq_false_iff_not] at h9
          simp; omega
        subst hok
        clear h9
        go_wp2_with fail
        go_ret3
        exact ⟨rfl, rfl⟩
      | true =>
        have t9 : decide (9 < (D.length : Int)) = false := by
          rw [hok, decide_eq_true_eq] at h9
          simp; omega
        have t10 : decide (10 < (D.length : Int) + (T.length : Int) - (D.length : Int)) = false := by simp; omega
        subst hok
        clear h9
        go_wp2_with fail
        rw [HE1.out]
        refine HVD.out.mono ?_
        rintro e w' ⟨rfl, rfl⟩
        by_cases hq : Q = 1
        · have hT0 : T.length = 0 := by have := HTQ.out; rw [if_pos hq] at this; exact this
          have ts : decide ((D.length : Int) < (D.length : Int) + (T.length : Int)) = false := by simp; omega
          cases hbn : bn with
          | true =>
            have hp : P < 0 := by have := HBN.out; rw [hbn] at this; exact of_decide_eq_true this.symm
            have hpa := HPA.out
            rw [if_pos hp] at hpa
            have HPA2 : Hid (-PA = P) := Lib.hid (by omega)
            have hpb1 : 0 ≤ PA := by omega
            have hpb2 : PA ≤ 10000000000 := by omega
            subst hbn
            clear hpa hT0 hl2
            go_wp2_with fail
            go_ret3
            refine ⟨?_, rfl⟩
            show Ending.returned (.tuple #[.int .i64 (-PA), .int .i64 1, .bool true]) = .returned (.tuple #[.int .i64 P, .int .i64 Q, .bool true])
            rw [HPA2.out, hq]
          | false =>
            have hp : ¬ P < 0 := by have := HBN.out; rw [hbn] at this; exact of_decide_eq_false this.symm
            have hpa := HPA.out
            rw [if_neg hp] at hpa
            have HPA2 : Hid (PA = P) := Lib.hid (by omega)
            subst hbn
            clear hpa hT0 hl2
            go_wp2_with fail
            go_ret3
            refine ⟨?_, rfl⟩
            show Ending.returned (.tuple #[.int .i64 PA, .int .i64 1, .bool true]) = .returned (.tuple #[.int .i64 P, .int .i64 Q, .bool true])
            rw [HPA2.out, hq]
        · have hT0 : T.length = 2 := by have := HTQ.out; rw [if_neg hq] at this; exact this
          have HX2 := Lib.hid (HE2.out hq)
          rw [hl2, hT0] at HX2
          have ts : decide ((D.length : Int) < (D.length : Int) + 2) = true := by simp; omega
          go_wp2_with fail
          rw [HX2.out]
          refine HVQ.out.mono ?_
          rintro e w' ⟨rfl, rfl⟩
          cases hbn : bn with
          | true =>
            have hp : P < 0 := by have := HBN.out; rw [hbn] at this; exact of_decide_eq_true this.symm
            have hpa := HPA.out
            rw [if_pos hp] at hpa
            have HPA2 : Hid (-PA = P) := Lib.hid (by omega)
            have hpb1 : 0 ≤ PA := by omega
            have hpb2 : PA ≤ 10000000000 := by omega
            subst hbn
            clear hpa hT0 hl2
            go_wp2_with fail
            go_ret3
            refine ⟨?_, rfl⟩
            show Ending.returned (.tuple #[.int .i64 (-PA), .int .i64 Q, .bool true]) = .returned (.tuple #[.int .i64 P, .int .i64 Q, .bool true])
            rw [HPA2.out]
          | false =>
            have hp : ¬ P < 0 := by have := HBN.out; rw [hbn] at this; exact of_decide_eq_false this.symm
            have hpa := HPA.out
            rw [if_neg hp] at hpa
            have HPA2 : Hid (PA = P) := Lib.hid (by omega)
            subst hbn
            clear hpa hT0 hl2
            go_wp2_with fail
            go_ret3
            refine ⟨?_, rfl⟩
            show Ending.returned (.tuple #[.int .i64 PA, .int .i64 Q, .bool true]) = .returned (.tuple #[.int .i64 P, .int .i64 Q, .bool true])
            rw [HPA2.out]
end Go.Proofs.YtlffgdmljioaoaaGreatDoor
/- Walks of the reference's Sub and Cmp over a contract of Add; Add where both numerators are small. -/
namespace Go.Sheet
def sgnZ (z : Int) : Int := if z < 0 then -1 else if z = 0 then 0 else 1
end Go.Sheet
namespace Go.Proofs.YtlffgdmljioaoaaGreatDoor
open Go.RowKit Go.Mem Go.Sheet
/-- a text whose sign is the sum's -/
def RetSum (W : World) (z : Int) (e : Ending) (w' : World) : Prop := (∃ t : List UInt8, e = .returned (.string (tB t)) ∧ t.length ≤ 1000 ∧ sgnL t = sgnZ z) ∧ Below W.heap.size W w'
def AddOk : Prop := ∀ (w : World) (P Q P' Q' : Int), P.natAbs ≤ 6000000000 → (1 ≤ Q ∧ Q ≤ 6) → Nat.gcd P.natAbs Q.natAbs = 1 → P'.natAbs ≤ 6000000000 → (1 ≤ Q' ∧ Q' ≤ 6) → Nat.gcd P'.natAbs Q'.natAbs = 1 →
  Calls Tryz.prog 114 #[.string (tB (tPQ P Q)), .string (tB (tPQ P' Q'))] w (RetSum w (P * Q' + P' * Q))
theorem tPQ_len {P Q : Int} (hP : P.natAbs < 10000000000) (hQ : 1 ≤ Q ∧ Q ≤ 9) : (tPQ P Q).length ≤ 1000 := by
  have h1 := (dec_len 9 _).2 hP
  have h2 := (dec_len 0 Q.natAbs).2 (by omega)
  rw [tPQ_b hQ.1]
  have h3 : (bPQ P Q).length ≤ 13 := by
    unfold bPQ
    rw [List.length_append]
    split
    · simp; omega
    · simp; omega
  split
  · simp; omega
  · omega
set_option maxRecDepth 100000 in
set_option maxHeartbeats 1000000 in
theorem cmp_ok (HA : Hid AddOk) : CmpOk := by
  intro w p q p' q' hp hq hp' hq'
  obtain ⟨P, Q, e1, hQ1, hQq, hPp, hc, hcr⟩ := low_tPQ p q hq.1
  obtain ⟨P', Q', e1', hQ1', hQq', hPp', hc', hcr'⟩ := low_tPQ p' q' hq'.1
  have HSUM := Lib.hid (fun w => HA.out w P Q (-P') Q' (by omega) (by omega) hc (by rw [Int.natAbs_neg]; omega) (by omega) (by rw [Int.natAbs_neg]; exact hc'))
  have HNEG := Lib.hid (rneg_any w (tPQ P' Q') (tPQ_len (by omega) (by omega)))
  rw [tPQ_neg hQ1' hc'] at HNEG
  have HSG : Hid (0 < sgnZ (P * Q' + -P' * Q) ↔ p' * q < p * q') := Lib.hid (by
    have h1 : (P * Q' + -P' * Q) * (q * q') = (p * q' - p' * q) * (Q * Q') := by
      calc (P * Q' + -P' * Q) * (q * q') = (P * q) * (Q' * q') - (P' * q') * (Q * q) := by
            rw [Int.add_mul, Int.neg_mul, Int.neg_mul, ← Int.sub_eq_add_neg]
            congr 1 <;> ac_rfl
        _ = (p * Q) * (Q' * q') - (p' * Q') * (Q * q) := by rw [hcr, hcr']
        _ = (p * q' - p' * q) * (Q * Q') := by
            rw [Int.sub_mul]
            congr 1 <;> ac_rfl
    have h2 : 0 < q * q' := Int.mul_pos (by omega) (by omega)
    have h3 : 0 < Q * Q' := Int.mul_pos (by omega) (by omega)
    have h4 : 0 < sgnZ (P * Q' + -P' * Q) ↔ 0 < P * Q' + -P' * Q := by
      unfold sgnZ
      split
      · omega
      · split <;> omega
    rw [h4]
    constructor
    · intro h
      have h5 := Int.mul_pos h h2
      rw [h1] at h5
      have := Int.pos_of_mul_pos_left h5 h3
      omega
    · intro h
      have h5 := Int.mul_pos (show 0 < p * q' - p' * q by omega) h3
      rw [← h1] at h5
      exact Int.pos_of_mul_pos_left h5 h2)
  rw [e1, e1']
  have HSUB : Hid (Calls Tryz.prog 70 #[.string (tB (tPQ P Q)), .string (tB (tPQ P' Q'))] w (RetSum w (P * Q' + -P' * Q))) := Lib.hid (by
    clear e1 e1' hcr hcr' HSG
    go_enter Tryz.func70, Tryz.ntmps70
    go_wp2_with fail
    refine HNEG.out.mono ?_
    rintro e w2 ⟨rfl, hb2⟩
    have HB2 := Lib.hid hb2
    clear hb2
    go_wp2_with fail
    refine (HSUM.out w2).mono ?_
    rintro e w3 ⟨⟨t, rfl, htl, hts⟩, hb3⟩
    go_wp2
    go_ret
    exact ⟨⟨t, rfl, htl, hts⟩, HB2.out.trans (hb3.mono HB2.out.size)⟩)
  clear HSUM HNEG e1 e1' hcr hcr' hc hc'
  go_enter Tryz.func26, Tryz.ntmps26
  go_wp2_with fail
  refine HSUB.out.mono ?_
  rintro e w3 ⟨⟨t, rfl, htl, hts⟩, hb3⟩
  have HB3 := Lib.hid hb3
  have HTS := Lib.hid hts
  clear hb3 hts
  go_wp2_with fail
  refine (rsign_any w3 t htl).mono ?_
  rintro e w' ⟨rfl, rfl⟩
  go_wp2
  go_ret
  exact ⟨⟨_, rfl, by rw [HTS.out]; exact HSG.out⟩, HB3.out⟩
end Go.Proofs.YtlffgdmljioaoaaGreatDoor
/- Walk of the reference's Add where both numerators are small. -/
namespace Go.Sheet
open Go.Proofs.YtlffgdmljioaoaaGreatDoor
theorem mul_bdQ {a b A B : Int} (ha : -A ≤ a ∧ a ≤ A) (hb : 1 ≤ b ∧ b ≤ B) (hA : 0 ≤ A) : -(A * B) ≤ a * b ∧ a * b ≤ A * B := by
  have h1 : A * b ≤ A * B := Int.mul_le_mul_of_nonneg_left hb.2 hA
  have h2 : a * b ≤ A * b := Int.mul_le_mul_of_nonneg_right ha.2 (by omega)
  have h3 : -A * b ≤ a * b := Int.mul_le_mul_of_nonneg_right ha.1 (by omega)
  rw [Int.neg_mul] at h3
  omega
theorem txt_sgn {z d : Int} (hd : 1 ≤ d) : sgnL (txtL z d) = sgnZ z := by
  obtain ⟨P, Q, e1, hQ1, hQq, hPp, hc, hcr⟩ := low_tPQ z d hd
  rw [e1, tPQ_sgn hQ1 hc, sgnZ]
  by_cases h : P < 0
  · have h1 : P * d < 0 := Int.mul_neg_of_neg_of_pos h (by omega)
    have h2 : z < 0 := by
      refine Int.not_le.1 fun hz => ?_
      have := Int.mul_nonneg hz (show (0 : Int) ≤ Q by omega)
      omega
    rw [if_pos h, if_pos h2]
  · rw [if_neg h]
    by_cases h0 : P = 0
    · have h2 : z = 0 := by
        rw [h0, Int.zero_mul] at hcr
        rcases Int.mul_eq_zero.1 hcr.symm with h | h
        · exact h
        · omega
      rw [if_pos h0, h2]; rfl
    · have h1 : 0 < P * d := Int.mul_pos (by omega) (by omega)
      have h2 : 0 < z := by
        refine Int.not_le.1 fun hz => ?_
        have h3 : 0 ≤ (-z) * Q := Int.mul_nonneg (by omega) (by omega)
        rw [Int.neg_mul] at h3
        omega
      rw [if_neg h0, if_neg (by omega), if_neg (by omega)]
theorem txt_len {z d : Int} (hd : 1 ≤ d) (hz : z.natAbs ≤ 1000000000000 ∧ d ≤ 1000000000) : (txtL z d).length ≤ 1000 := by
  obtain ⟨P, Q, e1, hQ1, hQq, hPp, hc, hcr⟩ := low_tPQ z d hd
  rw [e1, tPQ_b hQ1]
  have h1 := (dec_len 12 P.natAbs).2 (show P.natAbs < 10000000000000 by omega)
  have h2 := (dec_len 9 Q.natAbs).2 (show Q.natAbs < 10000000000 by omega)
  have h3 : (bPQ P Q).length ≤ 40 := by
    unfold bPQ
    rw [List.length_append]
    split
    · simp; omega
    · simp; omega
  split
  · simp; omega
  · omega
end Go.Sheet
namespace Go.Proofs.YtlffgdmljioaoaaGreatDoor
open Go.RowKit Go.Mem Go.Sheet
set_option maxRecDepth 100000 in
set_option maxHeartbeats 1000000 in
theorem radd_quick (w : World) (P Q P' Q' : Int) (hP : P.natAbs < 1000000000) (hQ : 1 ≤ Q ∧ Q ≤ 6) (hP' : P'.natAbs < 1000000000) (hQ' : 1 ≤ Q' ∧ Q' ≤ 6) :
    Calls Tryz.prog 114 #[.string (tB (tPQ P Q)), .string (tB (tPQ P' Q'))] w (RetSum w (P * Q' + P' * Q)) := by
  have q1 := rquick_any w P Q (by omega) (by omega)
  have q2 := rquick_any w P' Q' (by omega) (by omega)
  rw [decide_eq_true hP] at q1
  rw [decide_eq_true hP'] at q2
  have Q1 : Hid (Calls Tryz.prog 73 #[.string (tB (tPQ P Q))] w fun e w' => e = .returned (.tuple #[.int .i64 P, .int .i64 Q, .bool true]) ∧ w = w') := Lib.hid q1
  have Q2 : Hid (Calls Tryz.prog 73 #[.string (tB (tPQ P' Q'))] w fun e w' => e = .returned (.tuple #[.int .i64 P', .int .i64 Q', .bool true]) ∧ w = w') := Lib.hid q2
  have b1 := mul_bdQ (a := P) (b := Q') (A := 1000000000) (B := 6) (by omega) hQ' (by omega)
  have b2 := mul_bdQ (a := P') (b := Q) (A := 1000000000) (B := 6) (by omega) hQ (by omega)
  have b3 := mul_bdQ (a := Q) (b := Q') (A := 6) (B := 6) (by omega) hQ' (by omega)
  have b4 : 1 ≤ Q * Q' := Int.mul_pos (by omega) (by omega)
  have HOF := Lib.hid (rof_any w (P * Q' + P' * Q) (Q * Q') (by omega) (by omega))
  have HS : Hid (sgnL (txtL (P * Q' + P' * Q) (Q * Q')) = sgnZ (P * Q' + P' * Q)) := Lib.hid (txt_sgn b4)
  have HL : Hid ((txtL (P * Q' + P' * Q) (Q * Q')).length ≤ 1000) := Lib.hid (txt_len b4 (by omega))
  clear q1 q2 hP hP'
  generalize tPQ P Q = la at *
  generalize tPQ P' Q' = lb at *
  go_enter Tryz.func114, Tryz.ntmps114
  go_wp2_with fail
  refine Q1.out.mono ?_
  rintro e w' ⟨rfl, rfl⟩
  go_wp2_with fail
  refine Q2.out.mono ?_
  rintro e w' ⟨rfl, rfl⟩
  go_wp2_with fail
  refine HOF.out.mono ?_
  rintro e w2 ⟨rfl, hb2⟩
  go_wp2
  go_ret
  exact ⟨⟨_, rfl, HL.out, HS.out⟩, hb2⟩
end Go.Proofs.YtlffgdmljioaoaaGreatDoor
