/- Part 21 of the walks of the golf union's program: DE7. -/
import Derived.Test.YtkkkfjinflepmaaGreatDoorB20
set_option linter.unusedVariables false
set_option linter.unusedSimpArgs false
set_option linter.unusedSectionVars false
set_option linter.constructorNameAsVariable false
/- Chapter 7: pairs of neighbours (printed by gen_pair.py). -/
namespace Go.Proofs.YtkkkfjinflepmaaGreatDoor
open Go.RowKit Go.Mem Go.Sheet Go.Adj
theorem eltBoolD : Elt Tryz.prog 113 4 (.bool false) 1 1 := ⟨Tryz.underlying113, by kernel_rfl, rfl, by decide⟩
def pairV {α : Type} (c : α → Value) (G : Nat → α) (k : Nat) : List Value := (List.range k).map fun i => c (G i)
theorem pairV_snoc {α : Type} (c : α → Value) (G : Nat → α) (k : Nat) : pairV c G (k + 1) = pairV c G k ++ [c (G k)] := by unfold pairV; rw [List.range_succ, List.map_append]; rfl
set_option maxRecDepth 100000 in
set_option maxHeartbeats 4000000 in
theorem pairedB_ok (W w : World) (L : List Asr) (S : St W w L) (n m : Nat) (v : Value) (nm : Nat → ByteArray) (hnm : n = 2 * m) (hm : m ≤ 1000) (h : Rd W (· < W.heap.size) 1 v n (strsV nm n)) (F : FuncId) (gs : Nat) (hE : Enters Tryz.prog F) (G : Nat → Bool)
    (hc : ∀ i, i < m → ∀ w', St W w' L → Calls Tryz.prog F #[.string (nm (2 * i)), .string (nm (2 * i + 1)), .pointer (some ⟨gs, 0, none⟩)] w' fun e w2 => e = .returned (Value.bool (G i)) ∧ w' = w2) :
    Calls Tryz.prog 54 #[v, .func (.func F) #[] #[.pointer (some ⟨gs, 0, none⟩)]] w fun e w' => ∃ v', e = .returned v' ∧ St W w' (L ++ [row 4 1 v' m (pairV Value.bool G m)]) := by
  obtain ⟨A, c, rfl, _, _, _⟩ := h.open_
  have H := Lib.hid h
  have HC := Lib.hid hc
  have S1 := S.row_nil 4 1
  have HS1 := Lib.hid S1
  clear S S1 h hc
  unfold Enters at hE
  go_enter Tryz.func54, Tryz.ntmps54
  go_wp2_with fail
  go_loopw [5, 6] (fun v' i w' => ∃ k : Nat, k ≤ m ∧ i = .int .i64 (2 * (k : Int)) ∧ St W w' (L ++ [row 4 1 v' k (pairV Value.bool G k)])) (fun _ i _ => m - (intOf i).toNat / 2)
  case atStart => exact ⟨0, Nat.zero_le _, rfl, HS1.out⟩
  case round =>
    obtain ⟨k, hk, rfl, S⟩ := hrel
    clear HS1
    by_cases hlt : k < m
    · obtain ⟨b, o, u, hA, hb, hu, d0⟩ := (H.out.later S.bel).at_ (k := 2 * k) (by omega)
      obtain ⟨b', o', u', hA', _, hu', d1⟩ := (H.out.later S.bel).at_ (k := 2 * k + 1) (by omega)
      subst hA
      cases hA'
      rw [strsV_at nm (by omega)] at hu hu'
      cases hu
      cases hu'
      have HE0 : Hid (∀ w', Below W.heap.size W w' → w'.cell? ⟨b, o + 2 * k, none⟩ = some (.string (nm (2 * k)))) := fun w' hb' => by
        obtain ⟨b2, o2, u2, hA2, _, hu2, d2⟩ := (H.out.later hb').at_ (k := 2 * k) (by omega)
        cases hA2
        rw [strsV_at nm (by omega)] at hu2
        cases hu2
        exact d2
      have HE1 : Hid (∀ w', Below W.heap.size W w' → w'.cell? ⟨b, o + (2 * k + 1), none⟩ = some (.string (nm (2 * k + 1)))) := fun w' hb' => by
        obtain ⟨b2, o2, u2, hA2, _, hu2, d2⟩ := (H.out.later hb').at_ (k := 2 * k + 1) (by omega)
        cases hA2
        rw [strsV_at nm (by omega)] at hu2
        cases hu2
        exact d2
      clear d0 d1
      have HCK : Hid (∀ w', St W w' L → Calls Tryz.prog F #[.string (nm (2 * k)), .string (nm (2 * k + 1)), .pointer (some ⟨gs, 0, none⟩)] w' fun e w2 => e = .returned (Value.bool (G k)) ∧ w' = w2) := HC.out k hlt
      have HPV := Lib.hid (pairV_snoc Value.bool G k)
      generalize nm (2 * k) = sa at *
      generalize nm (2 * k + 1) = sb at *
      generalize G k = gk at *
      have t1 : decide (2 * (k : Int) + 1 < (n : Int)) = true := decide_eq_true (by omega)
      have t2 : decide (2 * (k : Int) < 0) = false := decide_eq_false (by omega)
      have t3 : decide ((n : Int) ≤ 2 * (k : Int)) = false := decide_eq_false (by omega)
      have t4 : decide (2 * (k : Int) + 1 < 0) = false := decide_eq_false (by omega)
      have t5 : decide ((n : Int) ≤ 2 * (k : Int) + 1) = false := decide_eq_false (by omega)
      have q1 : 0 ≤ 2 * (k : Int) := by omega
      have q2 : 2 * (k : Int) < (n : Int) := by omega
      have q3 : 0 ≤ 2 * (k : Int) + 1 := by omega
      have q4 : 2 * (k : Int) + 1 < (n : Int) := by omega
      have n1 : (2 * (k : Int)).toNat = 2 * k := by omega
      have n2 : (2 * (k : Int) + 1).toNat = 2 * k + 1 := by omega
      have S2 := S.drew
      have HNM := Lib.hid hnm
      clear S hnm HC
      go_wp2_with fail
      refine wp_pre_tail 1 12 (fun w' => St W w' (L ++ [row 4 1 u5 k (pairV Value.bool G k)])) (by kernel_rfl) (by kernel_rfl) S2 ?_
      simp only [List.take_succ_cons, List.take_zero, List.drop_succ_cons, List.drop_zero, Nat.reduceSub]
      generalize hK : (fun w' => St W w' (L ++ [row 4 1 u5 k (pairV Value.bool G k)])) = K
      intro hne
      have kS : ∀ y : Wd K, St W y.w (L ++ [row 4 1 u5 k (pairV Value.bool G k)]) := by subst hK; exact fun y => y.h
      have k0 : ∀ y : Wd K, y.w.cell? ⟨b, o + 2 * k, none⟩ = some (.string sa) := fun y => HE0.out y.w (kS y).bel
      have k1 : ∀ y : Wd K, y.w.cell? ⟨b, o + (2 * k + 1), none⟩ = some (.string sb) := fun y => HE1.out y.w (kS y).bel
      have KS := Lib.hid kS
      clear hK kS S2
      change wpQuiet _ _ _ _ (_ :: []) _
      iterate 1 (go_big_quiet_step ((fail)))
      refine wpQuiet_nil ?_
      iterate 10 (go_big_quiet_step ((fail)))
      go_big_quiet_step ((exact cls_same (HCK.out _ ((KS.out _).sub (List.sublist_append_left ..)))))
      refine wpQuiet_nil ?_
      intro y
      have HSY := Lib.hid ((KS.out y).alloc (.cells #[Value.bool gk] 4))
      have HIX : Hid ((L ++ [row 4 1 u5 k (pairV Value.bool G k)])[L.length]? = some (row 4 1 u5 k (pairV Value.bool G k))) := by show _ = _; simp
      clear k0 k1 KS hne
      generalize y.w = w3 at *
      go_wp2_with (at_builtin; refine wpList_append_st eltBoolD rfl _ _ rfl rfl HSY.out HIX.out rfl (rd_one (by simp)) (by simp [Value.oneCell']) (by omega) (by omega) ?_; intro v' w' S' _)
      refine NoPanic.normal ?_
      have HSZ := Lib.hid S'
      clear S' HSY
      go_wp2_with fail
      go_roundw
      case rel =>
        refine ⟨k + 1, by omega, by go_num, ?_⟩
        rw [HPV.out]
        have := HSZ.out
        simpa using this
      case measure => simp [intOf]; omega
    · obtain rfl : m = k := by omega
      have HS := Lib.hid S
      have t1 : decide (2 * (m : Int) + 1 < (n : Int)) = false := decide_eq_false (by omega)
      have HNM := Lib.hid hnm
      clear S hnm
      go_wp2_with fail
      go_ret
      exact ⟨_, rfl, HS.out⟩
set_option maxRecDepth 100000 in
set_option maxHeartbeats 4000000 in
theorem pairedS_ok (W w : World) (L : List Asr) (S : St W w L) (n m : Nat) (v : Value) (nm : Nat → ByteArray) (hnm : n = 2 * m) (hm : m ≤ 1000) (h : Rd W (· < W.heap.size) 1 v n (strsV nm n)) (F : FuncId) (gs : Nat) (hE : Enters Tryz.prog F) (G : Nat → ByteArray)
    (hc : ∀ i, i < m → ∀ w', St W w' L → Calls Tryz.prog F #[.string (nm (2 * i)), .string (nm (2 * i + 1)), .pointer (some ⟨gs, 0, none⟩)] w' fun e w2 => e = .returned (Value.string (G i)) ∧ w' = w2) :
    Calls Tryz.prog 57 #[v, .func (.func F) #[] #[.pointer (some ⟨gs, 0, none⟩)]] w fun e w' => ∃ v', e = .returned v' ∧ St W w' (L ++ [row 9 1 v' m (pairV Value.string G m)]) := by
  obtain ⟨A, c, rfl, _, _, _⟩ := h.open_
  have H := Lib.hid h
  have HC := Lib.hid hc
  have S1 := S.row_nil 9 1
  have HS1 := Lib.hid S1
  clear S S1 h hc
  unfold Enters at hE
  go_enter Tryz.func57, Tryz.ntmps57
  go_wp2_with fail
  go_loopw [5, 6] (fun v' i w' => ∃ k : Nat, k ≤ m ∧ i = .int .i64 (2 * (k : Int)) ∧ St W w' (L ++ [row 9 1 v' k (pairV Value.string G k)])) (fun _ i _ => m - (intOf i).toNat / 2)
  case atStart => exact ⟨0, Nat.zero_le _, rfl, HS1.out⟩
  case round =>
    obtain ⟨k, hk, rfl, S⟩ := hrel
    clear HS1
    by_cases hlt : k < m
    · obtain ⟨b, o, u, hA, hb, hu, d0⟩ := (H.out.later S.bel).at_ (k := 2 * k) (by omega)
      obtain ⟨b', o', u', hA', _, hu', d1⟩ := (H.out.later S.bel).at_ (k := 2 * k + 1) (by omega)
      subst hA
      cases hA'
      rw [strsV_at nm (by omega)] at hu hu'
      cases hu
      cases hu'
      have HE0 : Hid (∀ w', Below W.heap.size W w' → w'.cell? ⟨b, o + 2 * k, none⟩ = some (.string (nm (2 * k)))) := fun w' hb' => by
        obtain ⟨b2, o2, u2, hA2, _, hu2, d2⟩ := (H.out.later hb').at_ (k := 2 * k) (by omega)
        cases hA2
        rw [strsV_at nm (by omega)] at hu2
        cases hu2
        exact d2
      have HE1 : Hid (∀ w', Below W.heap.size W w' → w'.cell? ⟨b, o + (2 * k + 1), none⟩ = some (.string (nm (2 * k + 1)))) := fun w' hb' => by
        obtain ⟨b2, o2, u2, hA2, _, hu2, d2⟩ := (H.out.later hb').at_ (k := 2 * k + 1) (by omega)
        cases hA2
        rw [strsV_at nm (by omega)] at hu2
        cases hu2
        exact d2
      clear d0 d1
      have HCK : Hid (∀ w', St W w' L → Calls Tryz.prog F #[.string (nm (2 * k)), .string (nm (2 * k + 1)), .pointer (some ⟨gs, 0, none⟩)] w' fun e w2 => e = .returned (Value.string (G k)) ∧ w' = w2) := HC.out k hlt
      have HPV := Lib.hid (pairV_snoc Value.string G k)
      generalize nm (2 * k) = sa at *
      generalize nm (2 * k + 1) = sb at *
      generalize G k = gk at *
      have t1 : decide (2 * (k : Int) + 1 < (n : Int)) = true := decide_eq_true (by omega)
      have t2 : decide (2 * (k : Int) < 0) = false := decide_eq_false (by omega)
      have t3 : decide ((n : Int) ≤ 2 * (k : Int)) = false := decide_eq_false (by omega)
      have t4 : decide (2 * (k : Int) + 1 < 0) = false := decide_eq_false (by omega)
      have t5 : decide ((n : Int) ≤ 2 * (k : Int) + 1) = false := decide_eq_false (by omega)
      have q1 : 0 ≤ 2 * (k : Int) := by omega
      have q2 : 2 * (k : Int) < (n : Int) := by omega
      have q3 : 0 ≤ 2 * (k : Int) + 1 := by omega
      have q4 : 2 * (k : Int) + 1 < (n : Int) := by omega
      have n1 : (2 * (k : Int)).toNat = 2 * k := by omega
      have n2 : (2 * (k : Int) + 1).toNat = 2 * k + 1 := by omega
      have S2 := S.drew
      have HNM := Lib.hid hnm
      clear S hnm HC
      go_wp2_with fail
      refine wp_pre_tail 1 12 (fun w' => St W w' (L ++ [row 9 1 u5 k (pairV Value.string G k)])) (by kernel_rfl) (by kernel_rfl) S2 ?_
      simp only [List.take_succ_cons, List.take_zero, List.drop_succ_cons, List.drop_zero, Nat.reduceSub]
      generalize hK : (fun w' => St W w' (L ++ [row 9 1 u5 k (pairV Value.string G k)])) = K
      intro hne
      have kS : ∀ y : Wd K, St W y.w (L ++ [row 9 1 u5 k (pairV Value.string G k)]) := by subst hK; exact fun y => y.h
      have k0 : ∀ y : Wd K, y.w.cell? ⟨b, o + 2 * k, none⟩ = some (.string sa) := fun y => HE0.out y.w (kS y).bel
      have k1 : ∀ y : Wd K, y.w.cell? ⟨b, o + (2 * k + 1), none⟩ = some (.string sb) := fun y => HE1.out y.w (kS y).bel
      have KS := Lib.hid kS
      clear hK kS S2
      change wpQuiet _ _ _ _ (_ :: []) _
      iterate 1 (go_big_quiet_step ((fail)))
      refine wpQuiet_nil ?_
      iterate 10 (go_big_quiet_step ((fail)))
      go_big_quiet_step ((exact cls_same (HCK.out _ ((KS.out _).sub (List.sublist_append_left ..)))))
      refine wpQuiet_nil ?_
      intro y
      have HSY := Lib.hid ((KS.out y).alloc (.cells #[Value.string gk] 9))
      have HIX : Hid ((L ++ [row 9 1 u5 k (pairV Value.string G k)])[L.length]? = some (row 9 1 u5 k (pairV Value.string G k))) := by show _ = _; simp
      clear k0 k1 KS hne
      generalize y.w = w3 at *
      go_wp2_with (at_builtin; refine wpList_append_st eltStrD rfl _ _ rfl rfl HSY.out HIX.out rfl (rd_one (by simp)) (by simp [Value.oneCell']) (by omega) (by omega) ?_; intro v' w' S' _)
      refine NoPanic.normal ?_
      have HSZ := Lib.hid S'
      clear S' HSY
      go_wp2_with fail
      go_roundw
      case rel =>
        refine ⟨k + 1, by omega, by go_num, ?_⟩
        rw [HPV.out]
        have := HSZ.out
        simpa using this
      case measure => simp [intOf]; omega
    · obtain rfl : m = k := by omega
      have HS := Lib.hid S
      have t1 : decide (2 * (m : Int) + 1 < (n : Int)) = false := decide_eq_false (by omega)
      have HNM := Lib.hid hnm
      clear S hnm
      go_wp2_with fail
      go_ret
      exact ⟨_, rfl, HS.out⟩
end Go.Proofs.YtkkkfjinflepmaaGreatDoor
