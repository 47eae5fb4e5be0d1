/- Part 22 of the walks of the golf union's program: DE8. -/
import Derived.Test.YtkkkfjinflepmaaGreatDoorB21
set_option linter.unusedVariables false
set_option linter.unusedSimpArgs false
set_option linter.unusedSectionVars false
set_option linter.constructorNameAsVariable false
/- Chapter 7: no match is open. -/
namespace Go.Proofs.YtkkkfjinflepmaaGreatDoor
open Go.RowKit Go.Mem Go.Sheet Go.Adj
set_option maxHeartbeats 400000 in
theorem indexNo (w : World) (F : Nat → Prop) (v : Value) (n : Nat) (G : Nat → Bool) (h : Rd w F 1 v n (pairV Value.bool G n)) (hG : ∀ i, i < n → G i = false) :
    Calls Tryz.prog 98 #[v, .bool true] w fun r w' => r = .returned (.int .i64 (-1)) ∧ w = w' := by
  have hn := h.le
  obtain ⟨A, c, rfl, _, _, h⟩ := h.open_
  have H := Lib.hid h
  have HG := Lib.hid hG
  clear h hG
  go_enter Tryz.func98, Tryz.ntmps98
  go_wp2
  go_loop [8] (fun i => ∃ k : Nat, k ≤ n ∧ i = .int .i64 k) (fun i => n - (intOf i).toNat)
  case atStart => exact ⟨0, Nat.zero_le _, rfl⟩
  case round =>
    obtain ⟨k, hk, rfl⟩ := hrel
    by_cases hlt : k < n
    · obtain ⟨b, o, u, hA, _, hu, hc⟩ := H.out.at_ hlt
      subst hA
      have e1 : (pairV Value.bool G n)[k]? = some (.bool (G k)) := by unfold pairV; rw [List.getElem?_map, List.getElem?_range hlt]; rfl
      rw [e1, HG.out k hlt] at hu
      cases hu
      clear e1
      go_wp2
      go_round
      case rel => exact ⟨k + 1, by omega, by go_num⟩
      case measure => simp [intOf]; omega
    · go_wp2
      go_ret
      exact ⟨rfl, rfl⟩
set_option maxHeartbeats 400000 in
theorem containsNo (w : World) (F : Nat → Prop) (v : Value) (n : Nat) (G : Nat → Bool) (h : Rd w F 1 v n (pairV Value.bool G n)) (hG : ∀ i, i < n → G i = false) :
    Calls Tryz.prog 56 #[v, .bool true] w fun r w' => r = .returned (.bool false) ∧ w = w' := by
  have HI := Lib.hid (indexNo w F v n G h hG)
  clear h hG
  go_enter Tryz.func56, Tryz.ntmps56
  go_wp2_with fail
  go_at_call 98
  refine HI.out.mono ?_
  rintro e w' ⟨rfl, rfl⟩
  go_wp2_with fail
  go_ret
  exact ⟨rfl, rfl⟩
/-- those who are in the slots -/
def pres (S : List (Option Nat)) : List Nat := S.filterMap id
theorem pres_none {S : List (Option Nat)} {k : Nat} (h : S[k]? = some none) : pres (S.take (k + 1)) = pres (S.take k) := by
  unfold pres
  rw [List.take_add_one, h, List.filterMap_append]
  simp
theorem pres_some {S : List (Option Nat)} {k p : Nat} (h : S[k]? = some (some p)) : pres (S.take (k + 1)) = pres (S.take k) ++ [p] := by
  unfold pres
  rw [List.take_add_one, h, List.filterMap_append]
  simp
theorem pres_pre (S : List (Option Nat)) (k : Nat) : ∃ r, pres S = pres (S.take k) ++ r := by
  unfold pres
  refine ⟨(S.drop k).filterMap id, ?_⟩
  rw [← List.filterMap_append, List.take_append_drop]
/-- at a slot that is not free: the next name of those who are in the slots -/
theorem pres_at {S : List (Option Nat)} {k p : Nat} (h : S[k]? = some (some p)) (hn : (pres S).Nodup) :
    (pres S).getD (pres (S.take k)).length 0 = p ∧ (pres (S.take (k + 1))).length = (pres (S.take k)).length + 1 ∧ ∀ j, j < (pres (S.take k)).length → (pres S).getD j 0 ≠ p := by
  obtain ⟨r, hr⟩ := pres_pre S (k + 1)
  rw [pres_some h] at hr ⊢
  rw [hr] at hn ⊢
  rw [List.append_assoc] at hn ⊢
  refine ⟨by simp, by simp, fun j hj e => ?_⟩
  rw [List.nodup_append] at hn
  refine hn.2.2 p ?_ p (by simp) rfl
  rw [← e]
  have : ((pres (S.take k)) ++ ([p] ++ r)).getD j 0 = (pres (S.take k))[j] := by
    rw [List.getD_eq_getElem?_getD, List.getElem?_append_left hj, List.getElem?_eq_getElem hj]; rfl
  rw [this]
  exact List.getElem_mem hj
theorem mem_getD {l : List Nat} {p : Nat} (h : p ∈ l) : ∃ i, i < l.length ∧ l.getD i 0 = p := by
  obtain ⟨i, hi, e⟩ := List.mem_iff_getElem.1 h
  exact ⟨i, hi, by rw [List.getD_eq_getElem?_getD, List.getElem?_eq_getElem hi]; exact e⟩
theorem getD_mem {l : List Nat} {i : Nat} (h : i < l.length) : l.getD i 0 ∈ l := by
  rw [List.getD_eq_getElem?_getD, List.getElem?_eq_getElem h]; exact List.getElem_mem h
end Go.Proofs.YtkkkfjinflepmaaGreatDoor
