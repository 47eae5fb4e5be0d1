/- Chapter 5: niblickref01.SameInts. -/
import Derived.Test.YtbakoldmfpbnaaaGreatDoorB29
set_option linter.unusedVariables false
set_option linter.unusedSimpArgs false
set_option linter.unusedSectionVars false
set_option linter.constructorNameAsVariable false
namespace Go.Proofs.YtbakoldmfpbnaaaGreatDoor
open Go.RowKit Go.Mem Go.Sheet Go.Adj
set_option maxHeartbeats 400000 in
theorem sameInts_any (w : World) (F F' : Nat → Prop) (va vb : Value) (a b : List Int) (ha : Rd w F 1 va a.length (a.map (Value.int .i64))) (hb : Rd w F' 1 vb b.length (b.map (Value.int .i64))) :
    Calls Tryz.prog 13 #[va, vb] w fun r w' => r = .returned (.bool (decide (a = b))) ∧ ∃ n, w' = w.drewN n := by
  generalize HL : a.length = n at *
  generalize HM : b.length = m at *
  have hn := ha.le
  have hm := hb.le
  obtain ⟨A, c, rfl, _, _, ha⟩ := ha.open_
  obtain ⟨A', c', rfl, _, _, hb⟩ := hb.open_
  have HL := Lib.hid HL
  have HM := Lib.hid HM
  go_enter Tryz.func13, Tryz.ntmps13
  by_cases hnm : n = m
  · subst hnm
    go_wp2
    go_loopw [5] (fun i w' => ∃ (k q : Nat), k ≤ n ∧ i = .int .i64 k ∧ w' = w.drewN q ∧ Hid (∀ j, j < k → a[j]? = b[j]?)) (fun i _ => n - (intOf i).toNat)
    case atStart => exact ⟨0, 0, Nat.zero_le _, rfl, rfl, fun j hj => by omega⟩
    case round =>
      obtain ⟨k, q, hk, rfl, rfl, he⟩ := hrel
      by_cases hlt : k < n
      · obtain ⟨b1, o, x, rfl, hx, hc⟩ := ha.int hlt
        obtain ⟨b2, o2, y, rfl, hy, hd⟩ := hb.int hlt
        have HX := Lib.hid hx
        have HY := Lib.hid hy
        clear hx hy
        go_wp2_with fail
        go_quiet (fail)
        go_wp2
        · go_ret
          exact ⟨ret_bool (by
            have hne : x ≠ y := by simpa using ‹(x != y) = true›
            rw [eq_comm, decide_eq_false_iff_not]
            rintro rfl
            exact hne (Option.some.inj (HX.out.symm.trans HY.out))), _, World.drewN_drewN _ _ _⟩
        · go_roundw
          case rel => exact ⟨k + 1, _, by omega, by go_num, rfl, fun j hj => by
            by_cases e : j = k
            · subst e; rw [HX.out, HY.out, show x = y by simpa using ‹(x != y) = false›]
            · exact he.out j (by omega)⟩
          case measure => simp [intOf]; omega
      · go_wp2
        go_ret
        exact ⟨ret_bool (by
          rw [eq_comm, decide_eq_true_iff]
          refine List.ext_getElem? fun j => ?_
          by_cases hj : j < k
          · exact he.out j hj
          · rw [List.getElem?_eq_none (by have := HL.out; omega), List.getElem?_eq_none (by have := HM.out; omega)]), q, rfl⟩
  · have hne : ((n : Int) != (m : Int)) = true := by simp; omega
    have HNE := Lib.hid hnm
    clear hnm
    go_wp2
    go_ret
    exact ⟨ret_bool (by
      rw [eq_comm, decide_eq_false_iff_not]
      rintro rfl
      exact HNE.out (HL.out.symm.trans HM.out)), 0, rfl⟩
end Go.Proofs.YtbakoldmfpbnaaaGreatDoor
