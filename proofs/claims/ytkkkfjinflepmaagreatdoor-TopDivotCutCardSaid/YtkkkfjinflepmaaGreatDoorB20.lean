/- Part 20 of the walks of the golf union's program: DE6. -/
import Derived.Test.YtkkkfjinflepmaaGreatDoorB19
set_option linter.unusedVariables false
set_option linter.unusedSimpArgs false
set_option linter.unusedSectionVars false
set_option linter.constructorNameAsVariable false
/- Chapter 7: the closures of Advance; pairs of neighbours. -/
namespace Go.Proofs.YtkkkfjinflepmaaGreatDoor
open Go.RowKit Go.Mem Go.Sheet Go.Adj
set_option maxRecDepth 100000 in
set_option maxHeartbeats 4000000 in
theorem open_any (w : World) (gs gp : Nat) (sa sb : ByteArray) (ra rb : Bool) (h0 : w.cell? ⟨gs, 0, none⟩ = some (.func (.func 53) #[] #[.pointer (some ⟨gp, 0, none⟩)]))
    (ha : Calls Tryz.prog 53 #[.string sa, .pointer (some ⟨gp, 0, none⟩)] w fun e w' => e = .returned (.bool ra) ∧ w = w')
    (hb : Calls Tryz.prog 53 #[.string sb, .pointer (some ⟨gp, 0, none⟩)] w fun e w' => e = .returned (.bool rb) ∧ w = w') :
    Calls Tryz.prog 55 #[.string sa, .string sb, .pointer (some ⟨gs, 0, none⟩)] w fun e w' => e = .returned (.bool (ra && rb)) ∧ w = w' := by
  have HA := Lib.hid ha
  have HB := Lib.hid hb
  clear ha hb
  have hE := enters Tryz.func53 (by kernel_rfl) rfl
  unfold Enters at hE
  go_enter Tryz.func55, Tryz.ntmps55
  go_wp2_with fail
  refine HA.out.mono ?_
  rintro e w' ⟨rfl, rfl⟩
  cases ra
  · go_wp2_with fail
    go_ret
    exact ⟨rfl, rfl⟩
  · go_wp2_with fail
    refine HB.out.mono ?_
    rintro e w' ⟨rfl, rfl⟩
    go_wp2_with fail
    go_ret
    exact ⟨rfl, rfl⟩
set_option maxRecDepth 100000 in
set_option maxHeartbeats 4000000 in
theorem choose_any (w : World) (gs gp : Nat) (sa sb : ByteArray) (ra rb : Bool) (h0 : w.cell? ⟨gs, 0, none⟩ = some (.func (.func 53) #[] #[.pointer (some ⟨gp, 0, none⟩)]))
    (ha : Calls Tryz.prog 53 #[.string sa, .pointer (some ⟨gp, 0, none⟩)] w fun e w' => e = .returned (.bool ra) ∧ w = w')
    (hb : Calls Tryz.prog 53 #[.string sb, .pointer (some ⟨gp, 0, none⟩)] w fun e w' => e = .returned (.bool rb) ∧ w = w') :
    Calls Tryz.prog 58 #[.string sa, .string sb, .pointer (some ⟨gs, 0, none⟩)] w fun e w' => e = .returned (.string (if ra then sa else if rb then sb else ⟨#[]⟩)) ∧ w = w' := by
  have HA := Lib.hid ha
  have HB := Lib.hid hb
  clear ha hb
  have hE := enters Tryz.func53 (by kernel_rfl) rfl
  unfold Enters at hE
  go_enter Tryz.func58, Tryz.ntmps58
  go_wp2_with fail
  refine HA.out.mono ?_
  rintro e w' ⟨rfl, rfl⟩
  cases ra
  · go_wp2_with fail
    refine HB.out.mono ?_
    rintro e w' ⟨rfl, rfl⟩
    cases rb
    · go_wp2_with fail
      go_ret
      exact ⟨rfl, rfl⟩
    · go_wp2_with fail
      go_ret
      exact ⟨rfl, rfl⟩
  · go_wp2_with fail
    go_ret
    exact ⟨rfl, rfl⟩
end Go.Proofs.YtkkkfjinflepmaaGreatDoor
