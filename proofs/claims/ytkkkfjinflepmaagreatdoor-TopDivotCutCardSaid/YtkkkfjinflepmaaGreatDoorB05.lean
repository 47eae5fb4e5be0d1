/- Part 5 of the walks of the golf union's program: DE1. -/
import Derived.Test.YtkkkfjinflepmaaGreatDoorB04
import Derived.Test.YtkkkfjinflepmaaGreatDoorB03
set_option linter.unusedVariables false
set_option linter.unusedSimpArgs false
set_option linter.unusedSectionVars false
set_option linter.constructorNameAsVariable false
/- Chapter 7: the small functions of event. -/
namespace Go.Proofs.YtkkkfjinflepmaaGreatDoor
open Go.RowKit Go.Mem Go.Sheet Go.Adj
theorem eventWhen_any (b : Bool) (e : Int) (w : World) : Calls Tryz.prog 52 #[.bool b, .int .i64 e] w fun r w' => r = .returned (.int .i64 (whenE b e)) ∧ w = w' := by
  go_enter Tryz.func52, Tryz.ntmps52
  cases b
  all_goals
    go_wp2
    go_ret
    exact ⟨rfl, rfl⟩
set_option maxHeartbeats 400000 in
theorem eventFirst_any (w : World) (F : Nat → Prop) (v : Value) (n : Nat) (es : List Int) (h : Rd w F 1 v n (es.map (Value.int .i64))) :
    Calls Tryz.prog 37 #[v] w fun r w' => r = .returned (.int .i64 (fst es)) ∧ w = w' := by
  have HL := Lib.hid h.count1
  have hn := h.le
  obtain ⟨A, c, rfl, _, _, h⟩ := h.open_
  go_enter Tryz.func37, Tryz.ntmps37
  go_wp2
  go_loop [7] (fun i => ∃ k : Nat, k ≤ n ∧ i = .int .i64 k ∧ Hid (fst (es.drop k) = fst es)) (fun i => n - (intOf i).toNat)
  case atStart => exact ⟨0, Nat.zero_le _, rfl, rfl⟩
  case round =>
    obtain ⟨k, hk, rfl, he⟩ := hrel
    by_cases hlt : k < n
    · obtain ⟨b, o, x, rfl, hx, hc⟩ := h.int hlt
      have HX := Lib.hid hx
      clear hx
      go_wp2
      · go_ret
        exact ⟨ret_i64 (fst_stop HX.out (by simpa using ‹(x != 0) = true›) he.out), rfl⟩
      · go_round
        case rel => exact ⟨k + 1, by omega, by go_num, fst_go HX.out (by simpa using ‹(x != 0) = false›) he.out⟩
        case measure => simp [intOf]; omega
    · go_wp2
      go_ret
      obtain rfl : k = n := by omega
      exact ⟨ret_i64 (fst_end (Nat.le_of_eq HL.out.symm) he.out).symm, rfl⟩
theorem eventFirst2 (w : World) (g : Nat) (a b : Int) (hg : g < w.heap.size) (h0 : w.cell? ⟨g, 0, none⟩ = some (.int .i64 a)) (h1 : w.cell? ⟨g, 1, none⟩ = some (.int .i64 b)) :
    Calls Tryz.prog 37 #[.slice (some ⟨g, 0, none⟩) 2 2] w fun r w' => r = .returned (.int .i64 (fst [a, b])) ∧ w = w' :=
  eventFirst_any w (fun _ => True) _ 2 [a, b] (rd_cells hg (by simp) fun j u hu => by
    match j, hu with
    | 0, hu => cases hu; exact h0
    | 1, hu => cases hu; exact h1)
theorem eventNo (e : Int) (w : World) : Calls Tryz.prog 52 #[.bool false, .int .i64 e] w fun r w' => r = .returned (.int .i64 0) ∧ w = w' := eventWhen_any false e w
theorem eventOk2 (w : World) (g : Nat) (hg : g < w.heap.size) (h0 : w.cell? ⟨g, 0, none⟩ = some (.int .i64 0)) (h1 : w.cell? ⟨g, 1, none⟩ = some (.int .i64 0)) :
    Calls Tryz.prog 37 #[.slice (some ⟨g, 0, none⟩) 2 2] w fun r w' => r = .returned (.int .i64 0) ∧ w = w' := eventFirst2 w g 0 0 hg h0 h1
end Go.Proofs.YtkkkfjinflepmaaGreatDoor
