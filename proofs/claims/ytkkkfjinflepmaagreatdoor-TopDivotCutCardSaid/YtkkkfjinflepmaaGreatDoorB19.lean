/- Part 19 of the walks of the golf union's program: DE5. -/
import Derived.Test.YtkkkfjinflepmaaGreatDoorB18
set_option linter.unusedVariables false
set_option linter.unusedSimpArgs false
set_option linter.unusedSectionVars false
set_option linter.constructorNameAsVariable false
/- Chapter 7: who stays; pairs. -/
namespace Go.Mem
open Go.RowKit Go.MapKept
theorem run_lookupS2 {P : Program} {w : World} (t : TypeId) (k e : TypeId) (hk : P.underlying k = some .string) (ht : P.underlying t = some (.map k e)) {b clock : Nat} {es : Array MapEntry} (hb : w.heap[b]? = some (.map es clock))
    (key : ByteArray) (j : Nat) (v : Value) (hf : Instr.findNow .string (.string key) es.toList 0 = some (some (j, v))) :
    (Instr.lookup t (.map (some b)) (.string key) false).run P w = .ok v w := by
  have hkk : MapKept.IsKey .string (.string key) := trivial
  simp [Instr.lookup, run_underlying ht, MapKept.run_getObj_map hb, MapKept.run_checkKey hk hkk, MapKept.run_findKey hk hf, Result.andThen]
theorem seen_some {f : Nat → ByteArray} {key : ByteArray} : ∀ (l : List Nat) (j : Nat), (∃ i ∈ l, f i = key) → ∃ j', Instr.findNow .string (.string key) (l.map fun i => ({ key := .string (f i), val := .bool true, born := i } : MapEntry)) j = some (some (j', .bool true))
  | [], _, h => by obtain ⟨i, hi, _⟩ := h; cases hi
  | i :: l, j, h => by
    rw [List.map_cons, Instr.findNow]
    by_cases hk : f i = key
    · have h1 : Instr.sameNow .string (.string key) (.string (f i)) = some true := by
        show some (key == f i) = some true
        rw [hk]
        obtain ⟨d⟩ := key
        have : (d == d) = true := beq_self_eq_true d
        exact congrArg some this
      simp only [h1]
      exact ⟨_, rfl⟩
    · have h1 : Instr.sameNow .string (.string key) (.string (f i)) = some false := by
        show some (key == f i) = some false
        have hb : (key == f i) = false := by
          rw [Bool.eq_false_iff]
          intro e
          apply hk
          generalize f i = z at *
          obtain ⟨d⟩ := key
          obtain ⟨d'⟩ := z
          have : (d == d') = true := e
          rw [eq_of_beq this]
        rw [hb]
      simp only [h1]
      refine seen_some l (j + 1) ?_
      obtain ⟨x, hx, hxk⟩ := h
      rcases List.mem_cons.1 hx with rfl | hx
      · exact absurd hxk hk
      · exact ⟨x, hx, hxk⟩
theorem seenE_some {f : Nat → ByteArray} {key : ByteArray} {k : Nat} (h : ∃ i, i < k ∧ f i = key) : ∃ j, Instr.findNow .string (.string key) (seenE f k).toList 0 = some (some (j, .bool true)) := by
  unfold seenE
  obtain ⟨i, hi, hk⟩ := h
  exact seen_some _ 0 ⟨i, List.mem_range.2 hi, hk⟩
end Go.Mem
namespace Go.Proofs.YtkkkfjinflepmaaGreatDoor
open Go.RowKit Go.Mem Go.Sheet Go.Adj
theorem lookN {w : World} {b clock k : Nat} {f : Nat → ByteArray} {s : ByteArray} (hb : w.heap[b]? = some (.map (seenE f k) clock)) {o : Bool} (h1 : o = true → ∃ i, i < k ∧ f i = s) (h2 : o = false → ∀ i, i < k → f i ≠ s) :
    (Instr.lookup 110 (.map (some b)) (.string s) false).run Tryz.prog w = .ok (.bool o) w := by
  cases o
  · exact run_lookupS_none 110 9 4 Tryz.underlying9 Tryz.underlying110 zeroB hb s (seenE_none (h2 rfl))
  · obtain ⟨j, hj⟩ := seenE_some (h1 rfl)
    exact run_lookupS2 110 9 4 Tryz.underlying9 Tryz.underlying110 hb s j _ hj
set_option maxRecDepth 100000 in
set_option maxHeartbeats 4000000 in
theorem stays_no (w : World) (p : Value) : Calls Tryz.prog 53 #[.string ⟨#[]⟩, p] w fun e w' => e = .returned (.bool false) ∧ w = w' := by
  go_enter Tryz.func53, Tryz.ntmps53
  go_wp2_with fail
  go_ret
  exact ⟨rfl, rfl⟩
set_option maxRecDepth 100000 in
set_option maxHeartbeats 4000000 in
theorem stays_yes (w : World) (gp b : Nat) (s : ByteArray) (o : Bool) (hs : s ≠ ⟨#[]⟩) (h0 : w.cell? ⟨gp, 0, none⟩ = some (.map (some b))) (hl : (Instr.lookup 110 (.map (some b)) (.string s) false).run Tryz.prog w = .ok (.bool o) w) :
    Calls Tryz.prog 53 #[.string s, .pointer (some ⟨gp, 0, none⟩)] w fun e w' => e = .returned (.bool (!o)) ∧ w = w' := by
  have t1 : s.toList.isEmpty = false := bytes_ne0 hs
  clear hs
  go_enter Tryz.func53, Tryz.ntmps53
  go_wp2_with fail
  go_ret
  exact ⟨rfl, rfl⟩
end Go.Proofs.YtkkkfjinflepmaaGreatDoor
