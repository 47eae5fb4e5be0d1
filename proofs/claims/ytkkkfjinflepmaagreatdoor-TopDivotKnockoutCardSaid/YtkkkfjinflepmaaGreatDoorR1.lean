/- What a statement's argument is: a list of lists of integers, opened from the row's data. -/
import Derived.Test.YtkkkfjinflepmaaGreatDoorI1
import Derived.Test.YtkkkfjinflepmaaGreatDoorK2
set_option linter.unusedVariables false
set_option linter.unusedSimpArgs false
set_option linter.unusedSectionVars false
set_option linter.constructorNameAsVariable false
namespace Go.Mem
open Go.RowKit Go.Deep Go.Adj Go.ChangeShapes Go.WideShapes
section
variable {H : Type} {enc : TypeId × Value → H} {P : Program} {w : World} {base : Nat} {spare : Nat → Bool} {held : Bool}
instance : Inhabited (Value × List Int) := ⟨(.int .i64 0, [])⟩
theorem rd_of_rows {t e q : TypeId} {fuel : Nat} {v : Value} {x : DataW H × List MemPlace} (ht : P.underlying t = some (.slice e)) (he : P.underlying e = some (.slice q)) (hq : P.underlying q = some (.int .i64)) (hce : P.cellsOf e = 1) (hcq : P.cellsOf q = 1)
    (h : DataW.trod enc P w base spare held fuel t [v] = some x) (hw : ∀ u ∈ x.1.weights P t, u ≤ reachBytes) :
    ∃ (n : Nat) (ms : List (List Int)), ∃ vs : List Value, Rd w (· < w.heap.size) 1 v n vs ∧ ms.length = n ∧ ∀ (i : Nat) (r : List Int), ms[i]? = some r → ∃ u, vs[i]? = some u ∧ Rd w (· < w.heap.size) 1 u r.length (r.map (Value.int .i64)) := by
  obtain ⟨n, l, h1, h2, h3⟩ := rd_of_slice (α := Value × List Int) (f := fun z => [z.1]) (R := fun z => Rd w (· < w.heap.size) 1 z.1 z.2.length (z.2.map (Value.int .i64)) ∧ (∀ u ∈ z.2, (Lit.int .i64 u).wf = true) ∧ z.2.length * P.bytesOf q ≤ reachBytes) (size := 1) (by omega) ht hce (fun _ => rfl) (fun n cs y hl hy hwy => by
    match cs, hl with
    | [a], _ =>
      obtain ⟨m, r, g1, g2, g3⟩ := rd_of_ints he hq hcq hy hwy
      have hm : m = r.length := g1.count1
      subst hm
      exact ⟨(a, r), rfl, g1, g2, g3⟩) h hw
  have e1 : l.flatMap (fun z => [z.1]) = (l.map (·.1)).map id := by
    clear h1 h2
    induction l with
    | nil => rfl
    | cons a l ih => rw [List.flatMap_cons, ih]; rfl
  rw [e1] at h1
  have hn : n = l.length := by have := h1.len; simpa using this.symm
  subst hn
  rw [List.map_id] at h1
  refine ⟨l.length, l.map (·.2), l.map (·.1), h1, by rw [List.length_map], fun i r hr => ?_⟩
  rw [List.getElem?_map, Option.map_eq_some_iff] at hr
  obtain ⟨z, hz, rfl⟩ := hr
  exact ⟨z.1, by rw [List.getElem?_map, hz]; rfl, (h2 z (List.mem_of_getElem? hz)).1⟩
end
end Go.Mem
namespace Go.Proofs.YtkkkfjinflepmaaGreatDoor
open Go.RowKit Go.Mem Go.Adj Go.Deep Go.ChangeShapes Go.WideShapes
section
variable {H : Type} {enc : TypeId × Value → H} {W : World}
set_option maxRecDepth 100000 in
theorem arg_rows {v : Value} {d : DataW H} {ps : List MemPlace} (h : DataW.Trod enc Tryz.prog W 0 (fun _ => true) true 54 v d ps) (hw : ∀ u ∈ d.weights Tryz.prog 54, u ≤ reachBytes) (hv : v.cells.toList = [v]) :
    ∃ (n : Nat) (ls : List (List Int)), RdLL W (· < W.heap.size) v n ls := by
  obtain ⟨f, hf⟩ := h
  rw [hv] at hf
  obtain ⟨n, l, vs, h1, h2, h3⟩ := rd_of_rows Tryz.underlying54 Tryz.underlying43 Tryz.underlying3 (by kernel_rfl) (by kernel_rfl) hf hw
  exact ⟨n, l, vs, h1, h2, h3⟩
end
end Go.Proofs.YtkkkfjinflepmaaGreatDoor
