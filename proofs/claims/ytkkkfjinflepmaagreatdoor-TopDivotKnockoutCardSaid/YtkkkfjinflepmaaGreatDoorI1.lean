/- What a statement's arguments are: a list of integers, opened from the row's data. -/
import Derived.Test.YtkkkfjinflepmaaGreatDoorB45
import Derived.Test.YtkkkfjinflepmaaGreatDoorB10
import Derived.Test.YtkkkfjinflepmaaGreatDoorB01
set_option linter.unusedVariables false
set_option linter.unusedSimpArgs false
set_option linter.unusedSectionVars false
set_option linter.constructorNameAsVariable false
namespace Go.Mem
open Go.RowKit Go.Deep Go.Adj Go.ChangeShapes Go.WideShapes
section
variable {H : Type} {enc : TypeId × Value → H} {P : Program} {w : World} {base : Nat} {spare : Nat → Bool} {held : Bool}
instance : Inhabited Int := ⟨0⟩
theorem rd_of_ints {t e : TypeId} {fuel : Nat} {v : Value} {x : DataW H × List MemPlace} (ht : P.underlying t = some (.slice e)) (he : P.underlying e = some (.int .i64)) (hc : P.cellsOf e = 1)
    (h : DataW.trod enc P w base spare held fuel t [v] = some x) (hw : ∀ u ∈ x.1.weights P t, u ≤ reachBytes) :
    ∃ n, ∃ l : List Int, Rd w (· < w.heap.size) 1 v n (l.map (Value.int .i64)) ∧ (∀ z ∈ l, (Lit.int .i64 z).wf = true) ∧ n * P.bytesOf e ≤ reachBytes := by
  obtain ⟨n, l, h1, h2, h3⟩ := rd_of_slice (α := Int) (f := fun z => [.int .i64 z]) (R := fun z => (Lit.int .i64 z).wf = true) (size := 1) (by omega) ht hc (fun _ => rfl) (fun n cs y _ hy _ => by
    obtain ⟨z, rfl, _, hz⟩ := DataW.trod_int he hy
    exact ⟨z, rfl, hz⟩) h hw
  refine ⟨n, l, ?_, h2, h3⟩
  have e : ∀ l : List Int, l.flatMap (fun z => [Value.int .i64 z]) = l.map (Value.int .i64) := by
    intro l
    induction l with
    | nil => rfl
    | cons a l ih => rw [List.flatMap_cons, ih]; rfl
  rwa [e] at h1
end
end Go.Mem
namespace Go.Proofs.YtkkkfjinflepmaaGreatDoor
open Go.RowKit Go.Mem Go.Adj Go.Deep Go.ChangeShapes Go.WideShapes
theorem gl_getD (l : List Int) : gl (fun i => l.getD i 0) l.length = l := by
  unfold gl
  apply List.ext_getElem?
  intro i
  rw [List.getElem?_map]
  rcases Nat.lt_or_ge i l.length with h | h
  · rw [List.getElem?_range h, List.getElem?_eq_getElem h]
    show some (l.getD i 0) = _
    rw [List.getD_eq_getElem?_getD, List.getElem?_eq_getElem h]; rfl
  · rw [List.getElem?_eq_none (by simpa using h), List.getElem?_eq_none h]; rfl
section
variable {H : Type} {enc : TypeId × Value → H} {W : World}
set_option maxRecDepth 100000 in
theorem slice_cells {t e : TypeId} {r : Reach} {base : Nat} (ht : Tryz.prog.underlying t = some (.slice e)) {v : Value} (h : Value.okWide Tryz.prog W r base t v) : v.cells.toList = [v] := by
  obtain ⟨a, n, c, rfl⟩ := okWide_slice ht h
  show (#[Value.slice a n c] : Array Value).toList = _
  simp only []
set_option maxRecDepth 100000 in
theorem arg_ints {v : Value} {d : DataW H} {ps : List MemPlace} (h : DataW.Trod enc Tryz.prog W 0 (fun _ => true) true 43 v d ps) (hw : ∀ u ∈ d.weights Tryz.prog 43, u ≤ reachBytes) (hv : v.cells.toList = [v]) :
    ∃ (n : Nat) (g : Nat → Int), Rd W (· < W.heap.size) 1 v n (intsI (gl g n)) := by
  obtain ⟨f, hf⟩ := h
  rw [hv] at hf
  obtain ⟨n, l, h1, _, _⟩ := rd_of_ints Tryz.underlying43 Tryz.underlying3 (by kernel_rfl) hf hw
  have hn : n = l.length := h1.count1
  refine ⟨n, fun i => l.getD i 0, ?_⟩
  rw [hn, gl_getD, ← hn]
  exact h1
end
end Go.Proofs.YtkkkfjinflepmaaGreatDoor
