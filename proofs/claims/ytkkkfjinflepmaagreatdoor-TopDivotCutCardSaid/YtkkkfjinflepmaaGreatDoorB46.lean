/- Part 46 of the walks of the golf union's program: ArgD. -/
import Derived.Test.YtkkkfjinflepmaaGreatDoorB45
import Derived.Test.YtkkkfjinflepmaaGreatDoorB06
import Derived.Test.YtkkkfjinflepmaaGreatDoorB01
set_option linter.unusedVariables false
set_option linter.unusedSimpArgs false
set_option linter.unusedSectionVars false
set_option linter.constructorNameAsVariable false
/- What the statement's argument is: a field of holes and players, opened from the row's data (as in ArgF). -/
namespace Go.Proofs.YtkkkfjinflepmaaGreatDoor
open Go.RowKit Go.Mem Go.Adj Go.Deep Go.ChangeShapes Go.WideShapes
section
variable {H : Type} {enc : TypeId × Value → H} {w : World} {base : Nat} {spare : Nat → Bool} {held : Bool}
set_option maxRecDepth 100000 in
theorem play_of {n : Nat} {cs : List Value} {y : DataW H × List MemPlace} (hl : cs.length = 3) (hy : DataW.trod enc Tryz.prog w base spare held n 37 cs = some y) (hw : ∀ u ∈ y.1.weights Tryz.prog 37, u ≤ reachBytes) :
    ∃ z : PI, cs = z.cells ∧ (Rd w (· < w.heap.size) 2 (.slice z.a z.m z.c) z.m (z.es.flatMap EI.cells) ∧ z.name.size ≤ 9223372036854775807) := by
  obtain ⟨y0, y1, m, hye, _, h0, h1⟩ := trod_struct2 Tryz.underlying37 hy
  match cs, hl with
  | [a, b, c], _ =>
    dsimp only at h0 h1
    rw [show Tryz.prog.cellsOf 35 = 2 by kernel_rfl] at h0
    rw [show Tryz.prog.cellsOf 3 = 1 by kernel_rfl] at h1
    have h0' : DataW.trod enc Tryz.prog w base spare held m 35 (#[a, b] : Array Value).toList = some y0 := h0
    obtain ⟨s, ve, k, l, hcs, r1, r2, _, _⟩ := rd_of_card (te := 33) (e := 138) Tryz.underlying35 (by kernel_rfl) (cs := #[a, b]) (by kernel_rfl) ⟨by kernel_rfl, by kernel_rfl⟩ ⟨by kernel_rfl, by kernel_rfl⟩ ⟨by kernel_rfl, by kernel_rfl⟩
      Tryz.underlying33 Tryz.underlying138 (by kernel_rfl) ⟨by kernel_rfl, by kernel_rfl⟩ ⟨by kernel_rfl, by kernel_rfl⟩ ⟨by kernel_rfl, by kernel_rfl⟩ h0' (fun u hu => hw u (by
        rw [hye]
        simp only [DataW.weights, Tryz.underlying37, List.map_cons, List.map_nil, DataW.weightsEach]
        simp only [List.mem_append]
        exact .inl hu))
    obtain ⟨z, e0, _, _⟩ := DataW.trod_int Tryz.underlying3 h1
    simp at hcs e0
    obtain ⟨rfl, rfl⟩ := hcs
    subst e0
    obtain ⟨A, c, rfl, _, _, r2⟩ := r2.open_
    exact ⟨⟨s, A, k, c, l, z⟩, rfl, r2, r1⟩
set_option maxRecDepth 100000 in
theorem arg_players {n : Nat} {v : Value} {x : DataW H × List MemPlace} (h : DataW.trod enc Tryz.prog w base spare held n 23 [v] = some x) (hw : ∀ u ∈ x.1.weights Tryz.prog 23, u ≤ reachBytes) :
    ∃ (m : Nat) (ps : List PI), RdPl w (· < w.heap.size) v m ps ∧ m * 48 ≤ 140737488351232 := by
  obtain ⟨m, ps, h1, h2, h3⟩ := rd_of_slice (α := PI) (f := PI.cells) (size := 3) (R := fun z => Rd w (· < w.heap.size) 2 (.slice z.a z.m z.c) z.m (z.es.flatMap EI.cells) ∧ z.name.size ≤ 9223372036854775807) (by omega) Tryz.underlying23 (by kernel_rfl) (fun _ => rfl) (fun n cs y hl hy hu => play_of hl hy hu) h hw
  refine ⟨m, ps, ⟨h1, h2⟩, ?_⟩
  rw [show Tryz.prog.bytesOf 37 = 48 by kernel_rfl] at h3
  exact h3
set_option maxRecDepth 100000 in
theorem arg_field {n : Nat} {cs : Array Value} {x : DataW H × List MemPlace} (hl : cs.size = Tryz.prog.cellsOf 25) (h : DataW.trod enc Tryz.prog w base spare held n 25 cs.toList = some x) (hw : ∀ u ∈ x.1.weights Tryz.prog 25, u ≤ reachBytes) :
    ∃ (v vp : Value) (n m : Nat) (hs : List HI) (ps : List PI), cs = #[v, vp] ∧ Rd w (· < w.heap.size) 2 v n (hs.flatMap HI.cells) ∧ RdPl w (· < w.heap.size) vp m ps ∧ m * 48 ≤ 140737488351232 := by
  obtain ⟨y0, y1, m, hye, _, h0, h1⟩ := trod_struct2 Tryz.underlying25 h
  rw [show Tryz.prog.cellsOf 25 = 2 by kernel_rfl] at hl
  match cs, hl with
  | ⟨[a, b]⟩, _ =>
    dsimp only at h0 h1
    rw [show Tryz.prog.cellsOf 22 = 1 by kernel_rfl] at h0
    rw [show Tryz.prog.cellsOf 23 = 1 by kernel_rfl] at h1
    obtain ⟨n, hs, r1, _, _⟩ := rd_of_holes Tryz.underlying22 Tryz.underlying147 (by kernel_rfl) ⟨by kernel_rfl, by kernel_rfl⟩ ⟨by kernel_rfl, by kernel_rfl⟩ ⟨by kernel_rfl, by kernel_rfl⟩ (show DataW.trod enc Tryz.prog w base spare held m 22 [a] = some y0 from h0) (fun u hu => hw u (by
        rw [hye]
        simp only [DataW.weights, Tryz.underlying25, List.map_cons, List.map_nil, DataW.weightsEach]
        simp only [List.mem_append]
        exact .inl hu))
    obtain ⟨k, ps, r2, r3⟩ := arg_players (show DataW.trod enc Tryz.prog w base spare held m 23 [b] = some y1 from h1) (fun u hu => hw u (by
        rw [hye]
        simp only [DataW.weights, Tryz.underlying25, List.map_cons, List.map_nil, DataW.weightsEach]
        simp only [List.mem_append]
        exact .inr (.inl hu)))
    exact ⟨a, b, n, k, hs, ps, rfl, r1, r2, r3⟩
end
end Go.Proofs.YtkkkfjinflepmaaGreatDoor
