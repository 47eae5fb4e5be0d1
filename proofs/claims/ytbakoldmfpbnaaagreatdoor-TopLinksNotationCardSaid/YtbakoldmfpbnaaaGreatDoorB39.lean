/- Part 39 of the walks of the golf union's program: ArgF. -/
import Derived.Test.YtbakoldmfpbnaaaGreatDoorB38
import Derived.Test.YtbakoldmfpbnaaaGreatDoorB32
import Derived.Test.YtbakoldmfpbnaaaGreatDoorB07
import Derived.Test.YtbakoldmfpbnaaaGreatDoorB02
import Derived.HandedShaped
import Derived.Shelf.Vars
set_option linter.unusedVariables false
set_option linter.unusedSimpArgs false
set_option linter.unusedSectionVars false
set_option linter.constructorNameAsVariable false
/- What the statement's argument is: a field of holes and players, opened from the row's data; and the wrap that keeps the world's shape beside the laid variables. -/
namespace Go
variable {H : Type} {enc : TypeId × Value → H}
/-- the plain wrap, the laid variables and the world's shape both kept -/
theorem returnsInHanded_and_shaped {a : Assume} {C : Checked} {os : Os} {f : FuncId} {fn : Func} {s : ChangeSpec} {conds : List PathCond} {apart fresh handsOn again : Bool} {X : World → Array Value → Prop}
    (hX : ∀ (w w' : World) (args : Array Value), w.heap = w'.heap → X w args → X w' args)
    (own : ownKnob C.prog.godebug = none) (started : os.Started) (noInit : C.prog.inits.idxOf? f = none) (hfn : C.prog.funcs[f]? = some fn)
    (witness : ∃ (w : World) (tape : Tape) (i : Input), w.os = os ∧ (w.forCall tape i).Shaped C.prog ∧ i.vars = [] ∧ Input.okWide C.prog (w.forCall tape i) .any w.heap.size f i ∧
      ((s.pre enc C.prog fn conds apart (w.forCall tape i).memory i.args ∧ X (w.forCall tape i).memory i.args) ∧ sizedMet enc C.prog fn (OpenSpec.ofChange s) apart (w.forCall tape i).memory i.args) ∧ a.holds C.prog (lone (Frame.enter C.prog f i.args .normal) [] (w.forCall tape i)))
    (contract : ∀ (W : World) (base : Nat) (args : Array Value) (ds gs : List (DataW H)) (before : List MemPlace),
      (∀ (j : Nat) t v, fn.params[j]? = some t → args[j]? = some v → Value.okWide C.prog W .any base t v) →
      DataW.Whole enc C.prog fn.params.toList s.vars apart W args.toList ds gs before →
      conds.all (PathCond.test C.prog ⟨fn.params.toList, ds, s.plain.varTypes C.prog, gs⟩) = true →
      (DataW.weightsEach C.prog (fn.params.toList ++ s.plain.varTypes C.prog) (ds ++ gs)).all (· ≤ reachBytes) = true → X W args → W.ShapedOpen C.prog →
      a.holds C.prog (lone (Frame.enter C.prog f args .normal) [] W) →
      Calls C.prog f args W fun e W' => ∃ v, e = .returned v ∧ s.post enc C.prog fn apart fresh handsOn again W args v W') :
    ReturnsInHanded a C os f .any (fun w args => (s.pre enc C.prog fn conds apart w args ∧ X w args) ∧ sizedMet enc C.prog fn (OpenSpec.ofChange s) apart w args) (s.post enc C.prog fn apart fresh handsOn again) := by
  refine returnsInHanded_of_calls own started noInit witness ?_
  intro w tape i _ hsh _ hok hpre hholds
  obtain ⟨_, _, _, fn', hfn', _, _, _, _, hval⟩ := hok
  have e : fn' = fn := Option.some.inj (hfn'.symm.trans hfn)
  subst e
  obtain ⟨⟨⟨ds, gs, before, hw, hc⟩, hx⟩, hz⟩ := hpre
  have hw' := DataW.Whole.of_heap (w' := w.forCall tape i) (by rfl) hw
  refine (contract (w.forCall tape i) w.heap.size i.args ds gs before hval hw' hc (hz.weights hw) (hX _ _ _ (by rfl) hx) hsh hholds).mono fun e W' ⟨v, he, hp⟩ => ?_
  subst he
  exact ChangeSpec.post_blind hp
end Go
namespace Go.Proofs.YtbakoldmfpbnaaaGreatDoor
open Go.RowKit Go.Mem Go.Adj Go.Deep Go.ChangeShapes Go.WideShapes
theorem globM_of {w : World} (h : w.ShapedOpen Tryz.prog) : GlobM w :=
  cell_of_shapedOpen_int (g := 1) (t := 3) (zero := #[.int .i64 0]) h (of_decide_eq_true (by kernel_rfl)) (by kernel_rfl) rfl (by kernel_rfl) (by kernel_rfl) Tryz.underlying3
section
variable {H : Type} {enc : TypeId × Value → H} {w : World} {base : Nat} {spare : Nat → Bool} {held : Bool}
set_option maxRecDepth 100000 in
theorem play_of {n : Nat} {cs : List Value} {y : DataW H × List MemPlace} (hl : cs.length = 3) (hy : DataW.trod enc Tryz.prog w base spare held n 33 cs = some y) (hw : ∀ u ∈ y.1.weights Tryz.prog 33, u ≤ reachBytes) :
    ∃ z : PI, cs = z.cells ∧ (Rd w (· < w.heap.size) 2 (.slice z.a z.m z.c) z.m (z.es.flatMap EI.cells) ∧ z.name.size ≤ 9223372036854775807) := by
  obtain ⟨y0, y1, m, hye, _, h0, h1⟩ := trod_struct2 Tryz.underlying33 hy
  match cs, hl with
  | [a, b, c], _ =>
    dsimp only at h0 h1
    rw [show Tryz.prog.cellsOf 31 = 2 by kernel_rfl] at h0
    rw [show Tryz.prog.cellsOf 3 = 1 by kernel_rfl] at h1
    have h0' : DataW.trod enc Tryz.prog w base spare held m 31 (#[a, b] : Array Value).toList = some y0 := h0
    obtain ⟨s, ve, k, l, hcs, r1, r2, _, _⟩ := rd_of_card (te := 29) (e := 54) Tryz.underlying31 (by kernel_rfl) (cs := #[a, b]) (by kernel_rfl) ⟨by kernel_rfl, by kernel_rfl⟩ ⟨by kernel_rfl, by kernel_rfl⟩ ⟨by kernel_rfl, by kernel_rfl⟩
      Tryz.underlying29 Tryz.underlying54 (by kernel_rfl) ⟨by kernel_rfl, by kernel_rfl⟩ ⟨by kernel_rfl, by kernel_rfl⟩ ⟨by kernel_rfl, by kernel_rfl⟩ h0' (fun u hu => hw u (by
        rw [hye]
        simp only [DataW.weights, Tryz.underlying33, List.map_cons, List.map_nil, DataW.weightsEach]
        simp only [List.mem_append]
        exact .inl hu))
    obtain ⟨z, e0, _, _⟩ := DataW.trod_int Tryz.underlying3 h1
    simp at hcs e0
    obtain ⟨rfl, rfl⟩ := hcs
    subst e0
    obtain ⟨A, c, rfl, _, _, r2⟩ := r2.open_
    exact ⟨⟨s, A, k, c, l, z⟩, rfl, r2, r1⟩
set_option maxRecDepth 100000 in
theorem arg_players {n : Nat} {v : Value} {x : DataW H × List MemPlace} (h : DataW.trod enc Tryz.prog w base spare held n 23 [v] = some x) (hw : ∀ u ∈ x.1.weights Tryz.prog 23, u ≤ reachBytes) :
    ∃ (m : Nat) (ps : List PI), RdPl w (· < w.heap.size) v m ps ∧ m * 48 ≤ 140737488351232 := by
  obtain ⟨m, ps, h1, h2, h3⟩ := rd_of_slice (α := PI) (f := PI.cells) (size := 3) (R := fun z => Rd w (· < w.heap.size) 2 (.slice z.a z.m z.c) z.m (z.es.flatMap EI.cells) ∧ z.name.size ≤ 9223372036854775807) (by omega) Tryz.underlying23 (by kernel_rfl) (fun _ => rfl) (fun n cs y hl hy hu => play_of hl hy hu) h hw
  refine ⟨m, ps, ⟨h1, h2⟩, ?_⟩
  rw [show Tryz.prog.bytesOf 33 = 48 by kernel_rfl] at h3
  exact h3
set_option maxRecDepth 100000 in
theorem arg_field {n : Nat} {cs : Array Value} {x : DataW H × List MemPlace} (hl : cs.size = Tryz.prog.cellsOf 25) (h : DataW.trod enc Tryz.prog w base spare held n 25 cs.toList = some x) (hw : ∀ u ∈ x.1.weights Tryz.prog 25, u ≤ reachBytes) :
    ∃ (v vp : Value) (n m : Nat) (hs : List HI) (ps : List PI), cs = #[v, vp] ∧ Rd w (· < w.heap.size) 2 v n (hs.flatMap HI.cells) ∧ RdPl w (· < w.heap.size) vp m ps ∧ m * 48 ≤ 140737488351232 := by
  obtain ⟨y0, y1, m, hye, _, h0, h1⟩ := trod_struct2 Tryz.underlying25 h
  rw [show Tryz.prog.cellsOf 25 = 2 by kernel_rfl] at hl
  match cs, hl with
  | ⟨[a, b]⟩, _ =>
    dsimp only at h0 h1
    rw [show Tryz.prog.cellsOf 22 = 1 by kernel_rfl] at h0
    rw [show Tryz.prog.cellsOf 23 = 1 by kernel_rfl] at h1
    obtain ⟨n, hs, r1, _, _⟩ := rd_of_holes Tryz.underlying22 Tryz.underlying73 (by kernel_rfl) ⟨by kernel_rfl, by kernel_rfl⟩ ⟨by kernel_rfl, by kernel_rfl⟩ ⟨by kernel_rfl, by kernel_rfl⟩ (show DataW.trod enc Tryz.prog w base spare held m 22 [a] = some y0 from h0) (fun u hu => hw u (by
        rw [hye]
        simp only [DataW.weights, Tryz.underlying25, List.map_cons, List.map_nil, DataW.weightsEach]
        simp only [List.mem_append]
        exact .inl hu))
    obtain ⟨k, ps, r2, r3⟩ := arg_players (show DataW.trod enc Tryz.prog w base spare held m 23 [b] = some y1 from h1) (fun u hu => hw u (by
        rw [hye]
        simp only [DataW.weights, Tryz.underlying25, List.map_cons, List.map_nil, DataW.weightsEach]
        simp only [List.mem_append]
        exact .inr (.inl hu)))
    exact ⟨a, b, n, k, hs, ps, rfl, r1, r2, r3⟩
end
end Go.Proofs.YtbakoldmfpbnaaaGreatDoor
