/-
  TopLinksPlans: for every input the law returns true, and each argument reads afterwards as it read before.
  No condition of ours.
-/
import Derived.Test.YthgkngngmjonkaaB12
import Derived.Test.YthgkngngmjonkaaChecked
import Derived.Test.YthgkngngmjonkaaRows
import Derived.Test.YthgkngngmjonkaaB13
import Derived.ProofKit
import Derived.SizedLaws
import Derived.Carry
set_option linter.unusedVariables false
set_option linter.unusedSimpArgs false
set_option linter.unusedSectionVars false
set_option linter.constructorNameAsVariable false
namespace Go.Proofs.Ythgkngngmjonkaa
open Go.RowKit Go.Mem Go.Plan Go.ChangeShapes Go.WideShapes Go.ChangeAt
theorem own : ownKnob Try.prog.godebug = none := by kernel_rfl
theorem laidOut : laidOutB Try.prog = true := by kernel_rfl
section
variable {H : Type} {enc : TypeId × Value → H} {W : World}
theorem arg_ints {v : Value} {d : DataW H} {ps : List MemPlace} (h : DataW.Trod enc Try.prog W 0 (fun _ => true) true 23 v d ps) (hw : ∀ u ∈ d.weights Try.prog 23, u ≤ reachBytes) (hv : v.cells.toList = [v]) :
    ∃ (n : Nat) (l : List Int), Rd W (· < W.heap.size) 1 v n (l.map (Value.int .i64)) := by
  obtain ⟨f, hf⟩ := h
  rw [hv] at hf
  obtain ⟨n, l, h1, _, _⟩ := rd_of_ints Try.underlying23 Try.underlying3 (by kernel_rfl) hf hw
  exact ⟨n, l, h1⟩
theorem arg_rules {v : Value} {d : DataW H} {ps : List MemPlace} (h : DataW.Trod enc Try.prog W 0 (fun _ => true) true 22 v d ps) (hw : ∀ u ∈ d.weights Try.prog 22, u ≤ reachBytes) (hv : v.cells.toList = [v]) :
    ∃ (n : Nat) (l : List RI), Rd W (· < W.heap.size) 3 v n (l.flatMap RI.cells) ∧ n * 24 ≤ 140737488351232 := by
  obtain ⟨f, hf⟩ := h
  rw [hv] at hf
  obtain ⟨n, l, h1, _, h3⟩ := rd_of_rules Try.underlying22 Try.underlying26 (by kernel_rfl) ⟨by kernel_rfl, by kernel_rfl, by kernel_rfl⟩ ⟨by kernel_rfl, by kernel_rfl, by kernel_rfl⟩ ⟨by kernel_rfl, by kernel_rfl, by kernel_rfl⟩ hf hw
  exact ⟨n, l, h1, by rw [show Try.prog.bytesOf 26 = 24 by kernel_rfl] at h3; exact h3⟩
theorem slice_cells {t e : TypeId} {r : Reach} {base : Nat} (ht : Try.prog.underlying t = some (.slice e)) {v : Value} (h : Value.okWide Try.prog W r base t v) : v.cells.toList = [v] := by
  obtain ⟨a, n, c, rfl⟩ := okWide_slice ht h
  show (#[Value.slice a n c] : Array Value).toList = _
  simp only []
end
set_option maxRecDepth 100000 in
theorem topLinksPlans_lifted (os : Os) (started : os.Started) (H : Type) (enc : TypeId × Value → H) :
    ReturnsInHanded {} Try.checked os 3 .any (Rows.topLinksPlansSpec.pre6 enc Try.prog Try.f3 Rows.topLinksPlansRow.domain false) (Rows.topLinksPlansSpec.post enc Try.prog Try.f3 false true false false) := by
  refine returnsInHanded_of_change_sized (C := Try.checked) own started (by kernel_rfl) Try.func3
    (ChangeSpec.witness6 (enc := enc) (C := Try.checked) false ⟨#[], #[.slice none 0 0, .slice none 0 0, .slice none 0 0], []⟩ 8 (by kernel_rfl) (by kernel_rfl) (by kernel_rfl) (by kernel_rfl)) ?_
  intro W base args ds gs before hval0 hW _ hsz0 _
  have hsz : (DataW.weightsEach Try.prog (Try.f3.params.toList ++ Rows.topLinksPlansSpec.plain.varTypes Try.prog) (ds ++ gs)).all (· ≤ reachBytes) = true := hsz0
  have hval : ∀ (j : Nat) t v, Try.f3.params[j]? = some t → args[j]? = some v → Value.okWide Try.prog W .any base t v := hval0
  have hW' := hW
  obtain ⟨p, q, hA0, hV, rfl, _, _⟩ := hW
  have hA : DataW.TrodAll enc Try.prog W 0 (fun _ => true) true Try.f3.params.toList args.toList ds p := hA0
  rw [Try.params3] at hA hval hsz
  obtain ⟨v0, v1, v2, d0, d1, d2, p0, p1, p2, rfl, rfl, rfl, h0, h1, h2⟩ := trodAll_three hA
  obtain ⟨rfl, rfl⟩ := trodVars_none hV
  have hlt := hW'.lt
  have o0 := hval 0 _ _ rfl rfl
  have o1 := hval 1 _ _ rfl rfl
  have o2 := hval 2 _ _ rfl rfl
  have hsz2 := fun u hu => of_decide_eq_true (List.all_eq_true.1 hsz u hu)
  obtain ⟨nl, l, hl, hrl⟩ := arg_rules h0 (fun u hu => hsz2 u (DataW.weights_mem_each (j := 0) rfl rfl u hu)) (slice_cells Try.underlying22 o0)
  obtain ⟨n, a, ha⟩ := arg_ints h1 (fun u hu => hsz2 u (DataW.weights_mem_each (j := 1) rfl rfl u hu)) (slice_cells Try.underlying23 o1)
  obtain ⟨m, b, hb⟩ := arg_ints h2 (fun u hu => hsz2 u (DataW.weights_mem_each (j := 2) rfl rfl u hu)) (slice_cells Try.underlying23 o2)
  refine (law_any W v0 v1 v2 nl n m l a b hl ha hb (by omega)).mono fun e W' ⟨he, hb⟩ => ?_
  subst he
  exact ⟨_, rfl, _, _, _, [], _, [], hW', trodAll_mk1 (shut_bool Try.underlying4 _), trodAll_mk3 (Below.trod laidOut (by kernel_rfl) (of_decide_eq_true (by kernel_rfl)) h0 hb (fun x hx => hlt x (by simp [hx]))) (Below.trod laidOut (by kernel_rfl) (of_decide_eq_true (by kernel_rfl)) h1 hb (fun x hx => hlt x (by simp [hx]))) (Below.trod laidOut (by kernel_rfl) (of_decide_eq_true (by kernel_rfl)) h2 hb (fun x hx => hlt x (by simp [hx]))), rfl, hb.frame _, fun h => by cases h⟩
theorem topLinksPlans_holds : Rows.TopLinksPlansSaid :=
  OpenClaim.holds_of_wide 3 Try.f3 rfl rfl rfl rfl rfl rfl rfl ⟨rfl, rfl, rfl, rfl, rfl⟩ rfl rfl rfl rfl rfl (by kernel_rfl) Try.func3 (by kernel_rfl)
    (of_decide_eq_true (by kernel_rfl)) (by unfold Func.isWrapper; first | (rw [if_pos (by decide +kernel)]; kernel_rfl) | (rw [if_neg (by decide +kernel)]; exact ⟨rfl, rfl⟩))
    (fun os started H enc _ => topLinksPlans_lifted os started H enc)
#print axioms topLinksPlans_holds
end Go.Proofs.Ythgkngngmjonkaa
