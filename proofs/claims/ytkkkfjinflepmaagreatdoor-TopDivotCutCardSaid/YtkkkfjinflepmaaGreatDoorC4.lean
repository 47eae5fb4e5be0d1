/-
  TopDivotCut: for every input the law returns true, and each argument reads afterwards as it read before.
  No condition of ours: the row's own cells alone (the listed variables of Go's library lie as the program's text lays them: the card ties them).
-/
import Derived.Test.YtkkkfjinflepmaaGreatDoorU6
import Derived.Test.YtkkkfjinflepmaaGreatDoorB46
import Derived.Test.YtkkkfjinflepmaaGreatDoorChecked
import Derived.Test.YtkkkfjinflepmaaGreatDoorRows
import Derived.Test.YtkkkfjinflepmaaGreatDoorTie
import Derived.Test.YtkkkfjinflepmaaGreatDoorCards
import Derived.ProofKit
import Derived.Lay
import Derived.Carry
import Derived.SevenTiedAt
set_option linter.unusedVariables false
set_option linter.unusedSimpArgs false
set_option linter.unusedSectionVars false
set_option linter.constructorNameAsVariable false
namespace Go.Proofs.YtkkkfjinflepmaaGreatDoor
open Go.RowKit Go.Mem Go.Adj Go.ChangeShapes Go.WideShapes Go.ChangeAt
theorem own : ownKnob Tryz.prog.godebug = none := by kernel_rfl
theorem laidOut : laidOutB Tryz.prog = true := by kernel_rfl
def laidL : List (String × DataW Unit) := [("math/bits.deBruijn32tab", Rows.laid_math_bits_deBruijn32tab), ("math/bits.deBruijn64tab", Rows.laid_math_bits_deBruijn64tab), ("internal/strconv.uint64pow10", Rows.laid_internal_strconv_uint64pow10)]
set_option maxRecDepth 100000 in
theorem topDivotCut_lifted (os : Os) (started : os.Started) (H : Type) (enc : TypeId × Value → H) :
    ReturnsInHanded {} Tryz.checked os 6 .any (fun w args => (Rows.topDivotCutSpec.pre enc Tryz.prog Tryz.f6 [] false w args ∧ laidMetH Tryz.prog laidL w) ∧ sizedMet enc Tryz.prog Tryz.f6 (OpenSpec.ofChange Rows.topDivotCutSpec) false w args)
      (Rows.topDivotCutSpec.post enc Tryz.prog Tryz.f6 false true false false) := by
  refine returnsInHanded_of_change_and (C := Tryz.checked) (X := fun w _ => laidMetH Tryz.prog laidL w) (fun _ _ _ hh h => h.of_heap hh) own started (by kernel_rfl) Tryz.func6
    (ChangeSpec.witness_shaped (enc := enc) (C := Tryz.checked) (os := os) (X := fun w _ => laidMetH Tryz.prog laidL w) false (World.laidAll Tryz.prog os laidL) #[.agg #[.slice none 0 0, .slice none 0 0], .int .u8 0] 8 (World.laidAll_os _ _ _)
      (World.shaped_of_ZipB (by kernel_rfl) (by kernel_rfl)) (by kernel_rfl) (by kernel_rfl) (by kernel_rfl)
      (by rw [MakeChecks.laidMetH_plain _ _ _ (by kernel_rfl)]; exact laidMet_laidAll _ (by kernel_rfl) (by kernel_rfl))) ?_
  intro W base args ds gs before hval0 hW _ hsz0 _ _
  have hval : ∀ (j : Nat) t v, Tryz.f6.params[j]? = some t → args[j]? = some v → Value.okWide Tryz.prog W .any base t v := hval0
  have hsz : (DataW.weightsEach Tryz.prog (Tryz.f6.params.toList ++ Rows.topDivotCutSpec.plain.varTypes Tryz.prog) (ds ++ gs)).all (· ≤ reachBytes) = true := hsz0
  have hW' := hW
  obtain ⟨p, q, hA0, hV, rfl, _, _⟩ := hW
  have hA : DataW.TrodAll enc Tryz.prog W 0 (fun _ => true) true Tryz.f6.params.toList args.toList ds p := hA0
  rw [Tryz.params6] at hA hval hsz
  obtain ⟨v0, v1, d0, d1, p0, p1, rfl, rfl, rfl, h0, h1⟩ := trodAll_two hA
  obtain ⟨rfl, rfl⟩ := trodVars_none hV
  have hlt := hW'.lt
  have o0 := hval 0 _ _ rfl rfl
  have o1 := hval 1 _ _ rfl rfl
  have hsz2 := fun u hu => of_decide_eq_true (List.all_eq_true.1 hsz u hu)
  obtain ⟨cs, rfl, hcs⟩ := okWide_struct Tryz.underlying25 o0
  have h0' := h0
  obtain ⟨f, hf⟩ := h0'
  obtain ⟨v, vp, n, m, hs, ps, rfl, r1, r2, r3⟩ := arg_field hcs hf (fun u hu => hsz2 u (DataW.weights_mem_each (j := 0) rfl rfl u hu))
  obtain ⟨ro, rfl⟩ := okWide_int Tryz.underlying5 o1
  have hro : 0 ≤ ro ∧ ro ≤ 255 := by
    obtain ⟨g, hg⟩ := h1
    obtain ⟨z, e0, _, k0⟩ := DataW.trod_int Tryz.underlying5 hg
    have e1 : ro = z := by
      have e2 : ([.int .u8 ro] : List Value) = [.int .u8 z] := e0
      simpa using e2
    subst e1
    have m1 : IntKind.u8.min = 0 := by kernel_rfl
    have m2 : IntKind.u8.max = 255 := by kernel_rfl
    simp [Lit.wf] at k0
    omega
  refine (cutLaw_any W v vp n m hs ps ro hro r3 r1 r2).mono fun e W' ⟨he, hb⟩ => ?_
  subst he
  exact ⟨_, rfl, _, _, _, [], _, [], hW', trodAll_mk1 (shut_bool Tryz.underlying4 _), trodAll_mk2 (Below.trod laidOut (by kernel_rfl) (of_decide_eq_true (by kernel_rfl)) h0 hb (fun x hx => hlt x (by simp [hx]))) (Below.trod laidOut (by kernel_rfl) (of_decide_eq_true (by kernel_rfl)) h1 hb (fun x hx => hlt x (by simp [hx]))), rfl, hb.frame _, fun h => by cases h⟩
theorem topDivotCut_row : Rows.TopDivotCutSaid :=
  OpenClaim.holds_of_wide 6 Tryz.f6 rfl rfl rfl rfl rfl rfl rfl ⟨rfl, rfl, rfl, rfl, rfl⟩ rfl rfl rfl rfl rfl (by kernel_rfl) Tryz.func6 (by kernel_rfl)
    (of_decide_eq_true (by kernel_rfl)) (by unfold Func.isWrapper; first | (rw [if_pos (by decide +kernel)]; kernel_rfl) | (rw [if_neg (by decide +kernel)]; exact ⟨rfl, rfl⟩))
    (fun os started H enc _ => topDivotCut_lifted os started H enc)
theorem topDivotCut_holds : Rows.TopDivotCutCardSaid :=
  Claim7.holds_tied_plain_at .later [] [.data, .data, .data] true (true, "8a7ab0f43aca87a5b811c7ca071f11ea24031c6e5332b4095c2e6aa9628072db") false
    topDivotCut_row (fun _ h => by cases h) (by kernel_rfl) (fun _ h => by cases h) topDivotCut_row_tie rfl ⟨rfl, rfl⟩ (by kernel_rfl) rfl
    (fun f fn hf hfn => by
      obtain rfl : f = 6 := Option.some.inj ((show Tryz.prog.funcNamed "niblick/niblicktop.TopDivotCut" = some 6 by kernel_rfl).symm.trans hf) |>.symm
      obtain rfl : fn = Tryz.f6 := (Option.some.inj (Tryz.func6.symm.trans hfn)).symm
      exact ⟨by kernel_rfl, fun j t ht => by
        rw [Tryz.params6] at ht
        have hm : t ∈ [25, 5] := by simpa using Array.mem_of_getElem? ht
        have hall : ([25, 5].all fun u => !Tryz.prog.wantsStandIn u) = true := by kernel_rfl
        exact (show Tryz.prog.wantsStandIn t = false by simpa using List.all_eq_true.1 hall t hm)⟩)
    (by kernel_rfl)
#print axioms topDivotCut_holds
end Go.Proofs.YtkkkfjinflepmaaGreatDoor
