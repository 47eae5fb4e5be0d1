/-
  TopLinksFollowers: for every input the law returns true, and each argument reads afterwards as it read before.
  No condition of ours: the row's own cells alone (the listed variables of Go's library lie as the program's text lays them: the card ties them).
-/
import Derived.Test.YtnaafefcijgpkaaGreatDoorB30
import Derived.Test.YtnaafefcijgpkaaGreatDoorB31
import Derived.Test.YtnaafefcijgpkaaGreatDoorChecked
import Derived.Test.YtnaafefcijgpkaaGreatDoorRows
import Derived.Test.YtnaafefcijgpkaaGreatDoorTie
import Derived.Test.YtnaafefcijgpkaaGreatDoorCards
import Derived.ProofKit
import Derived.Lay
import Derived.Carry
import Derived.SevenTiedAt
set_option linter.unusedVariables false
set_option linter.unusedSimpArgs false
set_option linter.unusedSectionVars false
set_option linter.constructorNameAsVariable false
namespace Go.Proofs.YtnaafefcijgpkaaGreatDoor
open Go.RowKit Go.Mem Go.Adj Go.ChangeShapes Go.WideShapes Go.ChangeAt
theorem own : ownKnob Tryz.prog.godebug = none := by kernel_rfl
theorem laidOut : laidOutB Tryz.prog = true := by kernel_rfl
section
variable {H : Type} {enc : TypeId × Value → H} {W : World}
set_option maxRecDepth 100000 in
theorem arg_u8s {v : Value} {d : DataW H} {ps : List MemPlace} (h : DataW.Trod enc Tryz.prog W 0 (fun _ => true) true 61 v d ps) (hw : ∀ u ∈ d.weights Tryz.prog 61, u ≤ reachBytes) (hv : v.cells.toList = [v]) :
    ∃ (n : Nat) (l : List Int), Rd W (· < W.heap.size) 1 v n (l.map (Value.int .u8)) ∧ ∀ z ∈ l, 0 ≤ z ∧ z ≤ 255 := by
  obtain ⟨f, hf⟩ := h
  rw [hv] at hf
  obtain ⟨n, l, h1, h2, _⟩ := rd_of_slice (α := Int) (f := fun z => [.int .u8 z]) (R := fun z => (Lit.int .u8 z).wf = true) (size := 1) (by omega) Tryz.underlying61 (by kernel_rfl) (fun _ => rfl) (fun n cs y _ hy _ => by
    obtain ⟨z, rfl, _, hz⟩ := DataW.trod_int Tryz.underlying5 hy
    exact ⟨z, rfl, hz⟩) hf hw
  have e : ∀ l : List Int, l.flatMap (fun z => [Value.int .u8 z]) = l.map (Value.int .u8) := by
    intro l
    induction l with
    | nil => rfl
    | cons a l ih => rw [List.flatMap_cons, ih]; rfl
  refine ⟨n, l, e l ▸ h1, fun z hz => ?_⟩
  have k0 := h2 z hz
  have m1 : IntKind.u8.min = 0 := by kernel_rfl
  have m2 : IntKind.u8.max = 255 := by kernel_rfl
  simp [Lit.wf] at k0
  omega
end
def laidL : List (String × DataW Unit) := [("math/bits.deBruijn32tab", Rows.laid_math_bits_deBruijn32tab), ("math/bits.deBruijn64tab", Rows.laid_math_bits_deBruijn64tab), ("internal/strconv.uint64pow10", Rows.laid_internal_strconv_uint64pow10)]
set_option maxRecDepth 100000 in
theorem topLinksFollowers_lifted (os : Os) (started : os.Started) (H : Type) (enc : TypeId × Value → H) :
    ReturnsInHanded {} Tryz.checked os 4 .any (fun w args => (Rows.topLinksFollowersSpec.pre enc Tryz.prog Tryz.f4 [] false w args ∧ laidMetH Tryz.prog laidL w) ∧ sizedMet enc Tryz.prog Tryz.f4 (OpenSpec.ofChange Rows.topLinksFollowersSpec) false w args)
      (Rows.topLinksFollowersSpec.post enc Tryz.prog Tryz.f4 false true false false) := by
  refine returnsInHanded_of_change_and (C := Tryz.checked) (X := fun w _ => laidMetH Tryz.prog laidL w) (fun _ _ _ hh h => h.of_heap hh) own started (by kernel_rfl) Tryz.func4
    (ChangeSpec.witness_shaped (enc := enc) (C := Tryz.checked) (os := os) (X := fun w _ => laidMetH Tryz.prog laidL w) false (World.laidAll Tryz.prog os laidL) #[.agg #[.slice none 0 0, .slice none 0 0, .slice none 0 0, .slice none 0 0, .slice none 0 0, .slice none 0 0], .slice none 0 0] 8 (World.laidAll_os _ _ _)
      (World.shaped_of_ZipB (by kernel_rfl) (by kernel_rfl)) (by kernel_rfl) (by kernel_rfl) (by kernel_rfl)
      (by rw [MakeChecks.laidMetH_plain _ _ _ (by kernel_rfl)]; exact laidMet_laidAll _ (by kernel_rfl) (by kernel_rfl))) ?_
  intro W base args ds gs before hval0 hW _ hsz0 _ _
  have hval : ∀ (j : Nat) t v, Tryz.f4.params[j]? = some t → args[j]? = some v → Value.okWide Tryz.prog W .any base t v := hval0
  have hsz : (DataW.weightsEach Tryz.prog (Tryz.f4.params.toList ++ Rows.topLinksFollowersSpec.plain.varTypes Tryz.prog) (ds ++ gs)).all (· ≤ reachBytes) = true := hsz0
  have hW' := hW
  obtain ⟨p, q, hA0, hV, rfl, _, _⟩ := hW
  have hA : DataW.TrodAll enc Tryz.prog W 0 (fun _ => true) true Tryz.f4.params.toList args.toList ds p := hA0
  rw [Tryz.params4] at hA hval hsz
  obtain ⟨v0, v1, d0, d1, p0, p1, rfl, rfl, rfl, h0, h1⟩ := trodAll_two hA
  obtain ⟨rfl, rfl⟩ := trodVars_none hV
  have hlt := hW'.lt
  have o0 := hval 0 _ _ rfl rfl
  have o1 := hval 1 _ _ rfl rfl
  have hsz2 := fun u hu => of_decide_eq_true (List.all_eq_true.1 hsz u hu)
  obtain ⟨cs, rfl, hcs⟩ := okWide_struct Tryz.underlying28 o0
  have h0' := h0
  obtain ⟨f, hf⟩ := h0'
  obtain ⟨u, hu, r1, r2⟩ := arg_union hcs hf (fun u hu => hsz2 u (DataW.weights_mem_each (j := 0) rfl rfl u hu))
  obtain ⟨nd, dl, r3, r4⟩ := arg_u8s h1 (fun u hu => hsz2 u (DataW.weights_mem_each (j := 1) rfl rfl u hu)) (by
    obtain ⟨a, n, c, rfl⟩ := okWide_slice Tryz.underlying61 o1
    show (#[Value.slice a n c] : Array Value).toList = _
    simp only [])
  have hcl := topLinksFollowers_any W u v1 nd dl r2 r1 r3 r4
  rw [← hu] at hcl
  refine hcl.mono fun e W' ⟨he, hb⟩ => ?_
  subst he
  exact ⟨_, rfl, _, _, _, [], _, [], hW', trodAll_mk1 (shut_bool Tryz.underlying4 _), trodAll_mk2 (Below.trod laidOut (by kernel_rfl) (of_decide_eq_true (by kernel_rfl)) h0 hb (fun x hx => hlt x (by simp [hx]))) (Below.trod laidOut (by kernel_rfl) (of_decide_eq_true (by kernel_rfl)) h1 hb (fun x hx => hlt x (by simp [hx]))), rfl, hb.frame _, fun h => by cases h⟩
theorem topLinksFollowers_row : Rows.TopLinksFollowersSaid :=
  OpenClaim.holds_of_wide 4 Tryz.f4 rfl rfl rfl rfl rfl rfl rfl ⟨rfl, rfl, rfl, rfl, rfl⟩ rfl rfl rfl rfl rfl (by kernel_rfl) Tryz.func4 (by kernel_rfl)
    (of_decide_eq_true (by kernel_rfl)) (by unfold Func.isWrapper; first | (rw [if_pos (by decide +kernel)]; kernel_rfl) | (rw [if_neg (by decide +kernel)]; exact ⟨rfl, rfl⟩))
    (fun os started H enc _ => topLinksFollowers_lifted os started H enc)
theorem topLinksFollowers_holds : Rows.TopLinksFollowersCardSaid :=
  Claim7.holds_tied_plain_at .later [] [.data, .data, .data] true (true, "7dcd56aba0beea6ce28e85b132253822b062613628cda1bf9ba47ea14fc2b573") false
    topLinksFollowers_row (fun _ h => by cases h) (by kernel_rfl) (fun _ h => by cases h) topLinksFollowers_row_tie rfl ⟨rfl, rfl⟩ (by kernel_rfl) rfl
    (fun f fn hf hfn => by
      obtain rfl : f = 4 := Option.some.inj ((show Tryz.prog.funcNamed "niblick/niblicktop.TopLinksFollowers" = some 4 by kernel_rfl).symm.trans hf) |>.symm
      obtain rfl : fn = Tryz.f4 := (Option.some.inj (Tryz.func4.symm.trans hfn)).symm
      exact ⟨by kernel_rfl, fun j t ht => by
        rw [Tryz.params4] at ht
        have hm : t ∈ [28, 61] := by simpa using Array.mem_of_getElem? ht
        have hall : ([28, 61].all fun u => !Tryz.prog.wantsStandIn u) = true := by kernel_rfl
        exact (show Tryz.prog.wantsStandIn t = false by simpa using List.all_eq_true.1 hall t hm)⟩)
    (by kernel_rfl)
#print axioms topLinksFollowers_holds
end Go.Proofs.YtnaafefcijgpkaaGreatDoor
