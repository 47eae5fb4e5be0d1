/-
  TopAdjusted: for every input the law returns true, and each argument reads afterwards as it read before.
  No condition of ours: the row's own cells alone (the listed variables of Go's library lie as the program's text lays them: the card ties them).
-/
import Derived.Test.YtcofdandmihilaaDoorB08
import Derived.Test.YtcofdandmihilaaDoorB09
import Derived.Test.YtcofdandmihilaaDoorChecked
import Derived.Test.YtcofdandmihilaaDoorRows
import Derived.Test.YtcofdandmihilaaDoorTie
import Derived.Test.YtcofdandmihilaaDoorCards
import Derived.ProofKit
import Derived.Lay
import Derived.Carry
import Derived.SevenTiedAt
set_option linter.unusedVariables false
set_option linter.unusedSimpArgs false
set_option linter.unusedSectionVars false
set_option linter.constructorNameAsVariable false
namespace Go.Proofs.YtcofdandmihilaaDoor
open Go.RowKit Go.Mem Go.Adj Go.ChangeShapes Go.WideShapes Go.ChangeAt
theorem own : ownKnob Tryd.prog.godebug = none := by kernel_rfl
theorem laidOut : laidOutB Tryd.prog = true := by kernel_rfl
def laidL : List (String × DataW Unit) := [("math/bits.deBruijn32tab", Rows.laid_math_bits_deBruijn32tab), ("math/bits.deBruijn64tab", Rows.laid_math_bits_deBruijn64tab), ("internal/strconv.uint64pow10", Rows.laid_internal_strconv_uint64pow10)]
section
variable {H : Type} {enc : TypeId × Value → H} {W : World}
set_option maxRecDepth 100000 in
theorem slice_cells {t e : TypeId} {r : Reach} {base : Nat} (ht : Tryd.prog.underlying t = some (.slice e)) {v : Value} (h : Value.okWide Tryd.prog W r base t v) : v.cells.toList = [v] := by
  obtain ⟨a, n, c, rfl⟩ := okWide_slice ht h
  show (#[Value.slice a n c] : Array Value).toList = _
  simp only []
set_option maxRecDepth 100000 in
theorem arg_holes {v : Value} {d : DataW H} {ps : List MemPlace} (h : DataW.Trod enc Tryd.prog W 0 (fun _ => true) true 22 v d ps) (hw : ∀ u ∈ d.weights Tryd.prog 22, u ≤ reachBytes) (hv : v.cells.toList = [v]) :
    ∃ (n : Nat) (l : List HI), Rd W (· < W.heap.size) 2 v n (l.flatMap HI.cells) := by
  obtain ⟨f, hf⟩ := h
  rw [hv] at hf
  obtain ⟨n, l, h1, _, _⟩ := rd_of_holes Tryd.underlying22 Tryd.underlying32 (by kernel_rfl) ⟨by kernel_rfl, by kernel_rfl⟩ ⟨by kernel_rfl, by kernel_rfl⟩ ⟨by kernel_rfl, by kernel_rfl⟩ hf hw
  exact ⟨n, l, h1⟩
set_option maxRecDepth 100000 in
theorem arg_card {v : Value} {d : DataW H} {ps : List MemPlace} {r : Reach} {base : Nat} (h : DataW.Trod enc Tryd.prog W 0 (fun _ => true) true 25 v d ps) (hw : ∀ u ∈ d.weights Tryd.prog 25, u ≤ reachBytes) (hv : Value.okWide Tryd.prog W r base 25 v) :
    ∃ (s : ByteArray) (ve : Value) (n : Nat) (l : List EI), v = .agg #[.string s, ve] ∧ s.size ≤ 9223372036854775807 ∧ Rd W (· < W.heap.size) 2 ve n (l.flatMap EI.cells) := by
  obtain ⟨cs, rfl, hsz⟩ := okWide_struct Tryd.underlying25 hv
  obtain ⟨f, hf⟩ := h
  obtain ⟨s, ve, n, l, rfl, h1, h2, _, _⟩ := rd_of_card (te := 23) (e := 30) Tryd.underlying25 (by kernel_rfl) hsz ⟨by kernel_rfl, by kernel_rfl⟩ ⟨by kernel_rfl, by kernel_rfl⟩ ⟨by kernel_rfl, by kernel_rfl⟩
    Tryd.underlying23 Tryd.underlying30 (by kernel_rfl) ⟨by kernel_rfl, by kernel_rfl⟩ ⟨by kernel_rfl, by kernel_rfl⟩ ⟨by kernel_rfl, by kernel_rfl⟩ hf hw
  exact ⟨s, ve, n, l, rfl, h1, h2⟩
end
set_option maxRecDepth 100000 in
theorem topAdjusted_lifted (os : Os) (started : os.Started) (H : Type) (enc : TypeId × Value → H) :
    ReturnsInHanded {} Tryd.checked os 3 .any (fun w args => (Rows.topAdjustedSpec.pre enc Tryd.prog Tryd.f3 [] false w args ∧ laidMetH Tryd.prog laidL w) ∧ sizedMet enc Tryd.prog Tryd.f3 (OpenSpec.ofChange Rows.topAdjustedSpec) false w args)
      (Rows.topAdjustedSpec.post enc Tryd.prog Tryd.f3 false true false false) := by
  refine returnsInHanded_of_change_and (C := Tryd.checked) (X := fun w _ => laidMetH Tryd.prog laidL w) (fun _ _ _ hh h => h.of_heap hh) own started (by kernel_rfl) Tryd.func3
    (ChangeSpec.witness_shaped (enc := enc) (C := Tryd.checked) (os := os) (X := fun w _ => laidMetH Tryd.prog laidL w) false (World.laidAll Tryd.prog os laidL) #[.slice none 0 0, .agg #[.string ⟨#[]⟩, .slice none 0 0], .int .i64 0] 8 (World.laidAll_os _ _ _)
      (World.shaped_of_ZipB (by kernel_rfl) (by kernel_rfl)) (by kernel_rfl) (by kernel_rfl) (by kernel_rfl)
      (by rw [MakeChecks.laidMetH_plain _ _ _ (by kernel_rfl)]; exact laidMet_laidAll _ (by kernel_rfl) (by kernel_rfl))) ?_
  intro W base args ds gs before hval0 hW _ hsz0 _ _
  have hval : ∀ (j : Nat) t v, Tryd.f3.params[j]? = some t → args[j]? = some v → Value.okWide Tryd.prog W .any base t v := hval0
  have hsz : (DataW.weightsEach Tryd.prog (Tryd.f3.params.toList ++ Rows.topAdjustedSpec.plain.varTypes Tryd.prog) (ds ++ gs)).all (· ≤ reachBytes) = true := hsz0
  have hW' := hW
  obtain ⟨p, q, hA0, hV, rfl, _, _⟩ := hW
  have hA : DataW.TrodAll enc Tryd.prog W 0 (fun _ => true) true Tryd.f3.params.toList args.toList ds p := hA0
  rw [Tryd.params3] at hA hval hsz
  obtain ⟨v0, v1, v2, d0, d1, d2, p0, p1, p2, rfl, rfl, rfl, h0, h1, h2⟩ := trodAll_three hA
  obtain ⟨rfl, rfl⟩ := trodVars_none hV
  have hlt := hW'.lt
  have o0 := hval 0 _ _ rfl rfl
  have o1 := hval 1 _ _ rfl rfl
  have o2 := hval 2 _ _ rfl rfl
  have hsz2 := fun u hu => of_decide_eq_true (List.all_eq_true.1 hsz u hu)
  obtain ⟨n, hs, hh⟩ := arg_holes h0 (fun u hu => hsz2 u (DataW.weights_mem_each (j := 0) rfl rfl u hu)) (slice_cells Tryd.underlying22 o0)
  obtain ⟨s, ve, m, es, rfl, hsn, he⟩ := arg_card h1 (fun u hu => hsz2 u (DataW.weights_mem_each (j := 1) rfl rfl u hu)) o1
  obtain ⟨co, rfl⟩ := okWide_int Tryd.underlying3 o2
  refine (law_any W v0 ve n m hs es s co hsn hh he).mono fun e W' ⟨he, hb⟩ => ?_
  subst he
  exact ⟨_, rfl, _, _, _, [], _, [], hW', trodAll_mk1 (shut_bool Tryd.underlying4 _), trodAll_mk3 (Below.trod laidOut (by kernel_rfl) (of_decide_eq_true (by kernel_rfl)) h0 hb (fun x hx => hlt x (by simp [hx]))) (Below.trod laidOut (by kernel_rfl) (of_decide_eq_true (by kernel_rfl)) h1 hb (fun x hx => hlt x (by simp [hx]))) (Below.trod laidOut (by kernel_rfl) (of_decide_eq_true (by kernel_rfl)) h2 hb (fun x hx => hlt x (by simp [hx]))), rfl, hb.frame _, fun h => by cases h⟩
theorem topAdjusted_row : Rows.TopAdjustedSaid :=
  OpenClaim.holds_of_wide 3 Tryd.f3 rfl rfl rfl rfl rfl rfl rfl ⟨rfl, rfl, rfl, rfl, rfl⟩ rfl rfl rfl rfl rfl (by kernel_rfl) Tryd.func3 (by kernel_rfl)
    (of_decide_eq_true (by kernel_rfl)) (by unfold Func.isWrapper; first | (rw [if_pos (by decide +kernel)]; kernel_rfl) | (rw [if_neg (by decide +kernel)]; exact ⟨rfl, rfl⟩))
    (fun os started H enc _ => topAdjusted_lifted os started H enc)
theorem topAdjusted_holds : Rows.TopAdjustedCardSaid :=
  Claim7.holds_tied_plain_at .later [] [.data, .data, .data] true (true, "2a63b38ebfb618c8a8be442f8ba6368fc6b9b11088c752491b25c35b22bc3907") false
    topAdjusted_row (fun _ h => by cases h) (by kernel_rfl) (fun _ h => by cases h) topAdjusted_row_tie rfl ⟨rfl, rfl⟩ (by kernel_rfl) rfl
    (fun f fn hf hfn => by
      obtain rfl : f = 3 := Option.some.inj ((show Tryd.prog.funcNamed "niblick/niblicktop.TopAdjusted" = some 3 by kernel_rfl).symm.trans hf) |>.symm
      obtain rfl : fn = Tryd.f3 := (Option.some.inj (Tryd.func3.symm.trans hfn)).symm
      exact ⟨by kernel_rfl, fun j t ht => by
        rw [Tryd.params3] at ht
        have hm : t ∈ [22, 25, 3] := by simpa using Array.mem_of_getElem? ht
        have hall : ([22, 25, 3].all fun u => !Tryd.prog.wantsStandIn u) = true := by kernel_rfl
        exact (show Tryd.prog.wantsStandIn t = false by simpa using List.all_eq_true.1 hall t hm)⟩)
    (by kernel_rfl)
#print axioms topAdjusted_holds
end Go.Proofs.YtcofdandmihilaaDoor
