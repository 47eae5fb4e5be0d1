/-
  SheetSlots: for every input the law returns true, and each argument reads afterwards as it read before.
  No condition of ours: the row's own cells alone (the listed variables of Go's library lie as the program's text lays them: the card ties them).
-/
import Derived.Test.YtbjjojoggpepjaaGreatDoorL3
import Derived.Test.YtbjjojoggpepjaaGreatDoorB24
import Derived.Test.YtbjjojoggpepjaaGreatDoorTie
import Derived.Test.YtbjjojoggpepjaaGreatDoorCards
import Derived.SevenTiedAt
import Derived.OpenShut
set_option linter.unusedVariables false
set_option linter.unusedSimpArgs false
set_option linter.unusedSectionVars false
set_option linter.constructorNameAsVariable false
namespace Go.Proofs.YtbjjojoggpepjaaGreatDoor
open Go.RowKit Go.Mem Go.Sheet Go.ChangeShapes Go.WideShapes Go.ChangeAt
section
variable {H : Type} {enc : TypeId × Value → H} {W : World}
theorem int_cell {P : Program} {w : World} {base : Nat} {spare : Nat → Bool} {held : Bool} {n k : Nat} {t : TypeId} (ht : P.underlying t = some (.int .i64)) {cs : List Value} {y : DataW H × List MemPlace} (hk : k < cs.length)
    (h : DataW.trod enc P w base spare held n t ((cs.drop k).take 1) = some y) : ∃ z, cs[k]? = some (.int .i64 z) := by
  obtain ⟨z, hz, _, _⟩ := DataW.trod_int ht h
  refine ⟨z, ?_⟩
  rw [List.drop_eq_getElem_cons hk, List.take_succ_cons, List.take_zero] at hz
  injection hz with h1 _
  rw [List.getElem?_eq_getElem hk, h1]
set_option maxRecDepth 100000 in
theorem arg_times {r : Reach} {base : Nat} {v : Value} {d : DataW H} {ps : List MemPlace} (h : DataW.Trod enc Tryz.prog W 0 (fun _ => true) true 74 v d ps) (o : Value.okWide Tryz.prog W r base 74 v) :
    ∃ a b c e : Int, v = .agg #[.int .i64 a, .int .i64 b, .int .i64 c, .int .i64 e] := by
  obtain ⟨cs, rfl, hs⟩ := okWide_struct Tryz.underlying74 o
  have hs4 : cs.size = 4 := hs.trans (by kernel_rfl)
  obtain ⟨f, hf⟩ := h
  change DataW.trod enc Tryz.prog W 0 (fun _ => true) true f 74 cs.toList = _ at hf
  obtain ⟨xs, n, _, _, _, hlen, hx⟩ := DataW.trod_struct Tryz.underlying74 hf
  have key : ∀ i, i < 4 → ∃ z, cs.toList[i]? = some (.int .i64 z) := by
    intro i hi
    have hi2 : i < cs.toList.length := by simpa using (by omega : i < cs.size)
    have hxl : xs.length = 4 := hlen
    obtain ⟨y, hy⟩ : ∃ y, xs[i]? = some y := ⟨_, List.getElem?_eq_getElem (by omega)⟩
    match i, hi with
    | 0, _ => exact int_cell (by kernel_rfl) hi2 ((hx 0 _ rfl).trans hy)
    | 1, _ => exact int_cell (by kernel_rfl) hi2 ((hx 1 _ rfl).trans hy)
    | 2, _ => exact int_cell (by kernel_rfl) hi2 ((hx 2 _ rfl).trans hy)
    | 3, _ => exact int_cell (by kernel_rfl) hi2 ((hx 3 _ rfl).trans hy)
  obtain ⟨l⟩ := cs
  match l, hs4 with
  | [a, b, c, e], _ =>
    obtain ⟨z0, h0⟩ := key 0 (by omega)
    obtain ⟨z1, h1⟩ := key 1 (by omega)
    obtain ⟨z2, h2⟩ := key 2 (by omega)
    obtain ⟨z3, h3⟩ := key 3 (by omega)
    simp at h0 h1 h2 h3
    exact ⟨z0, z1, z2, z3, by rw [h0, h1, h2, h3]⟩
set_option maxRecDepth 100000 in
theorem arg_day {r : Reach} {base : Nat} {v : Value} {d : DataW H} {ps : List MemPlace} (h : DataW.Trod enc Tryz.prog W 0 (fun _ => true) true 75 v d ps) (o : Value.okWide Tryz.prog W r base 75 v) :
    ∃ a b c : Int, v = .agg #[.int .i64 a, .int .i64 b, .int .i64 c] := by
  have hu := Tryz.underlying75
  obtain ⟨cs, rfl, hs⟩ : ∃ cs : Array Value, v = .agg cs ∧ cs.size = Tryz.prog.cellsOf 75 := by
    simp only [Value.okWide, hu] at o
    obtain ⟨cs, h1, h2, _⟩ := o
    exact ⟨cs, h1, h2⟩
  have hs3 : cs.size = 3 := hs.trans (by kernel_rfl)
  obtain ⟨f, hf⟩ := h
  change DataW.trod enc Tryz.prog W 0 (fun _ => true) true f 75 cs.toList = _ at hf
  obtain ⟨xs, n, _, _, _, hlen, hx⟩ := DataW.trod_array hu hf
  have hc : Tryz.prog.cellsOf 3 = 1 := by kernel_rfl
  have key : ∀ i, i < 3 → ∃ z, cs.toList[i]? = some (.int .i64 z) := by
    intro i hi
    have hi2 : i < cs.toList.length := by simpa using (by omega : i < cs.size)
    obtain ⟨y, hy⟩ : ∃ y, xs[i]? = some y := ⟨_, List.getElem?_eq_getElem (by omega)⟩
    have := hx i hi
    rw [hc, Nat.mul_one, hy] at this
    exact int_cell Tryz.underlying3 hi2 this
  obtain ⟨l⟩ := cs
  match l, hs3 with
  | [a, b, c], _ =>
    obtain ⟨z0, h0⟩ := key 0 (by omega)
    obtain ⟨z1, h1⟩ := key 1 (by omega)
    obtain ⟨z2, h2⟩ := key 2 (by omega)
    simp at h0 h1 h2
    exact ⟨z0, z1, z2, by rw [h0, h1, h2]⟩
end
set_option maxRecDepth 100000 in
theorem sheetSlots_lifted (os : Os) (started : os.Started) (H : Type) (enc : TypeId × Value → H) :
    ReturnsInHanded {} Tryz.checked os 8 .any (fun w args => (Rows.sheetSlotsSpec.pre enc Tryz.prog Tryz.f8 [] false w args ∧ laidMetH Tryz.prog laidL w) ∧ sizedMet enc Tryz.prog Tryz.f8 (OpenSpec.ofChange Rows.sheetSlotsSpec) false w args)
      (Rows.sheetSlotsSpec.post enc Tryz.prog Tryz.f8 false true false false) := by
  refine returnsInHanded_of_change_and (C := Tryz.checked) (X := fun w _ => laidMetH Tryz.prog laidL w) (fun _ _ _ hh h => h.of_heap hh) own started (by kernel_rfl) Tryz.func8
    (ChangeSpec.witness_shaped (enc := enc) (C := Tryz.checked) (os := os) (X := fun w _ => laidMetH Tryz.prog laidL w) false (World.laidAll Tryz.prog os laidL) #[.slice none 0 0, .agg #[.int .i64 0, .int .i64 0, .int .i64 0, .int .i64 0], .agg #[.int .i64 0, .int .i64 0, .int .i64 0]] 8 (World.laidAll_os _ _ _)
      (World.shaped_of_ZipB (by kernel_rfl) (by kernel_rfl)) (by kernel_rfl) (by kernel_rfl) (by kernel_rfl)
      (by rw [MakeChecks.laidMetH_plain _ _ _ (by kernel_rfl)]; exact laidMet_laidAll _ (by kernel_rfl) (by kernel_rfl))) ?_
  intro W base args ds gs before hval0 hW _ hsz0 _ _
  have hval : ∀ (j : Nat) t v, Tryz.f8.params[j]? = some t → args[j]? = some v → Value.okWide Tryz.prog W .any base t v := hval0
  have hsz : (DataW.weightsEach Tryz.prog (Tryz.f8.params.toList ++ Rows.sheetSlotsSpec.plain.varTypes Tryz.prog) (ds ++ gs)).all (· ≤ reachBytes) = true := hsz0
  have hW' := hW
  obtain ⟨p, q, hA0, hV, rfl, _, _⟩ := hW
  have hA : DataW.TrodAll enc Tryz.prog W 0 (fun _ => true) true Tryz.f8.params.toList args.toList ds p := hA0
  rw [Tryz.params8] at hA hval hsz
  obtain ⟨v0, v1, v2, d0, d1, d2, p0, p1, p2, rfl, rfl, rfl, h0, h1, h2⟩ := trodAll_three hA
  obtain ⟨rfl, rfl⟩ := trodVars_none hV
  have hlt := hW'.lt
  have o0 := hval 0 _ _ rfl rfl
  have o1 := hval 1 _ _ rfl rfl
  have o2 := hval 2 _ _ rfl rfl
  have hsz2 := fun u hu => of_decide_eq_true (List.all_eq_true.1 hsz u hu)
  obtain ⟨nl, l, hl, _, hrl⟩ := arg_slots h0 (fun u hu => hsz2 u (DataW.weights_mem_each (j := 0) rfl rfl u hu)) (slice_cells Tryz.underlying22 o0)
  obtain ⟨f, la, i, p, rfl⟩ := arg_times h1 o1
  obtain ⟨a, b, c, rfl⟩ := arg_day h2 o2
  refine (sheetSlots_any W v0 nl l f la i p a b c hl hrl).mono fun e W' ⟨he, hb⟩ => ?_
  subst he
  exact ⟨_, rfl, _, _, _, [], _, [], hW', trodAll_mk1 (shut_bool Tryz.underlying4 _), trodAll_mk3 (Below.trod laidOut (by kernel_rfl) (of_decide_eq_true (by kernel_rfl)) h0 hb (fun x hx => hlt x (by simp [hx]))) (Below.trod laidOut (by kernel_rfl) (of_decide_eq_true (by kernel_rfl)) h1 hb (fun x hx => hlt x (by simp [hx]))) (Below.trod laidOut (by kernel_rfl) (of_decide_eq_true (by kernel_rfl)) h2 hb (fun x hx => hlt x (by simp [hx]))), rfl, hb.frame _, fun h => by cases h⟩
theorem sheetSlots_row : Rows.SheetSlotsSaid :=
  OpenClaim.holds_of_wide 8 Tryz.f8 rfl rfl rfl rfl rfl rfl rfl ⟨rfl, rfl, rfl, rfl, rfl⟩ rfl rfl rfl rfl rfl (by kernel_rfl) Tryz.func8 (by kernel_rfl)
    (of_decide_eq_true (by kernel_rfl)) (by unfold Func.isWrapper; first | (rw [if_pos (by decide +kernel)]; kernel_rfl) | (rw [if_neg (by decide +kernel)]; exact ⟨rfl, rfl⟩))
    (fun os started H enc _ => sheetSlots_lifted os started H enc)
theorem sheetSlots_holds : Rows.SheetSlotsCardSaid :=
  Claim7.holds_tied_plain_at .later [] [.data, .data, .data] true (true, "f6c4a8048ce4d4833f0bc57e08043a223514b80000243781f6551581ed2f6cc5") false
    sheetSlots_row (fun _ h => by cases h) (by kernel_rfl) (fun _ h => by cases h) sheetSlots_row_tie rfl ⟨rfl, rfl⟩ (by kernel_rfl) rfl
    (fun f fn hf hfn => by
      obtain rfl : f = 8 := Option.some.inj ((show Tryz.prog.funcNamed "niblick/niblicklaw08.SheetSlots" = some 8 by kernel_rfl).symm.trans hf) |>.symm
      obtain rfl : fn = Tryz.f8 := (Option.some.inj (Tryz.func8.symm.trans hfn)).symm
      exact ⟨by kernel_rfl, fun j t ht => by
        rw [Tryz.params8] at ht
        have hm : t ∈ [22, 74, 75] := by simpa using Array.mem_of_getElem? ht
        have hall : ([22, 74, 75].all fun u => !Tryz.prog.wantsStandIn u) = true := by kernel_rfl
        exact (show Tryz.prog.wantsStandIn t = false by simpa using List.all_eq_true.1 hall t hm)⟩)
    (by kernel_rfl)
#print axioms sheetSlots_holds
end Go.Proofs.YtbjjojoggpepjaaGreatDoor
