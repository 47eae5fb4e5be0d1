/- Part 44 of the walks of the golf union's program: DW1. -/
import Derived.Test.YtkkkfjinflepmaaGreatDoorB43
import Derived.Laws.StructEq
set_option linter.unusedVariables false
set_option linter.unusedSimpArgs false
set_option linter.unusedSectionVars false
set_option linter.constructorNameAsVariable false
/- The fixed example of the Divot laws (printed by gen_won.py). -/
namespace Go.Proofs.YtkkkfjinflepmaaGreatDoor
open Go.RowKit Go.Mem Go.Sheet Go.Adj
attribute [local go_sem] Oper.semAt_some
theorem eqg_stateD (op : BinOp) (x y : Operand) (xs ys : Array Value) (w : World) : (eqGuard op 95 x y (.agg xs) (.agg ys)).run Tryz.prog w = .ok () w := run_eqGuard_agg w op _ x y xs ys (by kernel_rfl)
theorem eql_stateD (w : World) : (binOp .eql 95 (.agg #[.int .i64 0, .int .i64 0, .bool true]) (.agg #[.int .i64 0, .int .i64 0, .bool true])).run Tryz.prog w = .ok (.bool true) w := by
  rw [run_eql_struct, run_equalIn_agg w 9999 _ _ _ (by kernel_rfl) (by kernel_rfl)]
  have hf : (Tryz.prog.fieldsOf 95).toList.map (fun f => (f.name != "_", f.type, f.offset)) = [(true, 3, 0), (true, 3, 1), (true, 4, 2)] := by kernel_rfl
  generalize (Tryz.prog.fieldsOf 95).toList = L at *
  have hL : ∃ f1 f2 f3, L = [f1, f2, f3] := by
    match L, congrArg List.length hf with
    | [f1, f2, f3], _ => exact ⟨f1, f2, f3, rfl⟩
  obtain ⟨f1, f2, f3, rfl⟩ := hL
  obtain ⟨⟨h1, h2, h3⟩, ⟨h4, h5, h6⟩, h7, h8, h9⟩ : (f1.name ≠ "_" ∧ f1.type = 3 ∧ f1.offset = 0) ∧ (f2.name ≠ "_" ∧ f2.type = 3 ∧ f2.offset = 1) ∧ (f3.name ≠ "_" ∧ f3.type = 4 ∧ f3.offset = 2) := by simpa using hf
  simp only [Op.eqFields, h2, h3, h5, h6, h8, h9]
  simp [go_sem, Tryz.underlying3, Tryz.underlying4]
set_option maxRecDepth 100000 in
set_option maxHeartbeats 8000000 in
theorem divotWon_ok (W : World) : Calls Tryz.prog 9 #[] W fun e w' => e = .returned (.bool true) ∧ Below W.heap.size W w' := by
  go_enter Tryz.func9, Tryz.ntmps9
  go_wp2_with fail
  go_at_call 32
  refine (divotCard_ok W _ 4 4 4).mono ?_
  rintro e w1 ⟨ga, rfl, S1⟩
  have HS1 := Lib.hid S1
  clear S1
  go_wp2_with fail
  go_at_call 32
  refine (divotCard_ok w1 _ 4 3 5).mono ?_
  rintro e w2 ⟨gb, rfl, S2⟩
  have S3 := (((HS1.out.call S2)).blk_new #[.string ⟨#[97, 110, 110]⟩, .slice (some ⟨ga, 0, none⟩) 3 3, .int .i64 0] 37).blk_new #[.string ⟨#[98, 111, 98]⟩, .slice (some ⟨gb, 0, none⟩) 3 3, .int .i64 0] 37
  simp only [List.cons_append, List.nil_append, World.size_alloc] at S3
  have HS3 := Lib.hid S3
  clear S2 S3 HS1
  go_wp2_with fail
  obtain ⟨pa, hpa⟩ : ∃ p, p = w2.heap.size := ⟨_, rfl⟩
  obtain ⟨pb, hpb⟩ : ∃ p, p = w2.heap.size + 1 := ⟨_, rfl⟩
  rw [← hpb, ← hpa] at HS3 ⊢
  clear hpa hpb
  have HS3 : Hid (St W _ [row 138 2 (.slice (some ⟨ga, 0, none⟩) 3 3) 3 ((esD 4 4 4).flatMap EI.cells), row 138 2 (.slice (some ⟨gb, 0, none⟩) 3 3) 3 ((esD 4 3 5).flatMap EI.cells), blk pa 37 #[.string ⟨#[97, 110, 110]⟩, .slice (some ⟨ga, 0, none⟩) 3 3, .int .i64 0], blk pb 37 #[.string ⟨#[98, 111, 98]⟩, .slice (some ⟨gb, 0, none⟩) 3 3, .int .i64 0]]) := HS3.out
  generalize World.alloc _ _ = w3 at *
  obtain ⟨RA, hRA⟩ : ∃ R, R = row 138 2 (.slice (some ⟨ga, 0, none⟩) 3 3) 3 ((esD 4 4 4).flatMap EI.cells) := ⟨_, rfl⟩
  obtain ⟨RB, hRB⟩ : ∃ R, R = row 138 2 (.slice (some ⟨gb, 0, none⟩) 3 3) 3 ((esD 4 3 5).flatMap EI.cells) := ⟨_, rfl⟩
  obtain ⟨PA, hPA⟩ : ∃ R, R = blk pa 37 #[.string ⟨#[97, 110, 110]⟩, .slice (some ⟨ga, 0, none⟩) 3 3, .int .i64 0] := ⟨_, rfl⟩
  obtain ⟨PB, hPB⟩ : ∃ R, R = blk pb 37 #[.string ⟨#[98, 111, 98]⟩, .slice (some ⟨gb, 0, none⟩) 3 3, .int .i64 0] := ⟨_, rfl⟩
  have HFA : Hid (∀ w' L, St W w' (RA :: RB :: PA :: PB :: L) → w'.cell? ⟨pa, 0, none⟩ = some (.string ⟨#[97, 110, 110]⟩) ∧ w'.cell? ⟨pa, 1, none⟩ = some (.slice (some ⟨ga, 0, none⟩) 3 3) ∧ w'.cell? ⟨pa, 2, none⟩ = some (.int .i64 0)) := fun w' L h => by
    rw [hPA] at h
    exact ⟨h.blk_cell (i := 2) rfl 0, h.blk_cell (i := 2) rfl 1, h.blk_cell (i := 2) rfl 2⟩
  have HFB : Hid (∀ w' L, St W w' (RA :: RB :: PA :: PB :: L) → w'.cell? ⟨pb, 0, none⟩ = some (.string ⟨#[98, 111, 98]⟩) ∧ w'.cell? ⟨pb, 1, none⟩ = some (.slice (some ⟨gb, 0, none⟩) 3 3) ∧ w'.cell? ⟨pb, 2, none⟩ = some (.int .i64 0)) := fun w' L h => by
    rw [hPB] at h
    exact ⟨h.blk_cell (i := 3) rfl 0, h.blk_cell (i := 3) rfl 1, h.blk_cell (i := 3) rfl 2⟩
  have HEA : Hid (∀ w' vh L, St W w' (RA :: RB :: PA :: PB :: row 147 2 vh 3 (hsD.flatMap HI.cells) :: L) → CEnv w' vh (.slice (some ⟨ga, 0, none⟩) 3 3) 3 hsD (esD 4 4 4) (⟨#[97, 110, 110]⟩ : ByteArray)) := fun w' vh L h => by
    rw [hRA] at h
    exact ⟨(h.row_rd (i := 4) rfl).now, (h.row_rd (i := 0) rfl).now, goodHD, annOk, by decide, goodED 4 4 4 (by omega)⟩
  have HEB : Hid (∀ w' vh L, St W w' (RA :: RB :: PA :: PB :: row 147 2 vh 3 (hsD.flatMap HI.cells) :: L) → CEnv w' vh (.slice (some ⟨gb, 0, none⟩) 3 3) 3 hsD (esD 4 3 5) (⟨#[98, 111, 98]⟩ : ByteArray)) := fun w' vh L h => by
    rw [hRB] at h
    exact ⟨(h.row_rd (i := 4) rfl).now, (h.row_rd (i := 1) rfl).now, goodHD, bobOk, by decide, goodED 4 3 5 (by omega)⟩
  have HSA : Hid (∀ w' vh L, St W w' (RA :: RB :: PA :: PB :: row 147 2 vh 3 (hsD.flatMap HI.cells) :: L) → Calls Tryz.prog 33 #[vh, .agg #[.string ⟨#[97, 110, 110]⟩, .slice (some ⟨ga, 0, none⟩) 3 3, .int .i64 0]] w' fun e w2 => e = .returned (.tuple #[.int .i64 12, .int .i64 0]) ∧ Below w'.heap.size w' w2) := fun w' vh L h => by
    have := score_any w' vh _ 3 hsD (esD 4 4 4) _ 0 (by omega) (HEA.out w' vh L h)
    rw [scoreA.1, if_pos rfl, scoreA.2] at this
    exact this
  have HSB : Hid (∀ w' vh L, St W w' (RA :: RB :: PA :: PB :: row 147 2 vh 3 (hsD.flatMap HI.cells) :: L) → Calls Tryz.prog 33 #[vh, .agg #[.string ⟨#[98, 111, 98]⟩, .slice (some ⟨gb, 0, none⟩) 3 3, .int .i64 0]] w' fun e w2 => e = .returned (.tuple #[.int .i64 12, .int .i64 0]) ∧ Below w'.heap.size w' w2) := fun w' vh L h => by
    have := score_any w' vh _ 3 hsD (esD 4 3 5) _ 0 (by omega) (HEB.out w' vh L h)
    rw [scoreB.1, if_pos rfl, scoreB.2] at this
    exact this
  have HMT : Hid (∀ w' vh L, St W w' (RA :: RB :: PA :: PB :: row 147 2 vh 3 (hsD.flatMap HI.cells) :: L) → Calls Tryz.prog 35 #[vh, .agg #[.string ⟨#[97, 110, 110]⟩, .slice (some ⟨ga, 0, none⟩) 3 3, .int .i64 0], .agg #[.string ⟨#[98, 111, 98]⟩, .slice (some ⟨gb, 0, none⟩) 3 3, .int .i64 0]] w' fun e w2 => ∃ v', e = .returned (.tuple #[v', .int .i64 0]) ∧
      St w' w2 [row 95 3 v' 3 [.int .i64 0, .int .i64 2, .bool false, .int .i64 (-1), .int .i64 1, .bool false, .int .i64 0, .int .i64 0, .bool true]]) := fun w' vh L h => by
    have := formatMatch_ok w' vh _ _ 3 hsD (esD 4 4 4) (esD 4 3 5) _ _ 0 0 (by omega) (by omega) (by decide) (HEA.out w' vh L h) (HEB.out w' vh L h)
    rw [matD] at this
    exact this
  have HRA : Hid (∀ w' L, St W w' (RA :: L) → True) := fun _ _ _ => trivial
  rw [← hRA, ← hRB, ← hPA, ← hPB] at HS3
  clear hRA hRB hPA hPB
  refine wp_head_tail3 0 7 6 [] [1] rfl (fun w' => ∃ L, St W w' (RA :: RB :: PA :: PB :: L))
    (fun a a' w' => ∃ (vh : Value), a' = ((((((a.put (some 19) vh).put (some 21) (.tuple #[.int .i64 12, .int .i64 0])).put (some 18) (.tuple #[.int .i64 12, .int .i64 0])).put (some 22) (.int .i64 12)).put (some 23) (.int .i64 0)).put (some 3) (.int .i64 12)) ∧ St W w' [RA, RB, PA, PB]) (by kernel_rfl) (by kernel_rfl) ⟨_, HS3.out.drew⟩ ?_
  simp only [pick, List.filterMap_cons, List.filterMap_nil, List.getElem?_toArray, List.getElem?_cons_succ, List.getElem?_cons_zero]
  generalize hK : (fun w' : World => ∃ L, St W w' (RA :: RB :: PA :: PB :: L)) = K
  have kK : ∀ y : Wd K, ∃ L, St W y.w (RA :: RB :: PA :: PB :: L) := by subst hK; exact fun y => y.h
  have hKd : ∀ (w' : World) (L : List Asr), St W w' (RA :: RB :: PA :: PB :: L) → K w' := by
    intro w' L h
    subst hK
    exact ⟨L, h⟩
  have SD := Lib.hid HS3.out.drew
  have hne : Nonempty (Wd K) := ⟨⟨_, hKd _ _ SD.out⟩⟩
  have y0 : ∀ y : Wd K, y.w.cell? ⟨pa, 0, none⟩ = some (.string ⟨#[97, 110, 110]⟩) := fun y => (HFA.out _ _ (kK y).choose_spec).1
  have y1 : ∀ y : Wd K, y.w.cell? ⟨pa, 1, none⟩ = some (.slice (some ⟨ga, 0, none⟩) 3 3) := fun y => (HFA.out _ _ (kK y).choose_spec).2.1
  have y2 : ∀ y : Wd K, y.w.cell? ⟨pa, 2, none⟩ = some (.int .i64 0) := fun y => (HFA.out _ _ (kK y).choose_spec).2.2
  clear hK kK
  refine wpQuiet_nil ?_
  change wpQuiet _ _ _ _ (_ :: []) _
  repeat (go_big_quiet_step ((fail)))
  refine wpQuiet_nil ?_
  clear y0 y1 y2
  generalize World.drew _ = wd at *
  refine ⟨?_, ?_⟩
  · as_aux_lemma =>
    refine headW_all (rs := [0]) (by kernel_rfl) (by decide) (by decide) (List.forall_mem_cons.2 ⟨?_, List.forall_mem_nil _⟩)
    refine wpOp_list (o := _) rfl ?_
    intro Q' hQ'
    go_wp2_with (go_at_call 34; refine (divotHoles_ok _).mono ?_; rintro e wh ⟨vh, rfl, Sh⟩)
    have SH := SD.out.call Sh
    simp only [List.cons_append, List.nil_append] at SH
    have HSH := Lib.hid SH
    refine ⟨hKd _ _ SH, ?_⟩
    clear Sh SH
    refine headW_all (rs := [2]) (by kernel_rfl) (by decide) (by decide) (List.forall_mem_cons.2 ⟨?_, List.forall_mem_nil _⟩)
    refine wpOp_list (o := _) rfl ?_
    intro Q' hQ'
    go_wp2_with (go_at_call 33; refine (HSA.out _ _ _ HSH.out).mono ?_; rintro e wm ⟨rfl, hbm⟩)
    have SM := HSH.out.ext hbm
    have SF := SM.sub (L' := [_, _, _, _]) (List.sublist_append_left [_, _, _, _] [_])
    have hkm := hKd _ _ SM
    refine ⟨hkm, ?_⟩
    refine headW_all (rs := [3]) (by kernel_rfl) (by decide) (by decide) (List.forall_mem_cons.2 ⟨?_, List.forall_mem_nil _⟩)
    refine wpOp_list (o := _) rfl ?_
    intro Q' hQ'
    go_wp2_with fail
    refine ⟨hkm, ?_⟩
    refine headW_all (rs := [4, 5]) (by kernel_rfl) (by decide) (by decide) (List.forall_mem_cons.2 ⟨?_, List.forall_mem_cons.2 ⟨?_, List.forall_mem_nil _⟩⟩)
    · as_aux_lemma =>
      refine wpOp_list (o := _) rfl ?_
      intro Q' hQ'
      go_wp2_with fail
      refine ⟨hkm, ?_⟩
      refine headW_all (rs := [5, 6]) (by kernel_rfl) (by decide) (by decide) (List.forall_mem_cons.2 ⟨?_, List.forall_mem_cons.2 ⟨?_, List.forall_mem_nil _⟩⟩)
      · refine wpOp_list (o := _) rfl ?_
        intro Q' hQ'
        go_wp2_with fail
        refine ⟨hkm, ?_⟩
        refine headW_all (rs := [6]) (by kernel_rfl) (by decide) (by decide) (List.forall_mem_cons.2 ⟨?_, List.forall_mem_nil _⟩)
        refine wpOp_list (o := _) rfl ?_
        intro Q' hQ'
        go_wp2_with fail
        refine ⟨hkm, ?_⟩
        exact ⟨by kernel_rfl, vh, by kernel_rfl, SF⟩
      · refine wpOp_list (o := _) rfl ?_
        intro Q' hQ'
        go_wp2_with fail
        refine ⟨hkm, ?_⟩
        refine headW_all (rs := [5]) (by kernel_rfl) (by decide) (by decide) (List.forall_mem_cons.2 ⟨?_, List.forall_mem_nil _⟩)
        refine wpOp_list (o := _) rfl ?_
        intro Q' hQ'
        go_wp2_with fail
        refine ⟨hkm, ?_⟩
        exact ⟨by kernel_rfl, vh, by kernel_rfl, SF⟩
    · as_aux_lemma =>
      refine wpOp_list (o := _) rfl ?_
      intro Q' hQ'
      go_wp2_with fail
      refine ⟨hkm, ?_⟩
      refine headW_all (rs := [4]) (by kernel_rfl) (by decide) (by decide) (List.forall_mem_cons.2 ⟨?_, List.forall_mem_nil _⟩)
      refine wpOp_list (o := _) rfl ?_
      intro Q' hQ'
      go_wp2_with fail
      refine ⟨hkm, ?_⟩
      refine headW_all (rs := [6]) (by kernel_rfl) (by decide) (by decide) (List.forall_mem_cons.2 ⟨?_, List.forall_mem_nil _⟩)
      refine wpOp_list (o := _) rfl ?_
      intro Q' hQ'
      go_wp2_with fail
      refine ⟨hkm, ?_⟩
      exact ⟨by kernel_rfl, vh, by kernel_rfl, SF⟩
  rintro a' w4 ⟨vh, rfl, S4⟩
  have HS4 := Lib.hid S4
  clear S4 hKd hne SD HS3
  go_wp2_with fail
  refine NoPanic.normal ?_
  go_wp2_with fail
  refine wp_head_tail3 0 7 6 [] [1] rfl (fun w' => ∃ L, St W w' (RA :: RB :: PA :: PB :: L))
    (fun a a' w' => ∃ (vh : Value), a' = ((((((a.put (some 25) vh).put (some 27) (.tuple #[.int .i64 12, .int .i64 0])).put (some 24) (.tuple #[.int .i64 12, .int .i64 0])).put (some 28) (.int .i64 12)).put (some 29) (.int .i64 0)).put (some 5) (.int .i64 12)) ∧ St W w' [RA, RB, PA, PB]) (by kernel_rfl) (by kernel_rfl) ⟨_, HS4.out.drew⟩ ?_
  simp only [pick, List.filterMap_cons, List.filterMap_nil, List.getElem?_toArray, List.getElem?_cons_succ, List.getElem?_cons_zero]
  generalize hK : (fun w' : World => ∃ L, St W w' (RA :: RB :: PA :: PB :: L)) = K
  have kK : ∀ y : Wd K, ∃ L, St W y.w (RA :: RB :: PA :: PB :: L) := by subst hK; exact fun y => y.h
  have hKd : ∀ (w' : World) (L : List Asr), St W w' (RA :: RB :: PA :: PB :: L) → K w' := by
    intro w' L h
    subst hK
    exact ⟨L, h⟩
  have SD := Lib.hid HS4.out.drew
  have hne : Nonempty (Wd K) := ⟨⟨_, hKd _ _ SD.out⟩⟩
  have y0 : ∀ y : Wd K, y.w.cell? ⟨pb, 0, none⟩ = some (.string ⟨#[98, 111, 98]⟩) := fun y => (HFB.out _ _ (kK y).choose_spec).1
  have y1 : ∀ y : Wd K, y.w.cell? ⟨pb, 1, none⟩ = some (.slice (some ⟨gb, 0, none⟩) 3 3) := fun y => (HFB.out _ _ (kK y).choose_spec).2.1
  have y2 : ∀ y : Wd K, y.w.cell? ⟨pb, 2, none⟩ = some (.int .i64 0) := fun y => (HFB.out _ _ (kK y).choose_spec).2.2
  clear hK kK
  refine wpQuiet_nil ?_
  change wpQuiet _ _ _ _ (_ :: []) _
  repeat (go_big_quiet_step ((fail)))
  refine wpQuiet_nil ?_
  clear y0 y1 y2
  generalize World.drew _ = wd at *
  refine ⟨?_, ?_⟩
  · as_aux_lemma =>
    refine headW_all (rs := [0]) (by kernel_rfl) (by decide) (by decide) (List.forall_mem_cons.2 ⟨?_, List.forall_mem_nil _⟩)
    refine wpOp_list (o := _) rfl ?_
    intro Q' hQ'
    go_wp2_with (go_at_call 34; refine (divotHoles_ok _).mono ?_; rintro e wh ⟨vh, rfl, Sh⟩)
    have SH := SD.out.call Sh
    simp only [List.cons_append, List.nil_append] at SH
    have HSH := Lib.hid SH
    refine ⟨hKd _ _ SH, ?_⟩
    clear Sh SH
    refine headW_all (rs := [2]) (by kernel_rfl) (by decide) (by decide) (List.forall_mem_cons.2 ⟨?_, List.forall_mem_nil _⟩)
    refine wpOp_list (o := _) rfl ?_
    intro Q' hQ'
    go_wp2_with (go_at_call 33; refine (HSB.out _ _ _ HSH.out).mono ?_; rintro e wm ⟨rfl, hbm⟩)
    have SM := HSH.out.ext hbm
    have SF := SM.sub (L' := [_, _, _, _]) (List.sublist_append_left [_, _, _, _] [_])
    have hkm := hKd _ _ SM
    refine ⟨hkm, ?_⟩
    refine headW_all (rs := [3]) (by kernel_rfl) (by decide) (by decide) (List.forall_mem_cons.2 ⟨?_, List.forall_mem_nil _⟩)
    refine wpOp_list (o := _) rfl ?_
    intro Q' hQ'
    go_wp2_with fail
    refine ⟨hkm, ?_⟩
    refine headW_all (rs := [4, 5]) (by kernel_rfl) (by decide) (by decide) (List.forall_mem_cons.2 ⟨?_, List.forall_mem_cons.2 ⟨?_, List.forall_mem_nil _⟩⟩)
    · as_aux_lemma =>
      refine wpOp_list (o := _) rfl ?_
      intro Q' hQ'
      go_wp2_with fail
      refine ⟨hkm, ?_⟩
      refine headW_all (rs := [5, 6]) (by kernel_rfl) (by decide) (by decide) (List.forall_mem_cons.2 ⟨?_, List.forall_mem_cons.2 ⟨?_, List.forall_mem_nil _⟩⟩)
      · refine wpOp_list (o := _) rfl ?_
        intro Q' hQ'
        go_wp2_with fail
        refine ⟨hkm, ?_⟩
        refine headW_all (rs := [6]) (by kernel_rfl) (by decide) (by decide) (List.forall_mem_cons.2 ⟨?_, List.forall_mem_nil _⟩)
        refine wpOp_list (o := _) rfl ?_
        intro Q' hQ'
        go_wp2_with fail
        refine ⟨hkm, ?_⟩
        exact ⟨by kernel_rfl, vh, by kernel_rfl, SF⟩
      · refine wpOp_list (o := _) rfl ?_
        intro Q' hQ'
        go_wp2_with fail
        refine ⟨hkm, ?_⟩
        refine headW_all (rs := [5]) (by kernel_rfl) (by decide) (by decide) (List.forall_mem_cons.2 ⟨?_, List.forall_mem_nil _⟩)
        refine wpOp_list (o := _) rfl ?_
        intro Q' hQ'
        go_wp2_with fail
        refine ⟨hkm, ?_⟩
        exact ⟨by kernel_rfl, vh, by kernel_rfl, SF⟩
    · as_aux_lemma =>
      refine wpOp_list (o := _) rfl ?_
      intro Q' hQ'
      go_wp2_with fail
      refine ⟨hkm, ?_⟩
      refine headW_all (rs := [4]) (by kernel_rfl) (by decide) (by decide) (List.forall_mem_cons.2 ⟨?_, List.forall_mem_nil _⟩)
      refine wpOp_list (o := _) rfl ?_
      intro Q' hQ'
      go_wp2_with fail
      refine ⟨hkm, ?_⟩
      refine headW_all (rs := [6]) (by kernel_rfl) (by decide) (by decide) (List.forall_mem_cons.2 ⟨?_, List.forall_mem_nil _⟩)
      refine wpOp_list (o := _) rfl ?_
      intro Q' hQ'
      go_wp2_with fail
      refine ⟨hkm, ?_⟩
      exact ⟨by kernel_rfl, vh, by kernel_rfl, SF⟩
  rintro a' w5 ⟨vh, rfl, S5⟩
  have HS5 := Lib.hid S5
  clear S5 hKd hne SD HS4
  go_wp2_with fail
  refine NoPanic.normal ?_
  go_wp2_with fail
  have S6 := (((HS5.out.row_new (e := 3) (size := 1) (n := 1) #[.int .i64 12] (by decide) rfl).row_new (e := 3) (size := 1) (n := 1) #[.int .i64 12] (by decide) rfl).row_new (e := 89) (size := 4) (n := 2) #[.string ⟨#[97, 110, 110]⟩, .bool false, .slice (some ⟨w5.heap.size, 0, none⟩) 1 1, .string ⟨#[]⟩, .string ⟨#[98, 111, 98]⟩, .bool false, .slice (some ⟨w5.heap.size + 1, 0, none⟩) 1 1, .string ⟨#[]⟩] (by decide) rfl).row_new (e := 3) (size := 1) (n := 2) #[.int .i64 101, .int .i64 50] (by decide) rfl
  simp only [List.cons_append, List.nil_append, World.size_alloc] at S6
  obtain ⟨g0, hg0⟩ : ∃ g, g = w5.heap.size := ⟨_, rfl⟩
  rw [← hg0] at S6 ⊢
  clear hg0
  generalize World.alloc _ _ = w6 at *
  have HPZ : Hid (Calls Tryz.prog 14 #[.slice (some ⟨g0 + 1 + 1, 0, none⟩) 2 2, .slice (some ⟨g0 + 1 + 1 + 1, 0, none⟩) 2 2] w6 fun e w' => ∃ v', e = .returned (.tuple #[v', .int .i64 0]) ∧ St w6 w' [row 3 1 v' 2 (intsI [76, 75])]) := by
    have := eventPrizes_ok w6 (.slice (some ⟨g0 + 1 + 1, 0, none⟩) 2 2) (.slice (some ⟨g0 + 1 + 1 + 1, 0, none⟩) 2 2) 2 2 [⟨annD, some ⟨g0, 0, none⟩, 1, 12⟩, ⟨bobD, some ⟨g0 + 1, 0, none⟩, 1, 12⟩] gD (by omega) (by omega)
      ⟨(S6.row_rd (i := 6) rfl).now, fun x hx => by
        simp only [List.mem_cons, List.not_mem_nil, or_false] at hx
        rcases hx with rfl | rfl
        · exact (S6.row_rd (i := 4) rfl).now
        · exact (S6.row_rd (i := 5) rfl).now⟩
      (fun x hx => by
        simp only [List.mem_cons, List.not_mem_nil, or_false] at hx
        rcases hx with rfl | rfl <;> exact ⟨by show (1 : Int) ≤ 12; decide, by show (12 : Int) ≤ 9999; decide⟩)
      ⟨fun i hi => by
        have : i = 0 ∨ i = 1 := by omega
        rcases this with rfl | rfl
        · exact ⟨annOk, by show annD.size ≤ 9223372036854775807; decide⟩
        · exact ⟨bobOk, by show bobD.size ≤ 9223372036854775807; decide⟩, fun i j hi hj => by
        obtain ⟨rfl, rfl⟩ : i = 1 ∧ j = 0 := by omega
        show annD ≠ bobD
        decide⟩
      (S6.row_rd (i := 7) rfl).now goodPD
    rw [prizeD] at this
    exact this
  have HS6 := Lib.hid S6
  clear S6 HS5
  go_at_call 14
  refine HPZ.out.mono ?_
  rintro e w7 ⟨vz, rfl, Sz⟩
  have S7 := HS6.out.call Sz
  simp only [List.cons_append, List.nil_append] at S7
  have S8 := S7.sub (L' := [RA, RB, PA, PB, _]) (.cons_cons _ (.cons_cons _ (.cons_cons _ (.cons_cons _ (.cons _ (.cons _ (.cons _ (.cons _ (List.Sublist.refl _)))))))))
  obtain ⟨bz, cz, rfl⟩ := row_some S8 (i := 4) rfl (by omega)
  have S9 := S8.row_new (e := 3) (size := 1) (n := 2) #[.int .i64 1, .int .i64 1] (by decide) rfl
  simp only [List.cons_append, List.nil_append] at S9
  have HSR := Lib.hid (shares_ones _ _ 2 151 (by omega) (by omega) (S9.row_rd (i := 5) rfl).now)
  rw [sharesD] at HSR
  have HS9 := Lib.hid S9
  clear Sz S7 S8 S9 HS6 HPZ
  go_wp2_with fail
  go_at_call 15
  refine HSR.out.mono ?_
  rintro e w8 ⟨vs, rfl, Ss⟩
  have S10 := HS9.out.call Ss
  simp only [List.cons_append, List.nil_append] at S10
  have S11 := S10.sub (L' := [RA, RB, PA, PB, _, _]) (.cons_cons _ (.cons_cons _ (.cons_cons _ (.cons_cons _ (.cons_cons _ (.cons _ (List.Sublist.refl _)))))))
  obtain ⟨bs, cs, rfl⟩ := row_some S11 (i := 5) rfl (by omega)
  obtain ⟨RZ, hRZ⟩ : ∃ R, R = row 3 1 (.slice (some ⟨bz, 0, none⟩) 2 cz) 2 (intsI [76, 75]) := ⟨_, rfl⟩
  obtain ⟨RS5, hRS⟩ : ∃ R, R = row 3 1 (.slice (some ⟨bs, 0, none⟩) 2 cs) 2 (intsI [76, 75]) := ⟨_, rfl⟩
  rw [← hRZ, ← hRS] at S11
  have HRZ := Lib.hid hRZ
  have HRS := Lib.hid hRS
  have HS11 := Lib.hid S11
  clear Ss S10 S11 HS9 HSR hRZ hRS
  go_wp2_with fail
  refine wp_head_tail3 0 8 6 [] [1, 2] rfl (fun w' => ∃ L, St W w' (RA :: RB :: PA :: PB :: L))
    (fun a a' w' => ∃ (vh vm : Value), a' = ((((((a.put (some 49) vh).put (some 52) (.tuple #[vm, .int .i64 0])).put (some 48) (.tuple #[vm, .int .i64 0])).put (some 53) (vm)).put (some 54) (.int .i64 0)).put (some 12) (vm)) ∧ St W w' [RA, RB, PA, PB, RZ, RS5, row 95 3 vm 3 [.int .i64 0, .int .i64 2, .bool false, .int .i64 (-1), .int .i64 1, .bool false, .int .i64 0, .int .i64 0, .bool true]]) (by kernel_rfl) (by kernel_rfl) ⟨_, HS11.out.drew⟩ ?_
  simp only [pick, List.filterMap_cons, List.filterMap_nil, List.getElem?_toArray, List.getElem?_cons_succ, List.getElem?_cons_zero]
  generalize hK : (fun w' : World => ∃ L, St W w' (RA :: RB :: PA :: PB :: L)) = K
  have kK : ∀ y : Wd K, ∃ L, St W y.w (RA :: RB :: PA :: PB :: L) := by subst hK; exact fun y => y.h
  have hKd : ∀ (w' : World) (L : List Asr), St W w' (RA :: RB :: PA :: PB :: L) → K w' := by
    intro w' L h
    subst hK
    exact ⟨L, h⟩
  have SD := Lib.hid HS11.out.drew
  have hne : Nonempty (Wd K) := ⟨⟨_, hKd _ _ SD.out⟩⟩
  have y0 : ∀ y : Wd K, y.w.cell? ⟨pa, 0, none⟩ = some (.string ⟨#[97, 110, 110]⟩) := fun y => (HFA.out _ _ (kK y).choose_spec).1
  have y1 : ∀ y : Wd K, y.w.cell? ⟨pa, 1, none⟩ = some (.slice (some ⟨ga, 0, none⟩) 3 3) := fun y => (HFA.out _ _ (kK y).choose_spec).2.1
  have y2 : ∀ y : Wd K, y.w.cell? ⟨pa, 2, none⟩ = some (.int .i64 0) := fun y => (HFA.out _ _ (kK y).choose_spec).2.2
  have y3 : ∀ y : Wd K, y.w.cell? ⟨pb, 0, none⟩ = some (.string ⟨#[98, 111, 98]⟩) := fun y => (HFB.out _ _ (kK y).choose_spec).1
  have y4 : ∀ y : Wd K, y.w.cell? ⟨pb, 1, none⟩ = some (.slice (some ⟨gb, 0, none⟩) 3 3) := fun y => (HFB.out _ _ (kK y).choose_spec).2.1
  have y5 : ∀ y : Wd K, y.w.cell? ⟨pb, 2, none⟩ = some (.int .i64 0) := fun y => (HFB.out _ _ (kK y).choose_spec).2.2
  clear hK kK
  refine wpQuiet_nil ?_
  change wpQuiet _ _ _ _ (_ :: _ :: []) _
  repeat (go_big_quiet_step ((fail)))
  refine wpQuiet_nil ?_
  clear y0 y1 y2 y3 y4 y5
  generalize World.drew _ = wd at *
  refine ⟨?_, ?_⟩
  · as_aux_lemma =>
    refine headW_all (rs := [0]) (by kernel_rfl) (by decide) (by decide) (List.forall_mem_cons.2 ⟨?_, List.forall_mem_nil _⟩)
    refine wpOp_list (o := _) rfl ?_
    intro Q' hQ'
    go_wp2_with (go_at_call 34; refine (divotHoles_ok _).mono ?_; rintro e wh ⟨vh, rfl, Sh⟩)
    have SH := SD.out.call Sh
    simp only [List.cons_append, List.nil_append] at SH
    have HSH := Lib.hid SH
    refine ⟨hKd _ _ SH, ?_⟩
    clear Sh SH
    refine headW_all (rs := [3]) (by kernel_rfl) (by decide) (by decide) (List.forall_mem_cons.2 ⟨?_, List.forall_mem_nil _⟩)
    refine wpOp_list (o := _) rfl ?_
    intro Q' hQ'
    go_wp2_with (go_at_call 35; refine (HMT.out _ _ _ (HSH.out.perm5 (.cons _ (.cons _ (.cons _ (.cons _ (List.perm_append_comm (l₁ := [_, _]) (l₂ := [_])))))))).mono ?_; rintro e wm ⟨vm, rfl, Sm⟩)
    have SM := HSH.out.call Sm
    simp only [List.cons_append, List.nil_append] at SM
    have SF := SM.sub (L' := [_, _, _, _, _, _, _]) (.cons_cons _ (.cons_cons _ (.cons_cons _ (.cons_cons _ (.cons_cons _ (.cons_cons _ (.cons _ (List.Sublist.refl _))))))))
    have hkm := hKd _ _ SM
    refine ⟨hkm, ?_⟩
    refine headW_all (rs := [4]) (by kernel_rfl) (by decide) (by decide) (List.forall_mem_cons.2 ⟨?_, List.forall_mem_nil _⟩)
    refine wpOp_list (o := _) rfl ?_
    intro Q' hQ'
    go_wp2_with fail
    refine ⟨hkm, ?_⟩
    refine headW_all (rs := [5, 6]) (by kernel_rfl) (by decide) (by decide) (List.forall_mem_cons.2 ⟨?_, List.forall_mem_cons.2 ⟨?_, List.forall_mem_nil _⟩⟩)
    · as_aux_lemma =>
      refine wpOp_list (o := _) rfl ?_
      intro Q' hQ'
      go_wp2_with fail
      refine ⟨hkm, ?_⟩
      refine headW_all (rs := [6, 7]) (by kernel_rfl) (by decide) (by decide) (List.forall_mem_cons.2 ⟨?_, List.forall_mem_cons.2 ⟨?_, List.forall_mem_nil _⟩⟩)
      · refine wpOp_list (o := _) rfl ?_
        intro Q' hQ'
        go_wp2_with fail
        refine ⟨hkm, ?_⟩
        refine headW_all (rs := [7]) (by kernel_rfl) (by decide) (by decide) (List.forall_mem_cons.2 ⟨?_, List.forall_mem_nil _⟩)
        refine wpOp_list (o := _) rfl ?_
        intro Q' hQ'
        go_wp2_with fail
        refine ⟨hkm, ?_⟩
        exact ⟨by kernel_rfl, vh, vm, by kernel_rfl, SF⟩
      · refine wpOp_list (o := _) rfl ?_
        intro Q' hQ'
        go_wp2_with fail
        refine ⟨hkm, ?_⟩
        refine headW_all (rs := [6]) (by kernel_rfl) (by decide) (by decide) (List.forall_mem_cons.2 ⟨?_, List.forall_mem_nil _⟩)
        refine wpOp_list (o := _) rfl ?_
        intro Q' hQ'
        go_wp2_with fail
        refine ⟨hkm, ?_⟩
        exact ⟨by kernel_rfl, vh, vm, by kernel_rfl, SF⟩
    · as_aux_lemma =>
      refine wpOp_list (o := _) rfl ?_
      intro Q' hQ'
      go_wp2_with fail
      refine ⟨hkm, ?_⟩
      refine headW_all (rs := [5]) (by kernel_rfl) (by decide) (by decide) (List.forall_mem_cons.2 ⟨?_, List.forall_mem_nil _⟩)
      refine wpOp_list (o := _) rfl ?_
      intro Q' hQ'
      go_wp2_with fail
      refine ⟨hkm, ?_⟩
      refine headW_all (rs := [7]) (by kernel_rfl) (by decide) (by decide) (List.forall_mem_cons.2 ⟨?_, List.forall_mem_nil _⟩)
      refine wpOp_list (o := _) rfl ?_
      intro Q' hQ'
      go_wp2_with fail
      refine ⟨hkm, ?_⟩
      exact ⟨by kernel_rfl, vh, vm, by kernel_rfl, SF⟩
  rintro a' w9 ⟨vh, vm, rfl, S12⟩
  obtain ⟨Am, cm, rfl, _, _, _⟩ := (S12.row_rd (i := 6) rfl).open_
  have S13 := S12.sub (L' := [RZ, RS5, _]) (.cons _ (.cons _ (.cons _ (.cons _ (List.Sublist.refl _)))))
  have S14 := ((S13.row_new (e := 9) (size := 1) (n := 2) #[.string ⟨#[97, 110, 110]⟩, .string ⟨#[98, 111, 98]⟩] (by decide) rfl).row_new (e := 9) (size := 1) (n := 1) #[.string ⟨#[98, 111, 98]⟩] (by decide) rfl).row_new (e := 32) (size := 1) (n := 1) #[.slice (some ⟨w9.heap.size + 1, 0, none⟩) 1 1] (by decide) rfl
  simp only [List.cons_append, List.nil_append, World.size_alloc] at S14
  have HS14 := Lib.hid S14
  clear S12 S13 S14 hKd hne SD HS11
  go_wp2_with fail
  refine NoPanic.normal ?_
  go_wp2_with fail
  obtain ⟨g9, hg9⟩ : ∃ g, g = w9.heap.size := ⟨_, rfl⟩
  rw [← hg9] at HS14 ⊢
  clear hg9
  generalize World.alloc _ _ = w10 at *
  have HRUN := Lib.hid (run_ok w10 (.slice (some ⟨g9, 0, none⟩) 2 2) (.slice (some ⟨g9 + 1 + 1, 0, none⟩) 1 1) 2 1 fD SD0 (fun _ => [1]) (by omega) (by omega) (HS14.out.row_rd (i := 3) rfl).now goodND rfl runD (by decide +kernel) ⟨[.slice (some ⟨g9 + 1, 0, none⟩) 1 1], (HS14.out.row_rd (i := 5) rfl).now, fun i hi => by
    obtain rfl : i = 0 := by omega
    exact ⟨_, rfl, (HS14.out.row_rd (i := 4) rfl).now⟩⟩)
  go_at_call 22
  refine HRUN.out.mono ?_
  rintro e w11 ⟨va, ms, rfl, hms, Sr⟩
  have S15 := HS14.out.call Sr
  simp only [List.cons_append, List.nil_append] at S15
  have S16 := S15.sub (L' := [RZ, RS5, _, _, _]) (.cons_cons _ (.cons_cons _ (.cons_cons _ (.cons _ (.cons _ (.cons _ (.cons_cons _ (.cons_cons _ (List.Sublist.refl _)))))))))
  obtain ⟨v0, x0, v1, x1, rfl⟩ : ∃ v0 x0 v1 x1, ms = [(v0, x0), (v1, x1)] := by
    have := congrArg List.length hms
    rw [List.length_map, RS_len] at this
    match ms, this with
    | [a, b], _ => exact ⟨a.1, a.2, b.1, b.2, rfl⟩
  have hx1 : x1 = [.string ⟨#[97, 110, 110]⟩] := by
    have e : some x1 = (RS fD SD0 2)[1]? := by rw [← hms]; rfl
    exact Option.some.inj e
  subst hx1
  obtain ⟨ba, ca, rfl⟩ := row_some S16 (i := 3) rfl (by omega)
  obtain ⟨A1, c1, rfl, _, _, _⟩ := (S16.rdAll_at (i := 4) (k := 1) rfl rfl).open_
  have HS16 := Lib.hid S16
  clear Sr S15 S16 hms HRUN HS14
  have S17 := HS16.out.row_new (e := 3) (size := 1) (n := 2) #[.int .i64 76, .int .i64 75] (by decide) rfl
  simp only [List.cons_append, List.nil_append] at S17
  have hz := S17.row_rd (i := 0) (by rw [HRZ.out]; rfl)
  have HSI := Lib.hid (sameInts_any _ _ _ _ _ [76, 75] [76, 75] hz (S17.row_rd (i := 5) rfl))
  have HS17 := Lib.hid S17
  clear S17 hz HS16
  go_wp2_with fail
  go_at_call 36
  refine HSI.out.mono ?_
  rintro e w12 ⟨rfl, q12, h12⟩
  have S18 := HS17.out.drewN q12
  rw [← h12] at S18
  have HSJ := Lib.hid (sameInts_any _ _ _ _ _ [76, 75] [76, 75] (S18.row_rd (i := 1) (by rw [HRS.out]; rfl)) (S18.row_rd (i := 0) (by rw [HRZ.out]; rfl)))
  have HS18 := Lib.hid S18
  clear S18 h12 HSI HS17
  go_wp2_with fail
  go_at_call 36
  refine HSJ.out.mono ?_
  rintro e w13 ⟨rfl, q13, h13⟩
  have S19 := HS18.out.drewN q13
  rw [← h13] at S19
  obtain ⟨bm, om, hAm, _, _, hcm⟩ := (S19.row_rd (i := 2) rfl).addr (by decide)
  subst hAm
  have m0 := hcm 6 _ rfl
  have m1 := hcm 7 _ rfl
  have m2 := hcm 8 _ rfl
  obtain ⟨_, _, _, _, _, _, hct, _⟩ := S19.row_form (i := 3) rfl (by omega)
  have HST := Lib.hid S19
  have tc := (S19.row_rd (i := 3) rfl)
  obtain ⟨bt, ot, u1, hAt, _, hut, hc1⟩ := tc.at_ (k := 1) (by omega)
  cases hAt
  cases hut
  rw [Nat.zero_add] at hc1
  have hd := eqg_stateD
  have he := eql_stateD
  have S20 := S19.row_new (e := 9) (size := 1) (n := 1) #[.string ⟨#[97, 110, 110]⟩] (by decide) rfl
  simp only [List.cons_append, List.nil_append] at S20
  have HSN := Lib.hid (sameNames_yes _ _ _ _ _ 1 [⟨#[97, 110, 110]⟩] (S20.rdAll_at (i := 4) (k := 1) rfl rfl) (S20.row_rd (i := 6) rfl))
  have HS20 := Lib.hid S20
  clear S19 S20 h13 HSJ HS18 hcm hct tc HST
  go_wp2_with fail
  go_at_call 23
  refine HSN.out.mono ?_
  rintro e w14 ⟨rfl, q14, h14⟩
  have S21 := HS20.out.drewN q14
  rw [← h14] at S21
  have HB := Lib.hid S21.bel
  clear S21 h14 HSN HS20
  go_wp2_with fail
  go_ret
  exact ⟨rfl, HB.out⟩
end Go.Proofs.YtkkkfjinflepmaaGreatDoor
