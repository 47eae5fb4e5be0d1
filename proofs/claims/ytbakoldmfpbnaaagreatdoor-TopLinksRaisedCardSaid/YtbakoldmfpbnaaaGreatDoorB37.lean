/- Part 37 of the walks of the golf union's program: LR4. -/
import Derived.Test.YtbakoldmfpbnaaaGreatDoorB30
import Derived.Test.YtbakoldmfpbnaaaGreatDoorB31
import Derived.Test.YtbakoldmfpbnaaaGreatDoorB34
import Derived.Test.YtbakoldmfpbnaaaGreatDoorB36
import Derived.Test.YtbakoldmfpbnaaaGreatDoorB25
import Derived.Laws.StructEq
set_option linter.unusedVariables false
set_option linter.unusedSimpArgs false
set_option linter.unusedSectionVars false
set_option linter.constructorNameAsVariable false
/- TopLinksRaised: the law. -/
namespace Go.Proofs.YtbakoldmfpbnaaaGreatDoor
open Go.RowKit Go.Mem Go.Sheet Go.Adj Go.Shelf
attribute [local go_sem] Oper.semAt_some
theorem eqg_state (op : BinOp) (x y : Operand) (xs ys : Array Value) (w : World) : (eqGuard op 52 x y (.agg xs) (.agg ys)).run Tryz.prog w = .ok () w := run_eqGuard_agg w op _ x y xs ys (by kernel_rfl)
theorem neq_state (w : World) (a b : Int) (c : Bool) : (binOp .neq 52 (.agg #[.int .i64 a, .int .i64 b, .bool c]) (.agg #[.int .i64 a, .int .i64 b, .bool c])).run Tryz.prog w = .ok (.bool false) w := by
  rw [run_neq_struct, run_equalIn_agg w 9999 _ _ _ (by kernel_rfl) (by kernel_rfl)]
  have hf : (Tryz.prog.fieldsOf 52).toList.map (fun f => (f.name != "_", f.type, f.offset)) = [(true, 3, 0), (true, 3, 1), (true, 4, 2)] := by kernel_rfl
  generalize (Tryz.prog.fieldsOf 52).toList = L at *
  have hL : ∃ f1 f2 f3, L = [f1, f2, f3] := by
    match L, congrArg List.length hf with
    | [f1, f2, f3], _ => exact ⟨f1, f2, f3, rfl⟩
  obtain ⟨f1, f2, f3, rfl⟩ := hL
  obtain ⟨⟨h1, h2, h3⟩, ⟨h4, h5, h6⟩, h7, h8, h9⟩ : (f1.name ≠ "_" ∧ f1.type = 3 ∧ f1.offset = 0) ∧ (f2.name ≠ "_" ∧ f2.type = 3 ∧ f2.offset = 1) ∧ (f3.name ≠ "_" ∧ f3.type = 4 ∧ f3.offset = 2) := by simpa using hf
  simp only [Op.eqFields, h2, h3, h5, h6, h8, h9]
  simp [go_sem, Tryz.underlying3, Tryz.underlying4]
theorem row_some1 {W w : World} {L : List Asr} {i : Nat} {e : TypeId} {n : Nat} {v : Value} {xs : List Value} (h : St W w L) (hi : L[i]? = some (row e 1 v n xs)) (hn : 1 ≤ n) : ∃ b c, v = .slice (some ⟨b, 0, none⟩) n c := by
  obtain ⟨g', cap', hv', _, _, _, _, _⟩ := h.row_form hi (by omega)
  exact ⟨_, _, hv'⟩
def zeroP : Array Value := #[.string ⟨#[]⟩, .slice none 0 0, .int .i64 0]
theorem mul_bd (r n : Int) (h : -128 ≤ r ∧ r ≤ 127) (hn : 0 ≤ n ∧ n ≤ 36) : -4608 ≤ r * n ∧ r * n ≤ 4608 := by
  have h1 := Int.mul_le_mul_of_nonneg_right h.2 hn.1
  have h2 := Int.mul_le_mul_of_nonneg_right h.1 hn.1
  omega
theorem perm8s {α : Type} (a b c d e f g h : α) : [a, b, c, d, e, f, g, h].Perm [a, b, c, d, e, f, h, g] := .cons _ (.cons _ (.cons _ (.cons _ (.cons _ (.cons _ (.swap _ _ _))))))
set_option maxRecDepth 100000 in
set_option maxHeartbeats 8000000 in
theorem raised_any (W : World) (v vp : Value) (n m : Nat) (hs : List HI) (ps : List PI) (ro : Int) (hro : -128 ≤ ro ∧ ro ≤ 127) (hbd : m * 48 ≤ 140737488351232) (h : Rd W (· < W.heap.size) 2 v n (hs.flatMap HI.cells)) (hp : RdPl W (· < W.heap.size) vp m ps) (hgm : GlobM W) :
    Calls Tryz.prog 4 #[.agg #[v, vp], .int .i8 ro] W fun e w' => e = .returned (.bool true) ∧ Below W.heap.size W w' := by
  have HL := Lib.hid (h.count (f := HI.cells) (size := 2) (fun _ => rfl) (by decide))
  have H := Lib.hid h
  have HP := Lib.hid hp
  have HGM := Lib.hid hgm
  obtain ⟨A, c, rfl, _, _, _⟩ := h.open_
  obtain ⟨Ap, cp, rfl, _, _, _⟩ := hp.1.open_
  have hm63 := hp.1.le
  clear h hp hgm
  have S0 := (St.refl W).blk_new #[.slice A n c, .slice Ap m cp] 25
  simp only [List.nil_append] at S0
  have HF := Lib.hid (linksFew_any (W.alloc (.cells #[.slice A n c, .slice Ap m cp] 25)) _ _ n m hs ps hbd (H.out.later S0.bel) (HP.out.later S0.bel))
  have HLR : Hid (∀ w', Below W.heap.size W w' → Calls Tryz.prog 7 #[] w' fun e w2 => e = .returned (.bool true) ∧ Below W.heap.size W w2) := fun w' hb => (linksRound_any w' (HGM.out.later hb)).mono fun e w2 ⟨h1, h2⟩ => ⟨h1, hb.trans (h2.mono hb.size)⟩
  have HS0 := Lib.hid S0
  clear S0
  go_enter Tryz.func4, Tryz.ntmps4
  go_wp2_with fail
  go_at_call 6
  refine HF.out.mono ?_
  rintro e w1 ⟨⟨bo, rfl, hgood⟩, hb1⟩
  have S1 := HS0.out.ext hb1
  clear HS0 HF hb1
  generalize hgc : W.heap.size = gc at S1 ⊢
  have c0 := S1.blk_cell (i := 0) rfl 0
  have c1 := S1.blk_cell (i := 0) rfl 1
  have HS1 := Lib.hid S1
  clear S1
  by_cases hbo : bo = false
  · subst hbo
    clear hgood
    go_wp2_with (go_at_call 7; refine (HLR.out _ HS1.out.bel).mono ?_; rintro e w' ⟨rfl, hb2⟩; have HB2 := Lib.hid hb2; clear hb2)
    go_ret
    exact ⟨rfl, HB2.out⟩
  obtain rfl : bo = true := by simpa using hbo
  obtain ⟨g1, g2, g3⟩ := hgood rfl
  have HG1 := Lib.hid g1
  have HG3 := Lib.hid g3
  clear hgood g1 g3 hbo
  by_cases h2 : m < 2
  · have t2 : decide ((m : Int) < 2) = true := by simp; omega
    go_wp2_with (go_at_call 7; refine (HLR.out _ HS1.out.bel).mono ?_; rintro e w' ⟨rfl, hb2⟩; have HB2 := Lib.hid hb2; clear hb2)
    go_ret
    exact ⟨rfl, HB2.out⟩
  have t2 : decide ((m : Int) < 2) = false := by simp; omega
  obtain ⟨bp, op, x0, hA0, hx0, p00, p01, p02⟩ := HP.out.elem (k := 0) (by omega)
  obtain ⟨bp', op', x1, hA1, hx1, p10, p11, p12⟩ := HP.out.elem (k := 1) (by omega)
  cases hA0
  cases hA1
  rw [Nat.zero_mul, Nat.add_zero] at p00 p01 p02
  rw [Nat.one_mul] at p10 p11 p12
  have hbp : bp < W.heap.size := World.block_lt_of_cell? _ _ p00
  have HX0 := Lib.hid hx0
  have HX1 := Lib.hid hx1
  clear hx0 hx1
  obtain ⟨n0, a0, m0, e0, es0, k0⟩ := x0
  obtain ⟨n1, a1, m1, e1, es1, k1⟩ := x1
  dsimp only at p00 p01 p02 p10 p11 p12
  have HCL : Hid (∀ w' L, St W w' (blk gc 25 #[.slice A n c, .slice (some ⟨bp, op, none⟩) m cp] :: L) → w'.cell? ⟨bp, op, none⟩ = some (.string n0) ∧ w'.cell? ⟨bp, op + 1, none⟩ = some (.slice a0 m0 e0) ∧ w'.cell? ⟨bp, op + 2, none⟩ = some (.int .i64 k0) ∧ w'.cell? ⟨bp, op + 3, none⟩ = some (.string n1) ∧ w'.cell? ⟨bp, op + 3 + 1, none⟩ = some (.slice a1 m1 e1) ∧ w'.cell? ⟨bp, op + 3 + 2, none⟩ = some (.int .i64 k1) ∧ w'.cell? ⟨gc, 1, none⟩ = some (.slice (some ⟨bp, op, none⟩) m cp) ∧ w'.cell? ⟨gc, 0, none⟩ = some (.slice A n c)) := fun w' L h =>
    ⟨(h.bel.cell hbp).trans p00, (h.bel.cell hbp).trans p01, (h.bel.cell hbp).trans p02, (h.bel.cell hbp).trans p10, (h.bel.cell hbp).trans p11, (h.bel.cell hbp).trans p12, h.blk_cell (i := 0) rfl 1, h.blk_cell (i := 0) rfl 0⟩
  have S1 := HS1.out.drew
  clear p00 p01 p02 p10 p11 p12 hbp HS1
  go_wp2_with fail
  generalize hfld : blk gc 25 #[.slice A n c, .slice (some ⟨bp, op, none⟩) m cp] = FA at *
  refine wp_head_tail3 0 11 3 [] [0, 1, 2, 3, 4, 5, 6, 7] rfl (fun w' => ∃ L, St W w' (FA :: L))
    (fun a a' w' => ∃ (g5 g6 : Nat), a' = (a.put (some 5) (.pointer (some ⟨g5, 0, none⟩))).put (some 6) (.pointer (some ⟨g6, 0, none⟩)) ∧ St W w' [FA, blk g5 33 #[.string n0, .slice a0 m0 e0, .int .i64 k0], blk g6 33 zeroP]) (by kernel_rfl) (by kernel_rfl) ⟨_, S1⟩ ?_
  simp only [pick, List.filterMap_cons, List.filterMap_nil, List.getElem?_toArray, List.getElem?_cons_succ, List.getElem?_cons_zero]
  generalize hK : (fun w' : World => ∃ L, St W w' (FA :: L)) = K
  have kK : ∀ y : Wd K, ∃ L, St W y.w (FA :: L) := by subst hK; exact fun y => y.h
  have hKd : ∀ (w' : World) (L : List Asr), St W w' (FA :: L) → K w' := by
    intro w' L h
    subst hK
    exact ⟨L, h⟩
  have hne : Nonempty (Wd K) := ⟨⟨_, hKd _ _ S1⟩⟩
  have y0 : ∀ y : Wd K, y.w.cell? ⟨bp, op, none⟩ = some (.string n0) := fun y => (HCL.out _ _ (kK y).choose_spec).1
  have y1 : ∀ y : Wd K, y.w.cell? ⟨bp, op + 1, none⟩ = some (.slice a0 m0 e0) := fun y => (HCL.out _ _ (kK y).choose_spec).2.1
  have y2 : ∀ y : Wd K, y.w.cell? ⟨bp, op + 2, none⟩ = some (.int .i64 k0) := fun y => (HCL.out _ _ (kK y).choose_spec).2.2.1
  have y3 : ∀ y : Wd K, y.w.cell? ⟨bp, op + 3, none⟩ = some (.string n1) := fun y => (HCL.out _ _ (kK y).choose_spec).2.2.2.1
  have y4 : ∀ y : Wd K, y.w.cell? ⟨bp, op + 3 + 1, none⟩ = some (.slice a1 m1 e1) := fun y => (HCL.out _ _ (kK y).choose_spec).2.2.2.2.1
  have y5 : ∀ y : Wd K, y.w.cell? ⟨bp, op + 3 + 2, none⟩ = some (.int .i64 k1) := fun y => (HCL.out _ _ (kK y).choose_spec).2.2.2.2.2.1
  have y6 : ∀ y : Wd K, y.w.cell? ⟨gc, 1, none⟩ = some (.slice (some ⟨bp, op, none⟩) m cp) := fun y => (HCL.out _ _ (kK y).choose_spec).2.2.2.2.2.2.1
  clear hK kK
  generalize World.drew _ = w0 at *
  refine wpQuiet_nil ?_
  change wpQuiet _ _ _ _ (_ :: _ :: _ :: _ :: _ :: _ :: _ :: _ :: []) _
  repeat (go_big_quiet_step ((fail)))
  refine wpQuiet_nil ?_
  clear y0 y1 y2 y3 y4 y5 y6 hne
  refine ⟨?_, ?_⟩
  · refine headW_all (rs := [8, 9]) (by kernel_rfl) (by decide) (by decide) (List.forall_mem_cons.2 ⟨?_, List.forall_mem_cons.2 ⟨?_, List.forall_mem_nil _⟩⟩)
    · as_aux_lemma =>
      refine wpOp_list (o := _) rfl ?_
      intro Q' hQ'
      go_wp2_with fail
      have SA := S1.blk_new #[.string ⟨#[]⟩, .slice none 0 0, .int .i64 0] 33
      simp only [List.cons_append, List.nil_append] at SA
      refine ⟨hKd _ _ SA, ?_⟩
      refine headW_all (rs := [9]) (by kernel_rfl) (by decide) (by decide) (List.forall_mem_cons.2 ⟨?_, List.forall_mem_nil _⟩)
      refine wpOp_list (o := _) rfl ?_
      intro Q' hQ'
      go_wp2_with fail
      have SC := SA.blk_new #[.string ⟨#[]⟩, .slice none 0 0, .int .i64 0] 33
      simp only [List.cons_append, List.nil_append] at SC
      refine ⟨hKd _ _ SC, ?_⟩
      rw [World.size_alloc] at SC
      refine headW_all (rs := [10]) (by kernel_rfl) (by decide) (by decide) (List.forall_mem_cons.2 ⟨?_, List.forall_mem_nil _⟩)
      refine wpOp_list (o := _) rfl ?_
      intro Q' hQ'
      have SR := SC.blk_row (i := 1) rfl #[.string n0, .slice a0 m0 e0, .int .i64 k0]
      simp only [List.set_cons_zero, List.set_cons_succ] at SR
      refine wpList_store_row rfl 33 (.tmp 5) (.tmp 41) rfl (w0.heap.size) #[.string n0, .slice a0 m0 e0, .int .i64 k0] (by first | rfl | (simp; done)) rfl 33 _ (SC.blk_at (i := 1) rfl).2.2 (by kernel_rfl) rfl (by simp [Value.oneCell']) ?_
      go_wp2_with fail
      refine ⟨hKd _ _ SR, ?_⟩
      exact ⟨by kernel_rfl, _, _, by kernel_rfl, SR⟩
    · as_aux_lemma =>
      refine wpOp_list (o := _) rfl ?_
      intro Q' hQ'
      go_wp2_with fail
      have SA := S1.blk_new #[.string ⟨#[]⟩, .slice none 0 0, .int .i64 0] 33
      simp only [List.cons_append, List.nil_append] at SA
      refine ⟨hKd _ _ SA, ?_⟩
      refine headW_all (rs := [8]) (by kernel_rfl) (by decide) (by decide) (List.forall_mem_cons.2 ⟨?_, List.forall_mem_nil _⟩)
      refine wpOp_list (o := _) rfl ?_
      intro Q' hQ'
      go_wp2_with fail
      have SC := SA.blk_new #[.string ⟨#[]⟩, .slice none 0 0, .int .i64 0] 33
      simp only [List.cons_append, List.nil_append] at SC
      refine ⟨hKd _ _ SC, ?_⟩
      rw [World.size_alloc] at SC
      refine headW_all (rs := [10]) (by kernel_rfl) (by decide) (by decide) (List.forall_mem_cons.2 ⟨?_, List.forall_mem_nil _⟩)
      refine wpOp_list (o := _) rfl ?_
      intro Q' hQ'
      have SR := SC.blk_row (i := 2) rfl #[.string n0, .slice a0 m0 e0, .int .i64 k0]
      simp only [List.set_cons_zero, List.set_cons_succ] at SR
      refine wpList_store_row rfl 33 (.tmp 5) (.tmp 41) rfl (w0.heap.size + 1) #[.string n0, .slice a0 m0 e0, .int .i64 k0] (by first | rfl | (simp; done)) rfl 33 _ (SC.blk_at (i := 2) rfl).2.2 (by kernel_rfl) rfl (by simp [Value.oneCell']) ?_
      go_wp2_with fail
      refine ⟨hKd _ _ SR, ?_⟩
      exact ⟨by kernel_rfl, _, _, by kernel_rfl, SR.perm (.cons _ (.swap _ _ _))⟩
  rintro a' w2 ⟨g5, g6, rfl, S2⟩
  have SR := S2.blk_row (i := 2) rfl #[.string n1, .slice a1 m1 e1, .int .i64 k1]
  simp only [List.set_cons_zero, List.set_cons_succ] at SR
  refine wpList_store_row rfl 33 (.tmp 6) (.tmp 45) rfl g6 #[.string n1, .slice a1 m1 e1, .int .i64 k1] rfl rfl 33 _ (S2.blk_at (i := 2) rfl).2.2 (by kernel_rfl) rfl (by simp [Value.oneCell']) ?_
  clear hKd S1 S2
  generalize World.setRow _ _ _ = w3 at SR ⊢
  go_wp2_with fail
  refine NoPanic.normal ?_
  have hn36 : n ≤ 36 := by rw [HL.out]; exact HG1.out.len.2
  have hmo := mul_bd ro n hro (by omega)
  have hmw : IntKind.i64.wrap (ro * (n : Int)) = ro * (n : Int) := IntWalk.i64_in _ (by omega)
  have gp0 := HG3.out.ok 0 (by omega)
  have gp1 := HG3.out.ok 1 (by omega)
  have hnm := HG3.out.two 1 0 (by omega) (by omega)
  rw [pAt_eq HX0.out] at gp0 hnm
  rw [pAt_eq HX1.out] at gp1 hnm
  obtain ⟨gc0, hk0, hk0'⟩ := gp0
  obtain ⟨gc1, hk1, hk1'⟩ := gp1
  dsimp only at gc0 gc1 hk0 hk0' hk1 hk1' hnm
  obtain rfl : n = m0 := by rw [gc0.2.2.1, HL.out]
  obtain rfl : n = m1 := by rw [gc1.2.2.1, HL.out]
  have HC0 := Lib.hid gc0
  have HC1 := Lib.hid gc1
  have HNM := Lib.hid hnm
  have q0 := (HCL.out _ _ SR).2.2.2.2.2.2.2
  have u0 := SR.blk_cell (i := 1) rfl 0
  have u1 := SR.blk_cell (i := 1) rfl 1
  have u2 := SR.blk_cell (i := 1) rfl 2
  have v0 := SR.blk_cell (i := 2) rfl 0
  have v1 := SR.blk_cell (i := 2) rfl 1
  have v2 := SR.blk_cell (i := 2) rfl 2
  have HB3 := Lib.hid SR.bel
  have HS3 := Lib.hid SR
  clear SR gc0 gc1 hnm
  obtain ⟨mo, hmo'⟩ : ∃ mo, mo = ro * (n : Int) := ⟨_, rfl⟩
  have HMO := Lib.hid hmo'
  rw [← hmo'] at hmo hmw
  by_cases r1 : k0 + mo < -99
  · have r1' : decide (k0 + mo < -99) = true := by simpa using r1
    go_wp2_with (go_at_call 7; refine (HLR.out _ HB3.out).mono ?_; rintro e w' ⟨rfl, hb4⟩; have HB4 := Lib.hid hb4; clear hb4)
    go_ret
    exact ⟨rfl, HB4.out⟩
  have r1' : decide (k0 + mo < -99) = false := by simpa using r1
  by_cases r2 : 99 < k0 + mo
  · have r2' : decide (99 < k0 + mo) = true := by simpa using r2
    go_wp2_with (go_at_call 7; refine (HLR.out _ HB3.out).mono ?_; rintro e w' ⟨rfl, hb4⟩; have HB4 := Lib.hid hb4; clear hb4)
    go_ret
    exact ⟨rfl, HB4.out⟩
  have r2' : decide (99 < k0 + mo) = false := by simpa using r2
  by_cases r3 : k1 + mo < -99
  · have r3' : decide (k1 + mo < -99) = true := by simpa using r3
    go_wp2_with (go_at_call 7; refine (HLR.out _ HB3.out).mono ?_; rintro e w' ⟨rfl, hb4⟩; have HB4 := Lib.hid hb4; clear hb4)
    go_ret
    exact ⟨rfl, HB4.out⟩
  have r3' : decide (k1 + mo < -99) = false := by simpa using r3
  by_cases r4 : 99 < k1 + mo
  · have r4' : decide (99 < k1 + mo) = true := by simpa using r4
    go_wp2_with (go_at_call 7; refine (HLR.out _ HB3.out).mono ?_; rintro e w' ⟨rfl, hb4⟩; have HB4 := Lib.hid hb4; clear hb4)
    go_ret
    exact ⟨rfl, HB4.out⟩
  have r4' : decide (99 < k1 + mo) = false := by simpa using r4
  have HENV0 : Hid (∀ w, Below W.heap.size W w → CEnv w (.slice A n c) (.slice a0 n e0) n hs es0 n0) := fun w hb => ⟨H.out.later hb, (HP.out.2 _ (List.mem_of_getElem? HX0.out)).1.later hb, HG1.out, HC0.out.2.1, (HP.out.2 _ (List.mem_of_getElem? HX0.out)).2, HC0.out.2.2.2⟩
  have HENV1 : Hid (∀ w, Below W.heap.size W w → CEnv w (.slice A n c) (.slice a1 n e1) n hs es1 n1) := fun w hb => ⟨H.out.later hb, (HP.out.2 _ (List.mem_of_getElem? HX1.out)).1.later hb, HG1.out, HC1.out.2.1, (HP.out.2 _ (List.mem_of_getElem? HX1.out)).2, HC1.out.2.2.2⟩
  have HFC : Hid (∀ w' L, St W w' (FA :: blk g5 33 #[.string n0, .slice a0 n e0, .int .i64 k0] :: blk g6 33 #[.string n1, .slice a1 n e1, .int .i64 k1] :: L) → w'.cell? ⟨gc, 0, none⟩ = some (.slice A n c) ∧ w'.cell? ⟨g5, 0, none⟩ = some (.string n0) ∧ w'.cell? ⟨g5, 1, none⟩ = some (.slice a0 n e0) ∧ w'.cell? ⟨g5, 2, none⟩ = some (.int .i64 k0) ∧ w'.cell? ⟨g6, 0, none⟩ = some (.string n1) ∧ w'.cell? ⟨g6, 1, none⟩ = some (.slice a1 n e1) ∧ w'.cell? ⟨g6, 2, none⟩ = some (.int .i64 k1)) := fun w' L h =>
    ⟨(HCL.out _ _ h).2.2.2.2.2.2.2, h.blk_cell (i := 1) rfl 0, h.blk_cell (i := 1) rfl 1, h.blk_cell (i := 1) rfl 2, h.blk_cell (i := 2) rfl 0, h.blk_cell (i := 2) rfl 1, h.blk_cell (i := 2) rfl 2⟩
  clear hm63 hbd h2 c0 c1 HCL
  go_wp2_with fail
  rw [← hmo']
  clear hmo' hmw
  refine (givenE_ok w3 _ n hs k0 ⟨hk0, hk0'⟩ (H.out.later HB3.out) HG1.out).mono ?_
  rintro e w4 ⟨vg, rfl, Sg⟩
  have S4 := HS3.out.call Sg
  simp only [List.cons_append, List.nil_append] at S4
  obtain ⟨bg, cg, rfl⟩ := row_some1 S4 (i := 3) rfl (by rw [HL.out]; exact HG1.out.len.1)
  have HS4 := Lib.hid S4
  obtain ⟨q0, u0, u1, u2, v0, v1, v2⟩ := HFC.out _ _ S4
  have HB4 := Lib.hid S4.bel
  clear S4 Sg HS3 HB3
  go_wp2_with fail
  refine (givenE_ok w4 _ n hs (k0 + mo) ⟨by omega, by omega⟩ (H.out.later HB4.out) HG1.out).mono ?_
  rintro e w5 ⟨vk, rfl, Sk⟩
  have S5 := HS4.out.call Sk
  simp only [List.cons_append, List.nil_append] at S5
  obtain ⟨bk, ck, rfl⟩ := row_some1 S5 (i := 4) rfl (by rw [HL.out]; exact HG1.out.len.1)
  have HS5 := Lib.hid S5
  obtain ⟨q0, u0, u1, u2, v0, v1, v2⟩ := HFC.out _ _ S5
  have HB5 := Lib.hid S5.bel
  clear S5 Sk HS4 HB4
  go_wp2_with fail
  refine (formatMatch_ok w5 _ _ _ n hs es0 es1 n0 n1 k0 k1 ⟨hk0, hk0'⟩ ⟨hk1, hk1'⟩ HNM.out (HENV0.out _ HB5.out) (HENV1.out _ HB5.out)).mono ?_
  rintro e w6 ⟨vs, rfl, Ss⟩
  have S6 := HS5.out.call Ss
  simp only [List.cons_append, List.nil_append] at S6
  obtain ⟨As, cs, rfl, _, _, _⟩ := (S6.row_rd (i := 5) rfl).open_
  have HS6 := Lib.hid S6.drew
  obtain ⟨q0, u0, u1, u2, v0, v1, v2⟩ := HFC.out _ _ S6
  clear S6 Ss HS5 HB5
  go_wp2_with fail
  have S1 := HS6.out
  generalize hRG : row 3 1 (.slice (some ⟨bg, 0, none⟩) n cg) n (intsI (gl (givF hs k0) n)) = RG at *
  generalize hRK : row 3 1 (.slice (some ⟨bk, 0, none⟩) n ck) n (intsI (gl (givF hs (k0 + mo)) n)) = RK at *
  generalize hRS : row 52 3 (.slice As (matF (netF hs es0 k0) (netF hs es1 k1) n).length cs) (matF (netF hs es0 k0) (netF hs es1 k1) n).length ((matF (netF hs es0 k0) (netF hs es1 k1) n).flatMap StI.cells) = RS at *
  refine wp_head_tail3 0 5 3 [] [0, 1] rfl (fun w' => ∃ L, St W w' (FA :: blk g5 33 #[.string n0, .slice a0 n e0, .int .i64 k0] :: blk g6 33 #[.string n1, .slice a1 n e1, .int .i64 k1] :: L))
    (fun a a' w' => ∃ (g7 g8 : Nat), a' = (a.put (some 14) (.pointer (some ⟨g7, 0, none⟩))).put (some 15) (.pointer (some ⟨g8, 0, none⟩)) ∧ St W w' [FA, blk g5 33 #[.string n0, .slice a0 n e0, .int .i64 k0], blk g6 33 #[.string n1, .slice a1 n e1, .int .i64 k1], RG, RK, RS, blk g7 33 #[.string n0, .slice a0 n e0, .int .i64 k0], blk g8 33 zeroP]) (by kernel_rfl) (by kernel_rfl) ⟨_, S1⟩ ?_
  simp only [pick, List.filterMap_cons, List.filterMap_nil, List.getElem?_toArray, List.getElem?_cons_succ, List.getElem?_cons_zero]
  generalize hK : (fun w' : World => ∃ L, St W w' (FA :: blk g5 33 #[.string n0, .slice a0 n e0, .int .i64 k0] :: blk g6 33 #[.string n1, .slice a1 n e1, .int .i64 k1] :: L)) = K
  have kK : ∀ y : Wd K, ∃ L, St W y.w (FA :: blk g5 33 #[.string n0, .slice a0 n e0, .int .i64 k0] :: blk g6 33 #[.string n1, .slice a1 n e1, .int .i64 k1] :: L) := by subst hK; exact fun y => y.h
  have hKd : ∀ (w' : World) (L : List Asr), St W w' (FA :: blk g5 33 #[.string n0, .slice a0 n e0, .int .i64 k0] :: blk g6 33 #[.string n1, .slice a1 n e1, .int .i64 k1] :: L) → K w' := by
    intro w' L h
    subst hK
    exact ⟨L, h⟩
  have hne : Nonempty (Wd K) := ⟨⟨_, hKd _ _ S1⟩⟩
  have y0 : ∀ y : Wd K, y.w.cell? ⟨g5, 0, none⟩ = some (.string n0) := fun y => (HFC.out _ _ (kK y).choose_spec).2.1
  have y1 : ∀ y : Wd K, y.w.cell? ⟨g5, 1, none⟩ = some (.slice a0 n e0) := fun y => (HFC.out _ _ (kK y).choose_spec).2.2.1
  have y2 : ∀ y : Wd K, y.w.cell? ⟨g5, 2, none⟩ = some (.int .i64 k0) := fun y => (HFC.out _ _ (kK y).choose_spec).2.2.2.1
  have y3 : ∀ y : Wd K, y.w.cell? ⟨g6, 0, none⟩ = some (.string n1) := fun y => (HFC.out _ _ (kK y).choose_spec).2.2.2.2.1
  have y4 : ∀ y : Wd K, y.w.cell? ⟨g6, 1, none⟩ = some (.slice a1 n e1) := fun y => (HFC.out _ _ (kK y).choose_spec).2.2.2.2.2.1
  have y5 : ∀ y : Wd K, y.w.cell? ⟨g6, 2, none⟩ = some (.int .i64 k1) := fun y => (HFC.out _ _ (kK y).choose_spec).2.2.2.2.2.2
  clear hK kK q0 u0 u1 u2 v0 v1 v2 HS6
  generalize World.drew _ = w7 at *
  refine wpQuiet_nil ?_
  change wpQuiet _ _ _ _ (_ :: _ :: []) _
  repeat (go_big_quiet_step ((fail)))
  refine wpQuiet_nil ?_
  clear y0 y1 y2 y3 y4 y5 hne
  refine ⟨?_, ?_⟩
  · refine headW_all (rs := [2, 3]) (by kernel_rfl) (by decide) (by decide) (List.forall_mem_cons.2 ⟨?_, List.forall_mem_cons.2 ⟨?_, List.forall_mem_nil _⟩⟩)
    · as_aux_lemma =>
      refine wpOp_list (o := _) rfl ?_
      intro Q' hQ'
      go_wp2_with fail
      have SA := S1.blk_new #[.string ⟨#[]⟩, .slice none 0 0, .int .i64 0] 33
      simp only [List.cons_append, List.nil_append] at SA
      refine ⟨hKd _ _ SA, ?_⟩
      refine headW_all (rs := [3]) (by kernel_rfl) (by decide) (by decide) (List.forall_mem_cons.2 ⟨?_, List.forall_mem_nil _⟩)
      refine wpOp_list (o := _) rfl ?_
      intro Q' hQ'
      go_wp2_with fail
      have SC := SA.blk_new #[.string ⟨#[]⟩, .slice none 0 0, .int .i64 0] 33
      simp only [List.cons_append, List.nil_append] at SC
      refine ⟨hKd _ _ SC, ?_⟩
      rw [World.size_alloc] at SC
      refine headW_all (rs := [4]) (by kernel_rfl) (by decide) (by decide) (List.forall_mem_cons.2 ⟨?_, List.forall_mem_nil _⟩)
      refine wpOp_list (o := _) rfl ?_
      intro Q' hQ'
      have SR := SC.blk_row (i := 6) rfl #[.string n0, .slice a0 n e0, .int .i64 k0]
      simp only [List.set_cons_zero, List.set_cons_succ] at SR
      refine wpList_store_row rfl 33 (.tmp 14) (.tmp 105) rfl (w7.heap.size) #[.string n0, .slice a0 n e0, .int .i64 k0] (by first | rfl | (simp; done)) rfl 33 _ (SC.blk_at (i := 6) rfl).2.2 (by kernel_rfl) rfl (by simp [Value.oneCell']) ?_
      go_wp2_with fail
      refine ⟨hKd _ _ SR, ?_⟩
      exact ⟨by kernel_rfl, _, _, by kernel_rfl, SR⟩
    · as_aux_lemma =>
      refine wpOp_list (o := _) rfl ?_
      intro Q' hQ'
      go_wp2_with fail
      have SA := S1.blk_new #[.string ⟨#[]⟩, .slice none 0 0, .int .i64 0] 33
      simp only [List.cons_append, List.nil_append] at SA
      refine ⟨hKd _ _ SA, ?_⟩
      refine headW_all (rs := [2]) (by kernel_rfl) (by decide) (by decide) (List.forall_mem_cons.2 ⟨?_, List.forall_mem_nil _⟩)
      refine wpOp_list (o := _) rfl ?_
      intro Q' hQ'
      go_wp2_with fail
      have SC := SA.blk_new #[.string ⟨#[]⟩, .slice none 0 0, .int .i64 0] 33
      simp only [List.cons_append, List.nil_append] at SC
      refine ⟨hKd _ _ SC, ?_⟩
      rw [World.size_alloc] at SC
      refine headW_all (rs := [4]) (by kernel_rfl) (by decide) (by decide) (List.forall_mem_cons.2 ⟨?_, List.forall_mem_nil _⟩)
      refine wpOp_list (o := _) rfl ?_
      intro Q' hQ'
      have SR := SC.blk_row (i := 7) rfl #[.string n0, .slice a0 n e0, .int .i64 k0]
      simp only [List.set_cons_zero, List.set_cons_succ] at SR
      refine wpList_store_row rfl 33 (.tmp 14) (.tmp 105) rfl (w7.heap.size + 1) #[.string n0, .slice a0 n e0, .int .i64 k0] (by first | rfl | (simp; done)) rfl 33 _ (SC.blk_at (i := 7) rfl).2.2 (by kernel_rfl) rfl (by simp [Value.oneCell']) ?_
      go_wp2_with fail
      refine ⟨hKd _ _ SR, ?_⟩
      exact ⟨by kernel_rfl, _, _, by kernel_rfl, SR.perm (perm8s _ _ _ _ _ _ _ _)⟩
  rintro a' w8 ⟨g7, g8, rfl, S2⟩
  have SR := S2.blk_row (i := 7) rfl #[.string n1, .slice a1 n e1, .int .i64 k1]
  simp only [List.set_cons_zero, List.set_cons_succ] at SR
  refine wpList_store_row rfl 33 (.tmp 15) (.tmp 106) rfl g8 #[.string n1, .slice a1 n e1, .int .i64 k1] rfl rfl 33 _ (S2.blk_at (i := 7) rfl).2.2 (by kernel_rfl) rfl (by simp [Value.oneCell']) ?_
  clear hKd S1 S2
  generalize World.setRow _ _ _ = w9 at SR ⊢
  go_wp2_with fail
  refine NoPanic.normal ?_
  have q7 := SR.blk_cell (i := 6) rfl 2
  have f7 := SR.blk_frozen (i := 6) rfl 2
  have q8 := SR.blk_cell (i := 7) rfl 2
  have f8 := SR.blk_frozen (i := 7) rfl 2
  have SV := (SR.blk_set (i := 6) rfl 2 (.int .i64 (k0 + mo))).blk_set (i := 7) rfl 2 (.int .i64 (k1 + mo))
  simp only [List.set_cons_zero, List.set_cons_succ] at SV
  obtain ⟨q0, _⟩ := HFC.out _ _ SV
  have HSV := Lib.hid SV
  have p0 := SV.blk_cell (i := 6) rfl 0
  have p1 := SV.blk_cell (i := 6) rfl 1
  have p2 := SV.blk_cell (i := 6) rfl 2
  have p3 := SV.blk_cell (i := 7) rfl 0
  have p4 := SV.blk_cell (i := 7) rfl 1
  have p5 := SV.blk_cell (i := 7) rfl 2
  have h78 : g7 ≠ g8 := by
    rintro rfl
    have e1 := (SR.blk_at (i := 6) rfl).2.2
    have e2 := (SR.blk_at (i := 7) rfl).2.2
    rw [e1] at e2
    injection e2 with e3
    injection e3 with e4
    injection e4 with e5
    injection e5 with e6
    injection e6 with e7
    exact HNM.out e7
  clear SV SR
  go_wp2_with fail
  refine (formatMatch_ok _ _ _ _ n hs es0 es1 n0 n1 (k0 + mo) (k1 + mo) ⟨by omega, by omega⟩ ⟨by omega, by omega⟩ HNM.out (HENV0.out _ HSV.out.bel) (HENV1.out _ HSV.out.bel)).mono ?_
  rintro e w10 ⟨vt, rfl, Sm⟩
  have hmm : matF (netF hs es0 (k0 + mo)) (netF hs es1 (k1 + mo)) n = matF (netF hs es0 k0) (netF hs es1 k1) n := by
    rw [HMO.out]
    have := mat_more HG1.out.len.1 es0 es1 k0 k1 ro n
    rw [← HL.out] at this
    exact this
  rw [hmm] at Sm
  have S10 := (HSV.out.call Sm).sub (L' := [FA, blk g5 33 #[.string n0, .slice a0 n e0, .int .i64 k0], blk g6 33 #[.string n1, .slice a1 n e1, .int .i64 k1], RG, RK, RS, _]) (.cons_cons _ (.cons_cons _ (.cons_cons _ (.cons_cons _ (.cons_cons _ (.cons_cons _ (.cons _ (.cons _ (List.Sublist.refl _)))))))))
  subst hRG hRK hRS
  have hmat := HG1.out.len
  have HMU := Lib.hid fun (xa xb : List EI) (h1 : ∀ i, i < n → eAt xa i = upE (eAt es0 i)) (h2 : ∀ i, i < n → eAt xb i = upE (eAt es1 i)) => mat_up (hs := hs) k0 k1 h1 h2 HC0.out.2.2.2 HC1.out.2.2.2
  generalize matF (netF hs es0 k0) (netF hs es1 k1) n = MS at *
  obtain ⟨At, ct, rfl, _, _, _⟩ := (S10.row_rd (i := 6) rfl).open_
  obtain ⟨q0, u0, u1, u2, v0, v1, v2⟩ := HFC.out _ _ S10
  have HSX := Lib.hid S10
  clear S10 Sm hmm HSV q7 q8 f7 f8 p0 p1 p2 p3 p4 p5 h78
  go_wp2_with fail
  go_loopw [163] (fun i w' => ∃ k q : Nat, k ≤ n ∧ i = .int .i64 k ∧ w' = w10.drewN q) (fun i _ => n - (intOf i).toNat)
  case atStart => exact ⟨0, 0, Nat.zero_le _, rfl, rfl⟩
  case round =>
    obtain ⟨k, q, hk, rfl, rfl⟩ := hrel
    by_cases hlt : k < n
    · have c0 := rd_cellI (HSX.out.row_rd (i := 3) rfl) (gl_at (givF hs k0) hlt)
      have c1 := rd_cellI (HSX.out.row_rd (i := 4) rfl) (gl_at (givF hs (k0 + mo)) hlt)
      have hX := giv_bd HG1.out.len ⟨hk0, hk0'⟩ k
      rw [HMO.out, HL.out, giv_more HG1.out.len.1] at c1
      rw [Nat.zero_add] at c0 c1
      generalize givF hs k0 k = X at *
      have hw : IntKind.i64.wrap (X + ro) = X + ro := IntWalk.i64_in _ (by omega)
      have hnn : (X + ro != X + ro) = false := by simp
      go_wp2_with fail
      go_quiet (fail)
      go_wp2
      go_roundw
      case rel => exact ⟨k + 1, _, by omega, by go_num, rfl⟩
      case measure => simp [intOf]; omega
    · obtain rfl : n = k := by omega
      have HCS : Hid (∀ k, k < MS.length → ∃ b o b' o' x, As = some ⟨b, o, none⟩ ∧ At = some ⟨b', o', none⟩ ∧ w10.cell? ⟨b, o + k * 3, none⟩ = some (.int .i64 (StI.up x)) ∧ w10.cell? ⟨b, o + k * 3 + 1, none⟩ = some (.int .i64 (StI.to x)) ∧ w10.cell? ⟨b, o + k * 3 + 2, none⟩ = some (.bool (StI.ov x)) ∧
          w10.cell? ⟨b', o' + k * 3, none⟩ = some (.int .i64 (StI.up x)) ∧ w10.cell? ⟨b', o' + k * 3 + 1, none⟩ = some (.int .i64 (StI.to x)) ∧ w10.cell? ⟨b', o' + k * 3 + 2, none⟩ = some (.bool (StI.ov x))) := fun k hk => by
        obtain ⟨b, o, x, e1, hx, c0, c1, c2⟩ := (HSX.out.row_rd (i := 5) rfl).elem3 (k := k) (fun s : StI => .int .i64 s.up) (fun s : StI => .int .i64 s.to) (fun s : StI => .bool s.ov) (fun _ => rfl) hk
        obtain ⟨b', o', x', e1', hx', c0', c1', c2'⟩ := (HSX.out.row_rd (i := 6) rfl).elem3 (k := k) (fun s : StI => .int .i64 s.up) (fun s : StI => .int .i64 s.to) (fun s : StI => .bool s.ov) (fun _ => rfl) hk
        rw [hx] at hx'
        cases hx'
        exact ⟨b, o, b', o', x, e1, e1', c0, c1, c2, c0', c1', c2'⟩
      have hms63 := (HSX.out.row_rd (i := 5) rfl).le
      go_wp2_with fail
      go_loopw [181] (fun i w' => ∃ k q : Nat, k ≤ MS.length ∧ i = .int .i64 k ∧ w' = w10.drewN q) (fun i _ => MS.length - (intOf i).toNat)
      case atStart => exact ⟨0, q, Nat.zero_le _, rfl, rfl⟩
      case round =>
        obtain ⟨k, q, hk, rfl, rfl⟩ := hrel
        by_cases hlt : k < MS.length
        · obtain ⟨b, o, b', o', x, rfl, rfl, c0, c1, c2, c3, c4, c5⟩ := HCS.out k hlt
          have hnq := neq_state
          have hgd := eqg_state
          generalize MS.length = NM at *
          go_wp2_with fail
          go_quiet (fail)
          go_wp2
          go_roundw
          case rel => exact ⟨k + 1, _, by omega, by go_num, rfl⟩
          case measure => simp [intOf]; omega
        · have hkk : k = MS.length := by omega
          subst hkk
          have S11 := (HSX.out.drewN q).sub (L' := [_, _, _, _]) (.cons_cons _ (.cons_cons _ (.cons_cons _ (.cons _ (.cons _ (.cons_cons _ (.cons _ (List.Sublist.refl _))))))))
          obtain ⟨q0, u0, u1, u2, v0, v1, v2⟩ := HFC.out _ _ S11
          have HUPB : Hid (∀ w, Below W.heap.size W w → Calls Tryz.prog 16 #[.agg #[.string n1, .slice a1 n e1, .int .i64 k1]] w fun e w' => (e = .returned (.tuple #[.agg #[.string n1, .slice a1 n e1, .int .i64 k1], .bool false]) ∧ Below w.heap.size w w') ∨
              (∃ v', e = .returned (.tuple #[.agg #[.string n1, v', .int .i64 k1], .bool true]) ∧ (∀ i, i < n → GoodE (eAt (es1.map upE) i)) ∧ St w w' [row 54 2 v' n ((es1.map upE).flatMap EI.cells)])) := fun w hb => up1_any w n1 _ n es1 k1 (HENV1.out w hb).re hn36 HC1.out.2.2.2
          have hua := up1_any (w10.drewN q) n0 _ n es0 k0 (HENV0.out _ S11.bel).re hn36 HC0.out.2.2.2
          have HUA := Lib.hid hua
          have hE := enters Tryz.func16 (by kernel_rfl) rfl
          unfold Enters at hE
          have HS11 := Lib.hid S11
          clear S11 HSX HCS hua
          generalize w10.drewN q = w11 at *
          go_wp2_with fail
          refine HUA.out.mono ?_
          rintro e w12 (⟨rfl, hb12⟩ | ⟨vx, rfl, hgx, Sx⟩)
          · have S13 := (HS11.out.ext hb12).alloc (.cells #[.string n0, .slice a0 n e0, .int .i64 k0] 33)
            obtain ⟨q0, u0, u1, u2, v0, v1, v2⟩ := HFC.out _ _ S13
            have HS13 := Lib.hid S13
            clear S13 hb12 HUA
            go_wp2_with fail
            refine (HUPB.out _ HS13.out.bel).mono ?_
            rintro e w14 (⟨rfl, hb14⟩ | ⟨vy, rfl, _, Sy⟩)
            · have HBZ := Lib.hid (HS13.out.ext hb14).bel
              clear hb14
              go_wp2_with (go_at_call 7; refine (HLR.out _ (HBZ.out.alloc HBZ.out.size _)).mono ?_; rintro e w' ⟨rfl, hb4⟩; have HB4 := Lib.hid hb4; clear hb4)
              go_ret
              exact ⟨rfl, HB4.out⟩
            · have HBZ := Lib.hid (HS13.out.call Sy).bel
              obtain ⟨by_, cy, rfl⟩ := row_some2 Sy (i := 0) rfl (by rw [HL.out]; exact HG1.out.len.1)
              clear Sy
              go_wp2_with (go_at_call 7; refine (HLR.out _ (HBZ.out.alloc HBZ.out.size _)).mono ?_; rintro e w' ⟨rfl, hb4⟩; have HB4 := Lib.hid hb4; clear hb4)
              go_ret
              exact ⟨rfl, HB4.out⟩
          have HGX := Lib.hid hgx
          have S12 := HS11.out.call Sx
          simp only [List.cons_append, List.nil_append] at S12
          obtain ⟨bx_, cx, rfl⟩ := row_some2 S12 (i := 4) rfl (by rw [HL.out]; exact HG1.out.len.1)
          have S13 := S12.blk_new #[.string n0, .slice (some ⟨bx_, 0, none⟩) n cx, .int .i64 k0] 33
          simp only [List.cons_append, List.nil_append] at S13
          obtain ⟨q0, u0, u1, u2, v0, v1, v2⟩ := HFC.out _ _ S13
          have HS13 := Lib.hid S13
          clear S12 S13 Sx hgx HUA
          go_wp2_with fail
          generalize w12.heap.size = gx at *
          refine (HUPB.out _ HS13.out.bel).mono ?_
          rintro e w14 (⟨rfl, hb14⟩ | ⟨vy, rfl, hgy, Sy⟩)
          · have HBZ := Lib.hid (HS13.out.ext hb14).bel
            clear hb14
            go_wp2_with (go_at_call 7; refine (HLR.out _ (HBZ.out.alloc HBZ.out.size _)).mono ?_; rintro e w' ⟨rfl, hb4⟩; have HB4 := Lib.hid hb4; clear hb4)
            go_ret
            exact ⟨rfl, HB4.out⟩
          have HGY := Lib.hid hgy
          have S14 := HS13.out.call Sy
          simp only [List.cons_append, List.nil_append] at S14
          obtain ⟨by_, cy, rfl⟩ := row_some2 S14 (i := 6) rfl (by rw [HL.out]; exact HG1.out.len.1)
          have S15 := S14.blk_new #[.string n1, .slice (some ⟨by_, 0, none⟩) n cy, .int .i64 k1] 33
          simp only [List.cons_append, List.nil_append] at S15
          obtain ⟨q0, _⟩ := HFC.out _ _ S15
          have x0 := S15.blk_cell (i := 5) rfl 0
          have x1 := S15.blk_cell (i := 5) rfl 1
          have x2 := S15.blk_cell (i := 5) rfl 2
          have y0 := S15.blk_cell (i := 7) rfl 0
          have y1 := S15.blk_cell (i := 7) rfl 1
          have y2 := S15.blk_cell (i := 7) rfl 2
          have HS15 := Lib.hid S15
          clear S14 S15 Sy hgy HS13 u0 u1 u2 v0 v1 v2
          go_wp2_with fail
          have hb15 := HS15.out.bel
          refine (formatMatch_ok _ _ _ _ n hs (es0.map upE) (es1.map upE) n0 n1 k0 k1 ⟨hk0, hk0'⟩ ⟨hk1, hk1'⟩ HNM.out
            ⟨H.out.later hb15, (HS15.out.row_rd (i := 4) rfl).now, HG1.out, HC0.out.2.1, (HENV0.out W (Below.refl _ _)).sz, HGX.out⟩
            ⟨H.out.later hb15, (HS15.out.row_rd (i := 6) rfl).now, HG1.out, HC1.out.2.1, (HENV1.out W (Below.refl _ _)).sz, HGY.out⟩).mono ?_
          rintro e w16 ⟨vu, rfl, Su⟩
          rw [HMU.out (es0.map upE) (es1.map upE) (fun i hi => eAt_map (by have := (HENV0.out W (Below.refl _ _)).re.count (f := EI.cells) (fun _ => rfl) (by decide); omega)) (fun i hi => eAt_map (by have := (HENV1.out W (Below.refl _ _)).re.count (f := EI.cells) (fun _ => rfl) (by decide); omega))] at Su
          have S17 := HS15.out.call Su
          simp only [List.cons_append, List.nil_append] at S17
          obtain ⟨Au, cu, rfl, _, _, _⟩ := (S17.row_rd (i := 8) rfl).open_
          have HCU : Hid (∀ k, k < MS.length → ∃ b o b' o' x, As = some ⟨b, o, none⟩ ∧ Au = some ⟨b', o', none⟩ ∧ w16.cell? ⟨b, o + k * 3, none⟩ = some (.int .i64 (StI.up x)) ∧ w16.cell? ⟨b, o + k * 3 + 1, none⟩ = some (.int .i64 (StI.to x)) ∧ w16.cell? ⟨b, o + k * 3 + 2, none⟩ = some (.bool (StI.ov x)) ∧
              w16.cell? ⟨b', o' + k * 3, none⟩ = some (.int .i64 (StI.up x)) ∧ w16.cell? ⟨b', o' + k * 3 + 1, none⟩ = some (.int .i64 (StI.to x)) ∧ w16.cell? ⟨b', o' + k * 3 + 2, none⟩ = some (.bool (StI.ov x))) := fun k hk => by
            obtain ⟨b, o, x, e1, hx, c0, c1, c2⟩ := (S17.row_rd (i := 3) rfl).elem3 (k := k) (fun s : StI => .int .i64 s.up) (fun s : StI => .int .i64 s.to) (fun s : StI => .bool s.ov) (fun _ => rfl) hk
            obtain ⟨b', o', x', e1', hx', c0', c1', c2'⟩ := (S17.row_rd (i := 8) rfl).elem3 (k := k) (fun s : StI => .int .i64 s.up) (fun s : StI => .int .i64 s.to) (fun s : StI => .bool s.ov) (fun _ => rfl) hk
            rw [hx] at hx'
            cases hx'
            exact ⟨b, o, b', o', x, e1, e1', c0, c1, c2, c0', c1', c2'⟩
          have HB17 := Lib.hid S17.bel
          clear S17 Su HS15 hb15 x0 x1 x2 y0 y1 y2
          go_wp2_with fail
          go_loopw [232] (fun i w' => ∃ k q : Nat, k ≤ MS.length ∧ i = .int .i64 k ∧ w' = w16.drewN q) (fun i _ => MS.length - (intOf i).toNat)
          case atStart => exact ⟨0, 0, Nat.zero_le _, rfl, rfl⟩
          case round =>
            obtain ⟨k, q, hk, rfl, rfl⟩ := hrel
            by_cases hlt : k < MS.length
            · obtain ⟨b, o, b', o', x, rfl, rfl, c0, c1, c2, c3, c4, c5⟩ := HCU.out k hlt
              have hnq := neq_state
              have hgd := eqg_state
              generalize MS.length = NM at *
              go_wp2_with fail
              go_quiet (fail)
              go_wp2
              go_roundw
              case rel => exact ⟨k + 1, _, by omega, by go_num, rfl⟩
              case measure => simp [intOf]; omega
            · have hkk : k = MS.length := by omega
              subst hkk
              go_wp2_with (go_at_call 7; refine (HLR.out _ (below_drewN HB17.out q)).mono ?_; rintro e w' ⟨rfl, hb4⟩; have HB4 := Lib.hid hb4; clear hb4)
              go_ret
              exact ⟨rfl, HB4.out⟩
end Go.Proofs.YtbakoldmfpbnaaaGreatDoor
