/- Chapter 1: the runs of any list of entries. -/
import Derived.Test.YtbakoldmfpbnaaaGreatDoorB10
import Derived.Test.YtbakoldmfpbnaaaGreatDoorB25
set_option linter.unusedVariables false
set_option linter.unusedSimpArgs false
set_option linter.unusedSectionVars false
set_option linter.constructorNameAsVariable false
namespace Go.Adj
open Go.RowKit Go.Mem
theorem runs_same {l : List EI} {j : Nat} {x : EI} (hy : l[j]? = some x) (hx : l[j + 1]? = some x) : ∃ rs cnt, runsL (l.take (j + 1)) = rs ++ [(cnt, x)] ∧ runsL (l.take (j + 2)) = rs ++ [(cnt + 1, x)] := by
  obtain ⟨q, h1, h2⟩ := pushR_last (runsL (l.take j)) x
  rw [← runsL_take hy] at h1
  obtain ⟨cnt, z⟩ := q
  obtain rfl : z = x := h2
  obtain ⟨rs, hrs⟩ := List.getLast?_eq_some_iff.1 h1
  refine ⟨rs, cnt, hrs, ?_⟩
  rw [show j + 2 = j + 1 + 1 from rfl, runsL_take hx]
  unfold pushR
  rw [h1]
  dsimp only
  rw [if_pos rfl, hrs, List.dropLast_concat]
/-- the entries of runs -/
def expR (rs : List (Nat × EI)) : List EI := rs.flatMap fun q => List.replicate q.1 q.2
theorem expR_push (out : List (Nat × EI)) (x : EI) : expR (pushR out x) = expR out ++ [x] := by
  unfold pushR
  split
  · rename_i q h
    obtain ⟨rs, rfl⟩ := List.getLast?_eq_some_iff.1 h
    split
    · rename_i e
      obtain ⟨c, z⟩ := q
      obtain rfl : z = x := e
      rw [List.dropLast_concat]
      unfold expR
      rw [List.flatMap_append, List.flatMap_append, List.append_assoc]
      simp [List.replicate_succ']
    · unfold expR
      rw [List.flatMap_append]
      simp
  · rename_i h
    rw [List.getLast?_eq_none_iff.1 h]
    rfl
theorem expR_fold (l : List EI) : ∀ out, expR (l.foldl pushR out) = expR out ++ l := by
  induction l with
  | nil => intro out; simp
  | cons x l ih => intro out; rw [List.foldl_cons, ih, expR_push, List.append_assoc]; rfl
theorem runsL_exp (l : List EI) : expR (runsL l) = l := by unfold runsL; rw [expR_fold]; rfl
theorem exp_cnt : ∀ {rs : List (Nat × EI)} {q : Nat × EI}, q ∈ rs → q.1 ≤ (expR rs).length
  | [], _, h => by cases h
  | r :: rs, q, h => by
    unfold expR
    rw [List.flatMap_cons, List.length_append, List.length_replicate]
    rcases List.mem_cons.1 h with rfl | h
    · omega
    · have := exp_cnt h
      unfold expR at this
      omega
theorem runsL_cnt {l : List EI} {q : Nat × EI} (h : q ∈ runsL l) : q.1 ≤ l.length := by
  have h1 := exp_cnt h
  rwa [runsL_exp] at h1
end Go.Adj
namespace Go.Proofs.YtbakoldmfpbnaaaGreatDoor
open Go.RowKit Go.Mem Go.Sheet Go.Adj Go.Shelf
set_option maxRecDepth 100000 in
set_option maxHeartbeats 4000000 in
theorem runs_all (W : World) (v : Value) (n : Nat) (l : List EI) (h : Rd W (· < W.heap.size) 2 v n (l.flatMap EI.cells)) (hn : n ≤ 36) :
    Calls Tryz.prog 28 #[v] W fun e w' => ∃ vo qs, e = .returned vo ∧ qs.map (·.2) = runsL l ∧ St W w' (runsS vo qs) := by
  have hl := h.count (f := EI.cells) (fun _ => rfl) (by decide)
  obtain ⟨A, c, rfl, _, _, h⟩ := h.open_
  have H := Lib.hid h
  have HL := Lib.hid hl
  clear h hl
  go_enter Tryz.func28, Tryz.ntmps28
  go_wp2
  have S0 := (St.refl W).row_nil 29 1
  go_loopw [9, 3] (fun i v w' => ∃ (k : Nat) (qs : List (Value × Nat × EI)), k ≤ n ∧ i = .int .i64 k ∧ Hid (qs.map (·.2) = runsL (l.take k)) ∧ qs.length ≤ k ∧ St W w' (runsS v qs)) (fun i _ _ => n - (intOf i).toNat)
  case atStart => exact ⟨0, [], Nat.zero_le _, rfl, by show _ = _; rfl, Nat.le_refl _, S0⟩
  case round =>
    obtain ⟨k, qs, hk, rfl, hq, hql, S⟩ := hrel
    clear S0
    by_cases hlt : k < n
    · obtain ⟨b, o, x, rfl, hx, c0, c1⟩ := (H.out.below S.bel).elem2 (k := k) (fun s : EI => .int .i64 s.s) (fun s : EI => .string s.m) (fun _ => rfl) hlt
      obtain ⟨B, d, rfl, _, _, _⟩ := (S.row_rd (i := 0) rfl).open_
      have HX := Lib.hid hx
      have S5 := S.blk_new #[.int .i64 x.s, .string x.m] 54
      have hi5 : (runsS (.slice B qs.length d) qs ++ [blk wr.heap.size 54 #[.int .i64 x.s, .string x.m]])[qs.length + 1]? = some (blk wr.heap.size 54 #[.int .i64 x.s, .string x.m]) := by unfold runsS; simp
      have g0 := S5.blk_cell hi5 0
      have g1 := S5.blk_cell hi5 1
      clear hi5
      have HS5 := Lib.hid S5
      have hblt : b < wr.heap.size := World.block_lt_of_cell? _ _ c0
      clear hx S S5
      obtain ⟨xs, xm⟩ := x
      dsimp only at c0 c1 g0 g1 HS5
      go_wp2_with fail
      clear c0 c1
      generalize wr.alloc (.cells #[.int .i64 xs, .string xm] 54) = w5 at *
      generalize wr.heap.size = g5 at *
      by_cases h0 : k = 0
      · subst h0
        have hgt : decide ((0 : Int) < ((0 : Nat) : Int)) = false := by decide
        have HNEW := Lib.hid (runsL_new (k := 0) HX.out fun j hj => by omega)
        go_quiet (fail)
        have S6 := (HS5.out.drewN nq).row_new (e := 54) (size := 2) (n := 1) #[.int .i64 xs, .string xm] (by unfold maxLen; omega) rfl
        have HS6 := Lib.hid (S6.alloc (.cells #[.slice (some ⟨(w5.drewN nq).heap.size, 0, none⟩) 1 1] 29))
        have f0 : (w5.drewN nq).cell? ⟨g5, 0, none⟩ = some (.int .i64 xs) := g0
        have f1 : (w5.drewN nq).cell? ⟨g5, 1, none⟩ = some (.string xm) := g1
        have HI0 : Hid ((runsS (.slice B qs.length d) qs ++ [blk g5 54 #[.int .i64 xs, .string xm]] ++ [row 54 2 (.slice (some ⟨(w5.drewN nq).heap.size, 0, none⟩) 1 1) 1 [.int .i64 xs, .string xm]])[0]? = some (row 29 1 (.slice B qs.length d) qs.length (qs.map (·.1)))) := by show _ = _; rfl
        have HRD : Hid (Rd (((w5.drewN nq).alloc (.cells #[.int .i64 xs, .string xm] 54)).alloc (.cells #[.slice (some ⟨(w5.drewN nq).heap.size, 0, none⟩) 1 1] 29)) (fun _ => True) 1 (.slice (some ⟨(w5.drewN nq).heap.size + 1, 0, none⟩) 1 1) 1 [.slice (some ⟨(w5.drewN nq).heap.size, 0, none⟩) 1 1]) := rd_one (by simp)
        have HQL := Lib.hid hql
        clear g0 g1 S6 h HS5
        generalize w5.drewN nq = w6 at *
        go_wp2_with (at_builtin; refine wpList_append_st eltRun rfl _ _ rfl rfl HS6.out (k := 0) HI0.out rfl HRD.out one_sl (by omega) (by omega) ?_; intro v' w' S' _; have HS7 := Lib.hid S'; clear S' HS6 HI0 HRD)
        go_roundw
        case rel =>
          refine ⟨1, qs ++ [(.slice (some ⟨w6.heap.size, 0, none⟩) 1 1, 1, ⟨xs, xm⟩)], by omega, by go_num, ?_, by rw [List.length_append]; have := HQL.out; show qs.length + 1 ≤ _; omega, ?_⟩
          · show _ = _
            rw [HNEW.out, List.map_append, hq.out]; rfl
          · have S3 := HS7.out.sub (L' := row 29 1 v' (qs.length + 1) (qs.map (·.1) ++ [.slice (some ⟨w6.heap.size, 0, none⟩) 1 1]) :: (qs.map (runA 54) ++ [row 54 2 (.slice (some ⟨w6.heap.size, 0, none⟩) 1 1) 1 [.int .i64 xs, .string xm]])) (by
              unfold runsS
              simp only [List.cons_append, List.set_cons_zero, List.append_assoc]
              exact ((List.Sublist.refl _).append (.cons _ (List.Sublist.refl _))).cons_cons _)
            unfold runsS
            rw [List.length_append, List.map_append, List.map_append]
            exact S3
        case measure => simp [intOf]; omega
      · obtain ⟨j, rfl⟩ : ∃ j, k = j + 1 := ⟨k - 1, by omega⟩
        have hgt : decide ((0 : Int) < ((j + 1 : Nat) : Int)) = true := by simp
        obtain ⟨b', o', y, hA', hy, d0, d1⟩ := (H.out.below HS5.out.bel).elem2 (k := j) (fun s : EI => .int .i64 s.s) (fun s : EI => .string s.m) (fun _ => rfl) (by omega)
        cases hA'
        by_cases hyx : y = ⟨xs, xm⟩
        · subst hyx
          have hjn : j < n := by omega
          have hwj : IntKind.i64.wrap (j : Int) = (j : Int) := IntWalk.i64_in _ (by omega)
          obtain ⟨rs, cnt, hr1, hr2⟩ := runs_same hy HX.out
          have hcnt : cnt ≤ 36 := by
            have := runsL_cnt (l := l.take (j + 1)) (q := (cnt, ⟨xs, xm⟩)) (by rw [hr1]; simp)
            rw [List.length_take] at this
            dsimp only at this
            omega
          have heq2 : ∀ w, (binOp .eql 54 (.agg #[.int .i64 xs, .string xm]) (.agg #[.int .i64 xs, .string xm])).run Tryz.prog w = .ok (.bool true) w := fun w => by rw [eql_entry]; simp
          have hgd := eqg_entry
          obtain ⟨qs', ql, rfl, hq1, hq2⟩ := List.map_eq_append_iff.1 (hq.out.trans hr1)
          obtain ⟨⟨vq, cn, z⟩, rfl, hz⟩ := List.map_eq_singleton_iff.1 hq2
          cases hz
          have HQ1 := Lib.hid hq1
          have HR2 := Lib.hid hr2
          have hlen : (qs' ++ [(vq, cnt, (⟨xs, xm⟩ : EI))]).length = qs'.length + 1 := by simp
          rw [hlen] at HS5 hql ⊢
          have S5' : St W w5 (row 29 1 (.slice B (qs'.length + 1) d) (qs'.length + 1) (qs'.map (·.1) ++ [vq]) :: row 54 2 vq cnt (List.replicate cnt [.int .i64 xs, .string xm]).flatten :: blk g5 54 #[.int .i64 xs, .string xm] :: qs'.map (runA 54)) := by
            have e : runsS (.slice B (qs'.length + 1) d) (qs' ++ [(vq, cnt, (⟨xs, xm⟩ : EI))]) ++ [blk g5 54 #[.int .i64 xs, .string xm]] = row 29 1 (.slice B (qs'.length + 1) d) (qs'.length + 1) (qs'.map (·.1) ++ [vq]) :: (qs'.map (runA 54) ++ [row 54 2 vq cnt (List.replicate cnt [.int .i64 xs, .string xm]).flatten, blk g5 54 #[.int .i64 xs, .string xm]]) := by
              unfold runsS
              rw [hlen, List.map_append, List.map_append]
              simp [runA, EI.cells]
            have := HS5.out
            rw [e] at this
            exact this.perm (.cons _ List.perm_append_comm)
          have hq18 : qs'.length ≤ j := by omega
          have HML : Hid ((qs'.map (·.1)).length = qs'.length) := List.length_map _
          obtain ⟨m, hm⟩ : ∃ m, m = qs'.length := ⟨_, rfl⟩
          rw [← hm] at S5' HML hq18 ⊢
          have HM := Lib.hid hm
          generalize hVS : qs'.map (·.1) = VS at S5' HML
          generalize hRR : qs'.map (runA 54) = RR at S5'
          have HVS := Lib.hid hVS
          have HRR := Lib.hid hRR
          have hwm : IntKind.i64.wrap (m : Int) = (m : Int) := IntWalk.i64_in _ (by omega)
          have HR5 := Lib.hid S5'
          clear hy hr1 hr2 hq1 hq2 hq hm hVS hRR S5' HS5 hlen hql
          go_quiet (fail)
          have HS6 := Lib.hid (HR5.out.drewN nq)
          clear HR5 g0 g1 d0 d1 h
          generalize w5.drewN nq = w6 at *
          obtain ⟨gb, cb, hB⟩ := row_some HS6.out (i := 0) rfl (by omega)
          injection hB with e1 e2 e3
          subst e1 e3
          go_wp2_with fail
          have HCL : Hid (∀ (w' : World) (L : List Asr), St W w' (row 29 1 (.slice (some ⟨gb, 0, none⟩) (m + 1) d) (m + 1) (VS ++ [vq]) :: L) → w'.cell? ⟨gb, m, none⟩ = some vq) := fun w' L h => by
            obtain ⟨b, o, e, _, _, hc⟩ := (h.row_rd (i := 0) rfl).addr (by omega)
            cases e
            have := hc m vq (by rw [List.getElem?_append_right (by rw [HML.out]; exact Nat.le_refl _), HML.out, Nat.sub_self]; rfl)
            rwa [Nat.zero_add] at this
          have S6 := HS6.out
          refine wp_head_tail' 0 9 2 [] [0, 1, 2, 3, 4, 5, 6] rfl (fun w' => ∃ R L, St W w' (row 29 1 (.slice (some ⟨gb, 0, none⟩) (m + 1) d) (m + 1) (VS ++ [vq]) :: R :: blk g5 54 #[.int .i64 xs, .string xm] :: L)) (by kernel_rfl) (by kernel_rfl) ⟨_, _, S6.drew⟩ ?_
          simp only [pick, List.filterMap_cons, List.filterMap_nil, List.getElem?_toArray, List.getElem?_cons_succ, List.getElem?_cons_zero]
          generalize hK : (fun w' : World => ∃ R L, St W w' (row 29 1 (.slice (some ⟨gb, 0, none⟩) (m + 1) d) (m + 1) (VS ++ [vq]) :: R :: blk g5 54 #[.int .i64 xs, .string xm] :: L)) = K
          have kK : ∀ y : Wd K, ∃ R L, St W y.w (row 29 1 (.slice (some ⟨gb, 0, none⟩) (m + 1) d) (m + 1) (VS ++ [vq]) :: R :: blk g5 54 #[.int .i64 xs, .string xm] :: L) := by subst hK; exact fun y => y.h
          have hKd : ∀ (w' : World) (R : Asr) (L : List Asr), St W w' (row 29 1 (.slice (some ⟨gb, 0, none⟩) (m + 1) d) (m + 1) (VS ++ [vq]) :: R :: blk g5 54 #[.int .i64 xs, .string xm] :: L) → K w' := by
            intro w' R L h
            subst hK
            exact ⟨R, L, h⟩
          have hne : Nonempty (Wd K) := ⟨⟨_, hKd _ _ _ S6⟩⟩
          have k0 : ∀ y : Wd K, y.w.cell? ⟨gb, m, none⟩ = some vq := fun y => by obtain ⟨R, L, h⟩ := kK y; exact HCL.out _ _ h
          have k1 : ∀ y : Wd K, y.w.cell? ⟨g5, 0, none⟩ = some (.int .i64 xs) := fun y => by obtain ⟨R, L, h⟩ := kK y; exact h.blk_cell (i := 2) rfl 0
          have k2 : ∀ y : Wd K, y.w.cell? ⟨g5, 1, none⟩ = some (.string xm) := fun y => by obtain ⟨R, L, h⟩ := kK y; exact h.blk_cell (i := 2) rfl 1
          clear hK kK
          have S7 := S6.drew
          generalize w6.drew = w7 at *
          refine wpQuiet_nil ?_
          change wpQuiet _ _ _ _ (_ :: _ :: _ :: _ :: _ :: _ :: _ :: []) _
          repeat (go_big_quiet_step ((fail)))
          refine wpQuiet_nil ?_
          clear k0 k1 k2 hne S6 HS6
          refine headW_all (rs := [7]) (by kernel_rfl) (by simp) (by kernel_rfl) ?_
          intro i hi
          obtain rfl := List.mem_singleton.1 hi
          refine wpOp_list rfl ?_
          intro Q' hQ'
          go_wp2_with fail
          have S8 := S7.alloc (.cells #[.int .i64 xs, .string xm] 54)
          refine ⟨hKd _ _ _ S8, ?_⟩
          refine headW_all (rs := [8]) (by kernel_rfl) (by simp) (by kernel_rfl) ?_
          intro i hi
          obtain rfl := List.mem_singleton.1 hi
          refine wpOp_list rfl ?_
          intro Q' hQ'
          obtain ⟨Av, cv, rfl, _, _, _⟩ := (S7.row_rd (i := 1) rfl).open_
          refine wpList_append_st eltE rfl _ _ rfl rfl S8 (k := 1) rfl rfl (rd_two (by simp)) (by simp [Value.oneCell']) (by omega) (by omega) ?_
          intro v' w9 S9 _
          simp only [List.set_cons_zero, List.set_cons_succ] at S9
          obtain ⟨gv, cv', rfl⟩ := row_some2 S9 (i := 1) rfl (by omega)
          go_wp2_with fail
          refine ⟨hKd _ _ _ S9, by kernel_rfl, ?_⟩
          have c9 := HCL.out _ _ S9
          obtain ⟨_, _, hz, _, _, _, _, hfz⟩ := S9.row_form (i := 0) rfl (by omega)
          cases hz
          have f9 := hfz m
          have S10 := S9.row_set (i := 0) rfl m (.slice (some ⟨gv, 0, none⟩) (cnt + 1) cv')
          simp only [List.set_cons_zero] at S10
          have hset : (VS ++ [Value.slice Av cnt cv]).set m (Value.slice (some ⟨gv, 0, none⟩) (cnt + 1) cv') = VS ++ [Value.slice (some ⟨gv, 0, none⟩) (cnt + 1) cv'] := by
            rw [List.set_append_right _ _ (by rw [HML.out]; exact Nat.le_refl _), HML.out, Nat.sub_self]; rfl
          rw [hset] at S10
          have HS10 := Lib.hid S10
          clear hKd S7 S8 S9 S10 hset hfz
          go_wp2_with fail
          refine NoPanic.normal ?_
          go_wp2_with fail
          go_roundw
          case rel =>
            refine ⟨j + 1 + 1, qs' ++ [(.slice (some ⟨gv, 0, none⟩) (cnt + 1) cv', cnt + 1, ⟨xs, xm⟩)], by omega, by go_num, ?_, by have := HM.out; simp; omega, ?_⟩
            · show _ = _
              rw [HR2.out, List.map_append, HQ1.out]; rfl
            · have S11 := HS10.out.sub (L' := [_, _] ++ RR) (.cons_cons _ (.cons_cons _ (.cons _ (List.Sublist.refl _))))
              unfold runsS
              rw [List.length_append, List.map_append, List.map_append, HVS.out, HRR.out, ← HM.out]
              have e : (List.replicate cnt [Value.int .i64 xs, Value.string xm]).flatten ++ [Value.int .i64 xs, Value.string xm] = (List.replicate (cnt + 1) [Value.int .i64 xs, Value.string xm]).flatten := by rw [List.replicate_succ', List.flatten_append]; rfl
              rw [e] at S11
              exact S11.perm (.cons _ (List.perm_append_comm (l₁ := [_]) (l₂ := RR)))
          case measure => simp [intOf]; omega
        · have hne := hyx
          have HNEW := Lib.hid (runsL_new (k := j + 1) HX.out fun i hi z hz => by
            have : i = j := by omega
            subst this
            rw [hy] at hz; cases hz; exact hne)
          obtain ⟨ys, ym⟩ := y
          have hjn : j < n := by omega
          have hwj : IntKind.i64.wrap (j : Int) = (j : Int) := IntWalk.i64_in _ (by omega)
          have heq : (ys == xs && ym.toList == xm.toList) = false := by
            rw [Bool.and_eq_false_iff]
            by_cases e : ys = xs
            · right; subst e; rw [beq_eq_false_iff_ne]; exact fun e2 => hne (by rw [toL_inj e2])
            · left; simpa using e
          have heq2 : ∀ w, (binOp .eql 54 (.agg #[.int .i64 ys, .string ym]) (.agg #[.int .i64 xs, .string xm])).run Tryz.prog w = .ok (.bool false) w := fun w => by rw [eql_entry, heq]
          have hgd := eqg_entry
          clear hy hne heq
          go_quiet (fail)
          have S6 := (HS5.out.drewN nq).row_new (e := 54) (size := 2) (n := 1) #[.int .i64 xs, .string xm] (by unfold maxLen; omega) rfl
          have HS6 := Lib.hid (S6.alloc (.cells #[.slice (some ⟨(w5.drewN nq).heap.size, 0, none⟩) 1 1] 29))
          have f0 : (w5.drewN nq).cell? ⟨g5, 0, none⟩ = some (.int .i64 xs) := g0
          have f1 : (w5.drewN nq).cell? ⟨g5, 1, none⟩ = some (.string xm) := g1
          have HI0 : Hid ((runsS (.slice B qs.length d) qs ++ [blk g5 54 #[.int .i64 xs, .string xm]] ++ [row 54 2 (.slice (some ⟨(w5.drewN nq).heap.size, 0, none⟩) 1 1) 1 [.int .i64 xs, .string xm]])[0]? = some (row 29 1 (.slice B qs.length d) qs.length (qs.map (·.1)))) := by show _ = _; rfl
          have HRD : Hid (Rd (((w5.drewN nq).alloc (.cells #[.int .i64 xs, .string xm] 54)).alloc (.cells #[.slice (some ⟨(w5.drewN nq).heap.size, 0, none⟩) 1 1] 29)) (fun _ => True) 1 (.slice (some ⟨(w5.drewN nq).heap.size + 1, 0, none⟩) 1 1) 1 [.slice (some ⟨(w5.drewN nq).heap.size, 0, none⟩) 1 1]) := rd_one (by simp)
          have HQL := Lib.hid hql
          clear g0 g1 S6 h HS5
          generalize w5.drewN nq = w6 at *
          go_wp2_with (at_builtin; refine wpList_append_st eltRun rfl _ _ rfl rfl HS6.out (k := 0) HI0.out rfl HRD.out one_sl (by omega) (by omega) ?_; intro v' w' S' _; have HS7 := Lib.hid S'; clear S' HS6 HI0 HRD)
          go_roundw
          case rel =>
            refine ⟨j + 1 + 1, qs ++ [(.slice (some ⟨w6.heap.size, 0, none⟩) 1 1, 1, ⟨xs, xm⟩)], by omega, by go_num, ?_, by rw [List.length_append]; have := HQL.out; show qs.length + 1 ≤ _; omega, ?_⟩
            · show _ = _
              rw [HNEW.out, List.map_append, hq.out]; rfl
            · have S3 := HS7.out.sub (L' := row 29 1 v' (qs.length + 1) (qs.map (·.1) ++ [.slice (some ⟨w6.heap.size, 0, none⟩) 1 1]) :: (qs.map (runA 54) ++ [row 54 2 (.slice (some ⟨w6.heap.size, 0, none⟩) 1 1) 1 [.int .i64 xs, .string xm]])) (by
                unfold runsS
                simp only [List.cons_append, List.set_cons_zero, List.append_assoc]
                exact ((List.Sublist.refl _).append (.cons _ (List.Sublist.refl _))).cons_cons _)
              unfold runsS
              rw [List.length_append, List.map_append, List.map_append]
              exact S3
          case measure => simp [intOf]; omega
    · have HS := Lib.hid S
      clear S
      obtain rfl : k = n := by omega
      go_wp2
      go_ret
      refine ⟨u3, qs, rfl, ?_, HS.out⟩
      rw [hq.out, HL.out, List.take_length]
end Go.Proofs.YtbakoldmfpbnaaaGreatDoor
