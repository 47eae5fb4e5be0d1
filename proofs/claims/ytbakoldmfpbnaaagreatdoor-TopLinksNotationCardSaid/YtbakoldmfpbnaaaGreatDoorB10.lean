/- Part 10 of the walks of the golf union's program: LN7. -/
import Derived.Test.YtbakoldmfpbnaaaGreatDoorB07
import Derived.Test.YtbakoldmfpbnaaaGreatDoorB09
import Derived.Laws.StructEq
set_option linter.unusedVariables false
set_option linter.unusedSimpArgs false
set_option linter.unusedSectionVars false
set_option linter.constructorNameAsVariable false
/- Chapter 1: the runs of a list of entries. -/
namespace Go.Adj
open Go.RowKit Go.Mem
deriving instance DecidableEq for EI
/-- one more entry behind the runs -/
def pushR (out : List (Nat × EI)) (x : EI) : List (Nat × EI) :=
  match out.getLast? with
  | some q => if q.2 = x then out.dropLast ++ [(q.1 + 1, x)] else out ++ [(1, x)]
  | none => [(1, x)]
def runsL (l : List EI) : List (Nat × EI) := l.foldl pushR []
theorem runsL_snoc (l : List EI) (x : EI) : runsL (l ++ [x]) = pushR (runsL l) x := by unfold runsL; rw [List.foldl_append]; rfl
theorem runsL_take {l : List EI} {k : Nat} {x : EI} (h : l[k]? = some x) : runsL (l.take (k + 1)) = pushR (runsL (l.take k)) x := by
  rw [← runsL_snoc, List.take_add_one, h]; rfl
theorem pushR_last (out : List (Nat × EI)) (x : EI) : ∃ q, (pushR out x).getLast? = some q ∧ q.2 = x := by
  unfold pushR
  split
  · split
    · exact ⟨_, List.getLast?_concat .., rfl⟩
    · exact ⟨_, List.getLast?_concat .., rfl⟩
  · exact ⟨_, rfl, rfl⟩
theorem runsL_new {l : List EI} {k : Nat} {x : EI} (h : l[k]? = some x) (hd : ∀ j, k = j + 1 → ∀ y, l[j]? = some y → y ≠ x) : runsL (l.take (k + 1)) = runsL (l.take k) ++ [(1, x)] := by
  rw [runsL_take h]
  cases k with
  | zero => rfl
  | succ j =>
    obtain ⟨y, hy⟩ : ∃ y, l[j]? = some y := ⟨l[j]'(by have := (List.getElem?_eq_some_iff.1 h).1; omega), List.getElem?_eq_getElem _⟩
    obtain ⟨q, h1, h2⟩ := pushR_last (runsL (l.take j)) y
    rw [← runsL_take hy] at h1
    unfold pushR
    rw [h1]
    dsimp only
    rw [if_neg (by rw [h2]; exact hd j rfl y hy)]
/-- the row of a run -/
def runA (t : TypeId) (q : Value × Nat × EI) : Asr := row t 2 q.1 q.2.1 (List.replicate q.2.1 (EI.cells q.2.2)).flatten
end Go.Adj
namespace Go.Proofs.YtbakoldmfpbnaaaGreatDoor
open Go.RowKit Go.Mem Go.Sheet Go.Adj Go.Shelf
theorem eltRun : Elt Tryz.prog 83 29 (.slice none 0 0) 1 24 := ⟨Tryz.underlying83, by kernel_rfl, rfl, by decide⟩
theorem eqg_entry (op : BinOp) (x y : Operand) (xs ys : Array Value) (w : World) : (eqGuard op 54 x y (.agg xs) (.agg ys)).run Tryz.prog w = .ok () w := run_eqGuard_agg w op _ x y xs ys (by kernel_rfl)
theorem eql_entry (w : World) (a b : Int) (s t : ByteArray) : (binOp .eql 54 (.agg #[.int .i64 a, .string s]) (.agg #[.int .i64 b, .string t])).run Tryz.prog w = .ok (.bool (a == b && s.toList == t.toList)) w := by
  rw [run_eql_struct, run_equalIn_agg w 9999 _ _ _ (by kernel_rfl) (by kernel_rfl)]
  have hf : (Tryz.prog.fieldsOf 54).toList.map (fun f => (f.name, f.type, f.offset)) = [("Strokes", 3, 0), ("Mark", 9, 1)] := by kernel_rfl
  generalize (Tryz.prog.fieldsOf 54).toList = L at *
  have hL : ∃ f1 f2, L = [f1, f2] := by
    match L, congrArg List.length hf with
    | [f1, f2], _ => exact ⟨f1, f2, rfl⟩
  obtain ⟨f1, f2, rfl⟩ := hL
  obtain ⟨⟨h1, h2, h3⟩, h4, h5, h6⟩ : (f1.name = "Strokes" ∧ f1.type = 3 ∧ f1.offset = 0) ∧ (f2.name = "Mark" ∧ f2.type = 9 ∧ f2.offset = 1) := by simpa using hf
  simp only [Op.eqFields, h1, h2, h3, h4, h5, h6]
  simp [go_sem, Tryz.underlying3, Tryz.underlying9]
  by_cases e : a = b
  · by_cases e2 : s.toList = t.toList
    · simp [e, e2]
    · simp [e, e2]
  · simp [e]
theorem toL_inj {a b : ByteArray} (h : a.toList = b.toList) : a = b := by
  rw [ByteArray.toList_eq, ByteArray.toList_eq] at h
  obtain ⟨⟨x⟩⟩ := a
  obtain ⟨⟨y⟩⟩ := b
  have : x = y := h
  rw [this]
theorem one_sl {b n c : Nat} : ∀ u ∈ [Value.slice (some ⟨b, 0, none⟩) n c], u.oneCell' = true := by simp [Value.oneCell']
/-- what runs holds -/
def runsS (v : Value) (qs : List (Value × Nat × EI)) : List Asr := row 29 1 v qs.length (qs.map (·.1)) :: qs.map (runA 54)
set_option maxRecDepth 100000 in
set_option maxHeartbeats 4000000 in
theorem runs_any (W : World) (v : Value) (n : Nat) (l : List EI) (h : Rd W (· < W.heap.size) 2 v n (l.flatMap EI.cells)) (hn : n ≤ 36) (hd : ∀ i, ∀ x y, l[i]? = some x → l[i + 1]? = some y → x ≠ y) :
    Calls Tryz.prog 28 #[v] W fun e w' => ∃ vo qs, e = .returned vo ∧ qs.map (·.2) = runsL l ∧ St W w' (runsS vo qs) := by
  have hl := h.count (f := EI.cells) (fun _ => rfl) (by decide)
  obtain ⟨A, c, rfl, _, _, h⟩ := h.open_
  have H := Lib.hid h
  have HD := Lib.hid hd
  have HL := Lib.hid hl
  clear h hd hl
  go_enter Tryz.func28, Tryz.ntmps28
  go_wp2
  have S0 := (St.refl W).row_nil 29 1
  go_loopw [9, 3] (fun i v w' => ∃ (k : Nat) (qs : List (Value × Nat × EI)), k ≤ n ∧ i = .int .i64 k ∧ Hid (qs.map (·.2) = runsL (l.take k)) ∧ qs.length ≤ k ∧ St W w' (runsS v qs)) (fun i _ _ => n - (intOf i).toNat)
  case atStart => exact ⟨0, [], Nat.zero_le _, rfl, by show _ = _; rfl, Nat.le_refl _, S0⟩
  case round =>
    obtain ⟨k, qs, hk, rfl, hq, hql, S⟩ := hrel
    clear S0
    by_cases hlt : k < n
    · obtain ⟨b, o, x, rfl, hx, c0, c1⟩ := (H.out.below S.bel).elem2 (k := k) (fun s : EI => .int .i64 s.s) (fun s : EI => .string s.m) (fun _ => rfl) hlt
      obtain ⟨B, d, rfl, _, _, _⟩ := (S.row_rd (i := 0) rfl).open_
      have HX := Lib.hid hx
      have S5 := S.blk_new #[.int .i64 x.s, .string x.m] 54
      have hi5 : (runsS (.slice B qs.length d) qs ++ [blk wr.heap.size 54 #[.int .i64 x.s, .string x.m]])[qs.length + 1]? = some (blk wr.heap.size 54 #[.int .i64 x.s, .string x.m]) := by unfold runsS; simp
      have g0 := S5.blk_cell hi5 0
      have g1 := S5.blk_cell hi5 1
      clear hi5
      have HS5 := Lib.hid S5
      have hblt : b < wr.heap.size := World.block_lt_of_cell? _ _ c0
      clear hx S S5
      obtain ⟨xs, xm⟩ := x
      dsimp only at c0 c1 g0 g1 HS5
      go_wp2_with fail
      clear c0 c1
      generalize wr.alloc (.cells #[.int .i64 xs, .string xm] 54) = w5 at *
      generalize wr.heap.size = g5 at *
      by_cases h0 : k = 0
      · subst h0
        have hgt : decide ((0 : Int) < ((0 : Nat) : Int)) = false := by decide
        have HNEW := Lib.hid (runsL_new (k := 0) HX.out fun j hj => by omega)
        go_quiet (fail)
        have S6 := (HS5.out.drewN nq).row_new (e := 54) (size := 2) (n := 1) #[.int .i64 xs, .string xm] (by unfold maxLen; omega) rfl
        have HS6 := Lib.hid (S6.alloc (.cells #[.slice (some ⟨(w5.drewN nq).heap.size, 0, none⟩) 1 1] 29))
        have f0 : (w5.drewN nq).cell? ⟨g5, 0, none⟩ = some (.int .i64 xs) := g0
        have f1 : (w5.drewN nq).cell? ⟨g5, 1, none⟩ = some (.string xm) := g1
        have HI0 : Hid ((runsS (.slice B qs.length d) qs ++ [blk g5 54 #[.int .i64 xs, .string xm]] ++ [row 54 2 (.slice (some ⟨(w5.drewN nq).heap.size, 0, none⟩) 1 1) 1 [.int .i64 xs, .string xm]])[0]? = some (row 29 1 (.slice B qs.length d) qs.length (qs.map (·.1)))) := by show _ = _; rfl
        have HRD : Hid (Rd (((w5.drewN nq).alloc (.cells #[.int .i64 xs, .string xm] 54)).alloc (.cells #[.slice (some ⟨(w5.drewN nq).heap.size, 0, none⟩) 1 1] 29)) (fun _ => True) 1 (.slice (some ⟨(w5.drewN nq).heap.size + 1, 0, none⟩) 1 1) 1 [.slice (some ⟨(w5.drewN nq).heap.size, 0, none⟩) 1 1]) := rd_one (by simp)
        have HQL := Lib.hid hql
        clear g0 g1 S6 h HS5
        generalize w5.drewN nq = w6 at *
        go_wp2_with (at_builtin; refine wpList_append_st eltRun rfl _ _ rfl rfl HS6.out (k := 0) HI0.out rfl HRD.out one_sl (by omega) (by omega) ?_; intro v' w' S' _; have HS7 := Lib.hid S'; clear S' HS6 HI0 HRD)
        go_roundw
        case rel =>
          refine ⟨1, qs ++ [(.slice (some ⟨w6.heap.size, 0, none⟩) 1 1, 1, ⟨xs, xm⟩)], by omega, by go_num, ?_, by rw [List.length_append]; have := HQL.out; show qs.length + 1 ≤ _; omega, ?_⟩
          · show _ = _
            rw [HNEW.out, List.map_append, hq.out]; rfl
          · have S3 := HS7.out.sub (L' := row 29 1 v' (qs.length + 1) (qs.map (·.1) ++ [.slice (some ⟨w6.heap.size, 0, none⟩) 1 1]) :: (qs.map (runA 54) ++ [row 54 2 (.slice (some ⟨w6.heap.size, 0, none⟩) 1 1) 1 [.int .i64 xs, .string xm]])) (by
              unfold runsS
              simp only [List.cons_append, List.set_cons_zero, List.append_assoc]
              exact ((List.Sublist.refl _).append (.cons _ (List.Sublist.refl _))).cons_cons _)
            unfold runsS
            rw [List.length_append, List.map_append, List.map_append]
            exact S3
        case measure => simp [intOf]; omega
      · obtain ⟨j, rfl⟩ : ∃ j, k = j + 1 := ⟨k - 1, by omega⟩
        have hgt : decide ((0 : Int) < ((j + 1 : Nat) : Int)) = true := by simp
        obtain ⟨b', o', y, hA', hy, d0, d1⟩ := (H.out.below HS5.out.bel).elem2 (k := j) (fun s : EI => .int .i64 s.s) (fun s : EI => .string s.m) (fun _ => rfl) (by omega)
        cases hA'
        have hne := HD.out j y ⟨xs, xm⟩ hy HX.out
        have HNEW := Lib.hid (runsL_new (k := j + 1) HX.out fun i hi z hz => by
          have : i = j := by omega
          subst this
          rw [hy] at hz; cases hz; exact hne)
        obtain ⟨ys, ym⟩ := y
        have hjn : j < n := by omega
        have hwj : IntKind.i64.wrap (j : Int) = (j : Int) := IntWalk.i64_in _ (by omega)
        have heq : (ys == xs && ym.toList == xm.toList) = false := by
          rw [Bool.and_eq_false_iff]
          by_cases e : ys = xs
          · right; subst e; rw [beq_eq_false_iff_ne]; exact fun e2 => hne (by rw [toL_inj e2])
          · left; simpa using e
        have heq2 : ∀ w, (binOp .eql 54 (.agg #[.int .i64 ys, .string ym]) (.agg #[.int .i64 xs, .string xm])).run Tryz.prog w = .ok (.bool false) w := fun w => by rw [eql_entry, heq]
        have hgd := eqg_entry
        clear hy hne heq
        go_quiet (fail)
        have S6 := (HS5.out.drewN nq).row_new (e := 54) (size := 2) (n := 1) #[.int .i64 xs, .string xm] (by unfold maxLen; omega) rfl
        have HS6 := Lib.hid (S6.alloc (.cells #[.slice (some ⟨(w5.drewN nq).heap.size, 0, none⟩) 1 1] 29))
        have f0 : (w5.drewN nq).cell? ⟨g5, 0, none⟩ = some (.int .i64 xs) := g0
        have f1 : (w5.drewN nq).cell? ⟨g5, 1, none⟩ = some (.string xm) := g1
        have HI0 : Hid ((runsS (.slice B qs.length d) qs ++ [blk g5 54 #[.int .i64 xs, .string xm]] ++ [row 54 2 (.slice (some ⟨(w5.drewN nq).heap.size, 0, none⟩) 1 1) 1 [.int .i64 xs, .string xm]])[0]? = some (row 29 1 (.slice B qs.length d) qs.length (qs.map (·.1)))) := by show _ = _; rfl
        have HRD : Hid (Rd (((w5.drewN nq).alloc (.cells #[.int .i64 xs, .string xm] 54)).alloc (.cells #[.slice (some ⟨(w5.drewN nq).heap.size, 0, none⟩) 1 1] 29)) (fun _ => True) 1 (.slice (some ⟨(w5.drewN nq).heap.size + 1, 0, none⟩) 1 1) 1 [.slice (some ⟨(w5.drewN nq).heap.size, 0, none⟩) 1 1]) := rd_one (by simp)
        have HQL := Lib.hid hql
        clear g0 g1 S6 h HS5
        generalize w5.drewN nq = w6 at *
        go_wp2_with (at_builtin; refine wpList_append_st eltRun rfl _ _ rfl rfl HS6.out (k := 0) HI0.out rfl HRD.out one_sl (by omega) (by omega) ?_; intro v' w' S' _; have HS7 := Lib.hid S'; clear S' HS6 HI0 HRD)
        go_roundw
        case rel =>
          refine ⟨j + 1 + 1, qs ++ [(.slice (some ⟨w6.heap.size, 0, none⟩) 1 1, 1, ⟨xs, xm⟩)], by omega, by go_num, ?_, by rw [List.length_append]; have := HQL.out; show qs.length + 1 ≤ _; omega, ?_⟩
          · show _ = _
            rw [HNEW.out, List.map_append, hq.out]; rfl
          · have S3 := HS7.out.sub (L' := row 29 1 v' (qs.length + 1) (qs.map (·.1) ++ [.slice (some ⟨w6.heap.size, 0, none⟩) 1 1]) :: (qs.map (runA 54) ++ [row 54 2 (.slice (some ⟨w6.heap.size, 0, none⟩) 1 1) 1 [.int .i64 xs, .string xm]])) (by
              unfold runsS
              simp only [List.cons_append, List.set_cons_zero, List.append_assoc]
              exact ((List.Sublist.refl _).append (.cons _ (List.Sublist.refl _))).cons_cons _)
            unfold runsS
            rw [List.length_append, List.map_append, List.map_append]
            exact S3
        case measure => simp [intOf]; omega
    · have HS := Lib.hid S
      clear S
      obtain rfl : k = n := by omega
      go_wp2
      go_ret
      refine ⟨u3, qs, rfl, ?_, HS.out⟩
      rw [hq.out, HL.out, List.take_length]
end Go.Proofs.YtbakoldmfpbnaaaGreatDoor
