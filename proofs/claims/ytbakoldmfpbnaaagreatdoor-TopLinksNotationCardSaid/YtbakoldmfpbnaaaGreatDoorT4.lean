/- Chapter 5: Score, with ErrNone; the reference's SameEntries. -/
import Derived.Test.YtbakoldmfpbnaaaGreatDoorB28
import Derived.Test.YtbakoldmfpbnaaaGreatDoorP6
import Derived.Test.YtbakoldmfpbnaaaGreatDoorP10
import Derived.Test.YtbakoldmfpbnaaaGreatDoorB10
set_option linter.unusedVariables false
set_option linter.unusedSimpArgs false
set_option linter.unusedSectionVars false
set_option linter.constructorNameAsVariable false
namespace Go.Proofs.YtbakoldmfpbnaaaGreatDoor
open Go.RowKit Go.Mem Go.Sheet Go.Adj
set_option maxRecDepth 100000 in
set_option maxHeartbeats 4000000 in
theorem scored_any (W : World) (v ve : Value) (n : Nat) (hs : List HI) (es : List EI) (name : ByteArray) (co : Int) (hco : -99 ≤ co ∧ co ≤ 99) (h : CEnv W v ve n hs es name) :
    Calls Tryz.prog 34 #[v, .agg #[.string name, ve, .int .i64 co]] W fun e w' => ∃ v', e = .returned (.tuple #[v', .int .i64 (whenE (!allO (netF hs es co) n) 7)]) ∧ St W w' [row 64 2 v' n ((nl (netF hs es co) n).flatMap NI.cells)] := by
  have HE := Lib.hid h
  have hl := h.len
  have hn := h.gh.len
  rw [← hl] at hn
  have HCP : Hid (∀ w, CEnv w v ve n hs es name → Calls Tryz.prog 49 #[v, .agg #[.string name, ve, .int .i64 co]] w fun e w' => e = .returned (.int .i64 0) ∧ Below w.heap.size w w') := fun w h => checkPlayer_ok w v ve n hs es name co hco h
  have HNT : Hid (∀ w, CEnv w v ve n hs es name → Calls Tryz.prog 47 #[.agg #[.string name, ve, .int .i64 co], v] w fun e w' => ∃ v', e = .returned v' ∧ St w w' [row 64 2 v' n ((nl (netF hs es co) n).flatMap NI.cells)]) := fun w h => nets_ok w v ve n hs es name co hco h
  generalize netF hs es co = NF at *
  obtain ⟨A, c, rfl, _, _, _⟩ := h.rh.open_
  obtain ⟨Ae, ce, rfl, _, _, _⟩ := h.re.open_
  clear h hl
  have hb := (Below.refl W.heap.size W).alloc (Nat.le_refl _) (.cells #[.string name, .slice Ae n ce, .int .i64 co] 33)
  have HB := Lib.hid hb
  have c0 : (W.alloc (.cells #[.string name, .slice Ae n ce, .int .i64 co] 33)).cell? ⟨W.heap.size, 0, none⟩ = some (.string name) := by simp
  have c1 : (W.alloc (.cells #[.string name, .slice Ae n ce, .int .i64 co] 33)).cell? ⟨W.heap.size, 1, none⟩ = some (.slice Ae n ce) := by simp
  have c2 : (W.alloc (.cells #[.string name, .slice Ae n ce, .int .i64 co] 33)).cell? ⟨W.heap.size, 2, none⟩ = some (.int .i64 co) := by simp
  have HE1 := Lib.hid (HE.out.later hb)
  clear hb
  go_enter Tryz.func34, Tryz.ntmps34
  go_wp2_with fail
  generalize W.alloc (.cells #[.string name, .slice Ae n ce, .int .i64 co] 33) = W1 at *
  generalize W.heap.size = gc at c0 c1 c2 ⊢
  have hlt := World.block_lt_of_cell? _ _ c1
  go_at_call 49
  refine (HCP.out _ HE1.out).mono ?_
  rintro e W2 ⟨rfl, hb1⟩
  have d0 := (hb1.cell (p := ⟨gc, 0, none⟩) hlt).trans c0
  have d1 := (hb1.cell (p := ⟨gc, 1, none⟩) hlt).trans c1
  have d2 := (hb1.cell (p := ⟨gc, 2, none⟩) hlt).trans c2
  have HE2 := Lib.hid (HE1.out.later hb1)
  have HB1 := Lib.hid (HB.out.trans (hb1.mono HB.out.size))
  clear c0 c1 c2 hb1 HE1 HB hlt
  go_wp2_with fail
  go_at_call 47
  refine (HNT.out _ HE2.out).mono ?_
  rintro e w3 ⟨vn, rfl, S⟩
  have S2 := (St.of_below HB1.out).call S
  simp only [List.nil_append] at S2
  have HA := Lib.hid (all_any w3 vn n NF (S2.row_rd (i := 0) rfl).now)
  obtain ⟨bn, cn, rfl⟩ := row_some2 S2 (i := 0) rfl (by omega)
  have HS := Lib.hid S2
  clear S S2 d0 d1 d2 HCP HNT HE2
  go_wp2_with (first
    | (go_at_call 52; refine HA.out.mono ?_; rintro e w' ⟨rfl, hb2⟩; have HB2 := Lib.hid hb2; clear hb2)
    | (go_at_call 42; refine (formatWhen_any _ _ _).mono ?_; rintro e w' ⟨rfl, rfl⟩))
  go_ret2
  exact ⟨_, rfl, HS.out.ext HB2.out⟩
set_option maxRecDepth 100000 in
set_option maxHeartbeats 4000000 in
theorem score_any (W : World) (v ve : Value) (n : Nat) (hs : List HI) (es : List EI) (name : ByteArray) (co : Int) (hco : -99 ≤ co ∧ co ≤ 99) (h : CEnv W v ve n hs es name) :
    Calls Tryz.prog 11 #[v, .agg #[.string name, ve, .int .i64 co]] W fun e w' => e = .returned (.tuple #[.int .i64 (if allO (netF hs es co) n then sumTo (fun i => (netF hs es co i).s) n else 0), .int .i64 (whenE (!allO (netF hs es co) n) 7)]) ∧ Below W.heap.size W w' := by
  have HE := Lib.hid h
  have hl := h.len
  have hn := h.gh.len
  rw [← hl] at hn
  have HSC : Hid (∀ w, CEnv w v ve n hs es name → Calls Tryz.prog 34 #[v, .agg #[.string name, ve, .int .i64 co]] w fun e w' => ∃ v', e = .returned (.tuple #[v', .int .i64 (whenE (!allO (netF hs es co) n) 7)]) ∧ St w w' [row 64 2 v' n ((nl (netF hs es co) n).flatMap NI.cells)]) := fun w h => scored_any w v ve n hs es name co hco h
  have HBD : Hid (∀ i, i < n → -200 ≤ (netF hs es co i).s ∧ (netF hs es co i).s ≤ 200) := net_bd h hco
  generalize netF hs es co = NF at *
  generalize hSM : sumTo (fun i => (NF i).s) n = SM
  have HQ := Lib.hid hSM
  clear hSM
  obtain ⟨A, c, rfl, _, _, _⟩ := h.rh.open_
  obtain ⟨Ae, ce, rfl, _, _, _⟩ := h.re.open_
  clear h hl
  have hb := (Below.refl W.heap.size W).alloc (Nat.le_refl _) (.cells #[.string name, .slice Ae n ce, .int .i64 co] 33)
  have HB := Lib.hid hb
  have HE1 := Lib.hid (HE.out.later hb)
  clear hb
  generalize hbo : allO NF n = bo at *
  clear hbo
  cases bo
  · have HSC2 : Hid (∀ w, CEnv w (.slice A n c) (.slice Ae n ce) n hs es name → Calls Tryz.prog 34 #[.slice A n c, .agg #[.string name, .slice Ae n ce, .int .i64 co]] w fun e w' => ∃ v', e = .returned (.tuple #[v', .int .i64 7]) ∧ St w w' [row 64 2 v' n ((nl NF n).flatMap NI.cells)]) := HSC.out
    clear HSC
    go_enter Tryz.func11, Tryz.ntmps11
    go_wp2_with fail
    generalize W.alloc (.cells #[.string name, .slice Ae n ce, .int .i64 co] 33) = W1 at *
    generalize W.heap.size = gc
    go_at_call 34
    refine (HSC2.out _ HE1.out).mono ?_
    rintro e W2 ⟨vn, rfl, S⟩
    have S2 := (St.of_below HB.out).call S
    simp only [List.nil_append] at S2
    obtain ⟨bn, cn, rfl⟩ := row_some2 S2 (i := 0) rfl (by omega)
    have HS := Lib.hid S2
    clear S S2 HE1 HB
    go_wp2_with fail
    go_ret2
    exact ⟨rfl, HS.out.bel⟩
  · have HSC2 : Hid (∀ w, CEnv w (.slice A n c) (.slice Ae n ce) n hs es name → Calls Tryz.prog 34 #[.slice A n c, .agg #[.string name, .slice Ae n ce, .int .i64 co]] w fun e w' => ∃ v', e = .returned (.tuple #[v', .int .i64 0]) ∧ St w w' [row 64 2 v' n ((nl NF n).flatMap NI.cells)]) := HSC.out
    clear HSC
    go_enter Tryz.func11, Tryz.ntmps11
    go_wp2_with fail
    generalize W.alloc (.cells #[.string name, .slice Ae n ce, .int .i64 co] 33) = W1 at *
    generalize W.heap.size = gc
    go_at_call 34
    refine (HSC2.out _ HE1.out).mono ?_
    rintro e W2 ⟨vn, rfl, S⟩
    have S2 := (St.of_below HB.out).call S
    simp only [List.nil_append] at S2
    have HSM := sumN_ok W2 vn n NF (S2.row_rd (i := 0) rfl).now hn.2 HBD.out
    rw [HQ.out] at HSM
    have HSM := Lib.hid HSM
    obtain ⟨bn, cn, rfl⟩ := row_some2 S2 (i := 0) rfl (by omega)
    have HS := Lib.hid S2
    clear S S2 HE1 HB
    go_wp2_with (go_at_call 35; refine HSM.out.mono ?_; rintro e w' ⟨rfl, hb2⟩; have HB2 := Lib.hid hb2; clear hb2)
    go_ret2
    exact ⟨rfl, (HS.out.ext HB2.out).bel⟩
theorem neq_entry_same (w : World) (a : Int) (s : ByteArray) : (binOp .neq 54 (.agg #[.int .i64 a, .string s]) (.agg #[.int .i64 a, .string s])).run Tryz.prog w = .ok (.bool false) w := by
  rw [run_neq_struct, run_equalIn_agg w 9999 _ _ _ (by kernel_rfl) (by kernel_rfl)]
  have hf : (Tryz.prog.fieldsOf 54).toList.map (fun f => (f.name, f.type, f.offset)) = [("Strokes", 3, 0), ("Mark", 9, 1)] := by kernel_rfl
  generalize (Tryz.prog.fieldsOf 54).toList = L at *
  have hL : ∃ f1 f2, L = [f1, f2] := by
    match L, congrArg List.length hf with
    | [f1, f2], _ => exact ⟨f1, f2, rfl⟩
  obtain ⟨f1, f2, rfl⟩ := hL
  obtain ⟨⟨h1, h2, h3⟩, h4, h5, h6⟩ : (f1.name = "Strokes" ∧ f1.type = 3 ∧ f1.offset = 0) ∧ (f2.name = "Mark" ∧ f2.type = 9 ∧ f2.offset = 1) := by simpa using hf
  simp only [Op.eqFields, h1, h2, h3, h4, h5, h6]
  simp [go_sem, Tryz.underlying3, Tryz.underlying9]
set_option maxHeartbeats 400000 in
theorem sameEntries_yes (w : World) (F F' : Nat → Prop) (va vb : Value) (n : Nat) (l : List EI) (ha : Rd w F 2 va n (l.flatMap EI.cells)) (hb : Rd w F' 2 vb n (l.flatMap EI.cells)) :
    Calls Tryz.prog 10 #[va, vb] w fun r w' => r = .returned (.bool true) ∧ ∃ n, w' = w.drewN n := by
  have hn := ha.le
  obtain ⟨A, c, rfl, _, _, ha⟩ := ha.open_
  obtain ⟨A', c', rfl, _, _, hb⟩ := hb.open_
  have HA := Lib.hid ha
  have HB := Lib.hid hb
  clear ha hb
  have t1 : ((n : Int) != (n : Int)) = false := by simp
  go_enter Tryz.func10, Tryz.ntmps10
  go_wp2_with fail
  go_loopw [5] (fun i w' => ∃ (k q : Nat), k ≤ n ∧ i = .int .i64 k ∧ w' = w.drewN q) (fun i _ => n - (intOf i).toNat)
  case atStart => exact ⟨0, 0, Nat.zero_le _, rfl, rfl⟩
  case round =>
    obtain ⟨k, q, hk, rfl, rfl⟩ := hrel
    by_cases hlt : k < n
    · obtain ⟨b1, o1, x, rfl, hx, c0, c1⟩ := HA.out.elem2 (k := k) (fun s : EI => .int .i64 s.s) (fun s : EI => .string s.m) (fun _ => rfl) hlt
      obtain ⟨b2, o2, y, rfl, hy, d0, d1⟩ := HB.out.elem2 (k := k) (fun s : EI => .int .i64 s.s) (fun s : EI => .string s.m) (fun _ => rfl) hlt
      rw [hx] at hy
      cases hy
      obtain ⟨xs, xm⟩ := x
      dsimp only at c0 c1 d0 d1
      have hq : ∀ w, (binOp .neq 54 (.agg #[.int .i64 xs, .string xm]) (.agg #[.int .i64 xs, .string xm])).run Tryz.prog w = .ok (.bool false) w := fun w => neq_entry_same w xs xm
      have hgd := eqg_entry
      clear hx
      go_wp2_with fail
      go_quiet (fail)
      go_wp2
      go_roundw
      case rel => exact ⟨k + 1, _, by omega, by go_num, rfl⟩
      case measure => simp [intOf]; omega
    · go_wp2
      go_ret
      exact ⟨rfl, _, rfl⟩
end Go.Proofs.YtbakoldmfpbnaaaGreatDoor
