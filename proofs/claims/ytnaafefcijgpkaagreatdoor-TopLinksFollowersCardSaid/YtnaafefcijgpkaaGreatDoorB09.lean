/- Part 9 of the walks of the golf union's program: L13. -/
import Derived.Test.YtnaafefcijgpkaaGreatDoorB08
set_option linter.unusedVariables false
set_option linter.unusedSimpArgs false
set_option linter.unusedSectionVars false
set_option linter.constructorNameAsVariable false
/- Chapter 5: Gross, Score, Points. -/
namespace Go.Proofs.YtnaafefcijgpkaaGreatDoor
open Go.RowKit Go.Mem Go.Sheet Go.Adj
theorem net_x {hs : List HI} {es : List EI} {co : Int} {i : Nat} (h : (eAt es i).m ≠ bx ∧ (eAt es i).m ≠ bd) : netF hs es co i = ⟨(eAt es i).s - givF hs co i, .o⟩ := by unfold netF; rw [if_neg h.1, if_neg h.2]
set_option maxRecDepth 100000 in
set_option maxHeartbeats 4000000 in
theorem scored_ok (W : World) (v ve : Value) (n : Nat) (hs : List HI) (es : List EI) (name : ByteArray) (co : Int) (hco : -99 ≤ co ∧ co ≤ 99) (h : CEnv W v ve n hs es name) (hx : ∀ i, i < n → (eAt es i).m ≠ bx ∧ (eAt es i).m ≠ bd) :
    Calls Tryz.prog 26 #[v, .agg #[.string name, ve, .int .i64 co]] W fun e w' => ∃ v', e = .returned (.tuple #[v', .int .i64 0]) ∧ St W w' [row 99 2 v' n ((nl (netF hs es co) n).flatMap NI.cells)] := by
  have HE := Lib.hid h
  have hl := h.len
  have hn := h.gh.len
  rw [← hl] at hn
  have HX : Hid (∀ i, i < n → (netF hs es co i).x = .o) := fun i hi => by rw [net_x (hx i hi)]
  have HCP : Hid (∀ w, CEnv w v ve n hs es name → Calls Tryz.prog 61 #[v, .agg #[.string name, ve, .int .i64 co]] w fun e w' => e = .returned (.int .i64 0) ∧ Below w.heap.size w w') := fun w h => checkPlayer_ok w v ve n hs es name co hco h
  have HNT : Hid (∀ w, CEnv w v ve n hs es name → Calls Tryz.prog 62 #[.agg #[.string name, ve, .int .i64 co], v] w fun e w' => ∃ v', e = .returned v' ∧ St w w' [row 99 2 v' n ((nl (netF hs es co) n).flatMap NI.cells)]) := fun w h => nets_ok w v ve n hs es name co hco h
  generalize netF hs es co = NF at *
  obtain ⟨A, c, rfl, _, _, _⟩ := h.rh.open_
  obtain ⟨Ae, ce, rfl, _, _, _⟩ := h.re.open_
  clear h hl hx
  have hb := (Below.refl W.heap.size W).alloc (Nat.le_refl _) (.cells #[.string name, .slice Ae n ce, .int .i64 co] 54)
  have HB := Lib.hid hb
  have c0 : (W.alloc (.cells #[.string name, .slice Ae n ce, .int .i64 co] 54)).cell? ⟨W.heap.size, 0, none⟩ = some (.string name) := by simp
  have c1 : (W.alloc (.cells #[.string name, .slice Ae n ce, .int .i64 co] 54)).cell? ⟨W.heap.size, 1, none⟩ = some (.slice Ae n ce) := by simp
  have c2 : (W.alloc (.cells #[.string name, .slice Ae n ce, .int .i64 co] 54)).cell? ⟨W.heap.size, 2, none⟩ = some (.int .i64 co) := by simp
  have HE1 := Lib.hid (HE.out.later hb)
  clear hb
  go_enter Tryz.func26, Tryz.ntmps26
  go_wp2_with fail
  generalize W.alloc (.cells #[.string name, .slice Ae n ce, .int .i64 co] 54) = W1 at *
  generalize W.heap.size = gc at c0 c1 c2 ⊢
  have hlt := World.block_lt_of_cell? _ _ c1
  go_at_call 61
  refine (HCP.out _ HE1.out).mono ?_
  rintro e W2 ⟨rfl, hb1⟩
  have d0 := (hb1.cell (p := ⟨gc, 0, none⟩) hlt).trans c0
  have d1 := (hb1.cell (p := ⟨gc, 1, none⟩) hlt).trans c1
  have d2 := (hb1.cell (p := ⟨gc, 2, none⟩) hlt).trans c2
  have HE2 := Lib.hid (HE1.out.later hb1)
  have HB1 := Lib.hid (HB.out.trans (hb1.mono HB.out.size))
  clear c0 c1 c2 hb1 HE1 HB hlt
  go_wp2_with fail
  go_at_call 62
  refine (HNT.out _ HE2.out).mono ?_
  rintro e w3 ⟨vn, rfl, S⟩
  have S2 := (St.of_below HB1.out).call S
  simp only [List.nil_append] at S2
  have HA := Lib.hid (all_ok w3 vn n NF (S2.row_rd (i := 0) rfl).now HX.out)
  obtain ⟨bn, cn, rfl⟩ := row_some2 S2 (i := 0) rfl (by omega)
  have HS := Lib.hid S2
  clear S S2 d0 d1 d2 HCP HNT HE2
  go_wp2_with (first
    | (go_at_call 64; refine HA.out.mono ?_; rintro e w' ⟨rfl, hb2⟩; have HB2 := Lib.hid hb2; clear hb2)
    | (go_at_call 63; refine (formatNo _ _).mono ?_; rintro e w' ⟨rfl, rfl⟩))
  go_ret2
  exact ⟨_, rfl, HS.out.ext HB2.out⟩
set_option maxRecDepth 100000 in
set_option maxHeartbeats 4000000 in
theorem score_ok (W : World) (v ve : Value) (n : Nat) (hs : List HI) (es : List EI) (name : ByteArray) (co : Int) (hco : -99 ≤ co ∧ co ≤ 99) (h : CEnv W v ve n hs es name) (hx : ∀ i, i < n → (eAt es i).m ≠ bx ∧ (eAt es i).m ≠ bd) :
    Calls Tryz.prog 11 #[v, .agg #[.string name, ve, .int .i64 co]] W fun e w' => e = .returned (.tuple #[.int .i64 (sumTo (fun i => (eAt es i).s - givF hs co i) n), .int .i64 0]) ∧ Below W.heap.size W w' := by
  have HE := Lib.hid h
  have hl := h.len
  have hn := h.gh.len
  rw [← hl] at hn
  have HEQ : sumTo (fun i => (eAt es i).s - givF hs co i) n = sumTo (fun i => (netF hs es co i).s) n := sumTo_congr fun i hi => by rw [net_x (hx i hi)]
  rw [HEQ]
  have HSC : Hid (∀ w, CEnv w v ve n hs es name → Calls Tryz.prog 26 #[v, .agg #[.string name, ve, .int .i64 co]] w fun e w' => ∃ v', e = .returned (.tuple #[v', .int .i64 0]) ∧ St w w' [row 99 2 v' n ((nl (netF hs es co) n).flatMap NI.cells)]) := fun w h => scored_ok w v ve n hs es name co hco h hx
  have HBD : Hid (∀ i, i < n → -200 ≤ (netF hs es co i).s ∧ (netF hs es co i).s ≤ 200) := fun i hi => by
    rw [net_x (hx i hi)]
    have h1 := good_bd (h.ge i hi)
    have h2 := giv_bd h.gh.len hco i
    show -200 ≤ _ - _ ∧ _ - _ ≤ 200
    omega
  generalize netF hs es co = NF at *
  clear HEQ
  generalize hSM : sumTo (fun i => (NF i).s) n = SM
  have HQ := Lib.hid hSM
  clear hSM
  obtain ⟨A, c, rfl, _, _, _⟩ := h.rh.open_
  obtain ⟨Ae, ce, rfl, _, _, _⟩ := h.re.open_
  clear h hl hx
  have hb := (Below.refl W.heap.size W).alloc (Nat.le_refl _) (.cells #[.string name, .slice Ae n ce, .int .i64 co] 54)
  have HB := Lib.hid hb
  have HE1 := Lib.hid (HE.out.later hb)
  clear hb
  go_enter Tryz.func11, Tryz.ntmps11
  go_wp2_with fail
  generalize W.alloc (.cells #[.string name, .slice Ae n ce, .int .i64 co] 54) = W1 at *
  generalize W.heap.size = gc
  go_at_call 26
  refine (HSC.out _ HE1.out).mono ?_
  rintro e W2 ⟨vn, rfl, S⟩
  have S2 := (St.of_below HB.out).call S
  simp only [List.nil_append] at S2
  have HSM := sumN_ok W2 vn n NF (S2.row_rd (i := 0) rfl).now hn.2 HBD.out
  rw [HQ.out] at HSM
  have HSM := Lib.hid HSM
  obtain ⟨bn, cn, rfl⟩ := row_some2 S2 (i := 0) rfl (by omega)
  have HS := Lib.hid S2
  clear S S2 HE1 HB
  go_wp2_with (go_at_call 27; refine HSM.out.mono ?_; rintro e w' ⟨rfl, hb2⟩; have HB2 := Lib.hid hb2; clear hb2)
  go_ret2
  exact ⟨rfl, (HS.out.ext HB2.out).bel⟩
end Go.Proofs.YtnaafefcijgpkaaGreatDoor
