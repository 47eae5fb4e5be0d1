/- Chapter 5: Nets, where the player is without an error. -/
import Derived.Test.YtbakoldmfpbnaaaGreatDoorB29
import Derived.Test.YtbakoldmfpbnaaaGreatDoorP1
set_option linter.unusedVariables false
set_option linter.unusedSimpArgs false
set_option linter.unusedSectionVars false
set_option linter.constructorNameAsVariable false
namespace Go.Proofs.YtbakoldmfpbnaaaGreatDoor
open Go.RowKit Go.Mem Go.Sheet Go.Adj
set_option maxRecDepth 100000 in
set_option maxHeartbeats 4000000 in
theorem formatNets_ok (W : World) (v ve : Value) (n : Nat) (hs : List HI) (es : List EI) (name : ByteArray) (co : Int) (hco : -99 ≤ co ∧ co ≤ 99) (h : CEnv W v ve n hs es name) :
    Calls Tryz.prog 19 #[v, .agg #[.string name, ve, .int .i64 co]] W fun e w' => ∃ v', e = .returned (.tuple #[v', .int .i64 0]) ∧ St W w' [row 64 2 v' n ((nl (netF hs es co) n).flatMap NI.cells)] := by
  have HE := Lib.hid h
  obtain ⟨A, c, rfl, _, _, _⟩ := h.rh.open_
  obtain ⟨Ae, ce, rfl, _, _, _⟩ := h.re.open_
  clear h
  have S0 := (St.refl W).blk_new #[.string name, .slice Ae n ce, .int .i64 co] 33
  simp only [List.nil_append] at S0
  have HCP : Hid (∀ w, Below W.heap.size W w → Calls Tryz.prog 49 #[.slice A n c, .agg #[.string name, .slice Ae n ce, .int .i64 co]] w fun e w' => e = .returned (.int .i64 0) ∧ Below w.heap.size w w') := fun w hb => checkPlayer_ok w _ _ n hs es name co hco (HE.out.later hb)
  have HNT : Hid (∀ w, Below W.heap.size W w → Calls Tryz.prog 47 #[.agg #[.string name, .slice Ae n ce, .int .i64 co], .slice A n c] w fun e w' => ∃ v', e = .returned v' ∧ St w w' [row 64 2 v' n ((nl (netF hs es co) n).flatMap NI.cells)]) := fun w hb => nets_ok w _ _ n hs es name co hco (HE.out.later hb)
  have HS0 := Lib.hid S0
  clear S0
  go_enter Tryz.func19, Tryz.ntmps19
  go_wp2_with fail
  go_at_call 49
  refine (HCP.out _ HS0.out.bel).mono ?_
  rintro e w1 ⟨rfl, hb1⟩
  have S1 := HS0.out.ext hb1
  have c0 := S1.blk_cell (i := 0) rfl 0
  have c1 := S1.blk_cell (i := 0) rfl 1
  have c2 := S1.blk_cell (i := 0) rfl 2
  have HS1 := Lib.hid S1
  clear S1 hb1 HS0
  go_wp2_with (go_at_call 47; refine (HNT.out _ HS1.out.bel).mono ?_; rintro e w2 ⟨v', rfl, S2⟩; have HS2 := Lib.hid S2; clear S2)
  go_ret2
  exact ⟨_, rfl, (HS1.out.call HS2.out).sub (.cons _ (List.Sublist.refl _))⟩
end Go.Proofs.YtbakoldmfpbnaaaGreatDoor
