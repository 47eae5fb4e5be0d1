/- Chapter 5: Sides. -/
import Derived.Test.YtbakoldmfpbnaaaGreatDoorP3
import Derived.Test.YtbakoldmfpbnaaaGreatDoorB24
set_option linter.unusedVariables false
set_option linter.unusedSimpArgs false
set_option linter.unusedSectionVars false
set_option linter.constructorNameAsVariable false
namespace Go.Proofs.YtbakoldmfpbnaaaGreatDoor
open Go.RowKit Go.Mem Go.Sheet Go.Adj
theorem formatOk3 (w : World) (g : Nat) (hg : g < w.heap.size) (h0 : w.cell? ⟨g, 0, none⟩ = some (.int .i64 0)) (h1 : w.cell? ⟨g, 1, none⟩ = some (.int .i64 0)) (h2 : w.cell? ⟨g, 2, none⟩ = some (.int .i64 0)) :
    Calls Tryz.prog 40 #[.slice (some ⟨g, 0, none⟩) 3 3] w fun r w' => r = .returned (.int .i64 0) ∧ w = w' :=
  formatFirst_any w (fun _ => True) _ 3 [0, 0, 0] (rd_cells hg (by simp) fun j u hu => by
    match j, hu with
    | 0, hu => cases hu; exact h0
    | 1, hu => cases hu; exact h1
    | 2, hu => cases hu; exact h2)
set_option maxRecDepth 100000 in
set_option maxHeartbeats 4000000 in
theorem sides_ok (W : World) (va vb : Value) (n : Nat) (A B : Nat → NI) (hn : 1 ≤ n ∧ n ≤ 36) (ha : Rd W (· < W.heap.size) 2 va n ((nl A n).flatMap NI.cells)) (hb : Rd W (· < W.heap.size) 2 vb n ((nl B n).flatMap NI.cells)) (hA : ∀ i, i < n → NetOk (A i)) (hB : ∀ i, i < n → NetOk (B i)) :
    Calls Tryz.prog 20 #[va, vb] W fun e w' => ∃ v', e = .returned (.tuple #[v', .int .i64 0]) ∧ St W w' [row 52 3 v' (matF A B n).length ((matF A B n).flatMap StI.cells)] := by
  obtain ⟨P, c, rfl, _, _, ha⟩ := ha.open_
  obtain ⟨Q, d, rfl, _, _, hb⟩ := hb.open_
  have HA := Lib.hid ha
  have HB := Lib.hid hb
  have HCA := Lib.hid (checkNets_ok W _ n A hn ha hA)
  have HCB : Hid (∀ w, Below W.heap.size W w → Calls Tryz.prog 50 #[.slice Q n d] w fun e w' => e = .returned (.int .i64 0) ∧ Below w.heap.size w w') := fun w h => checkNets_ok w _ n B hn (hb.later h) hB
  have HM : Hid (∀ w, Below W.heap.size W w → Calls Tryz.prog 46 #[.slice P n c, .slice Q n d] w fun e w' => ∃ v', e = .returned v' ∧ St w w' [row 52 3 v' (matF A B n).length ((matF A B n).flatMap StI.cells)]) := fun w h => match_any w P Q n c d A B hn.2 (ha.later h) (hb.later h)
  generalize matF A B n = MS at *
  clear ha hb hA hB
  go_enter Tryz.func20, Tryz.ntmps20
  go_wp2_with fail
  go_at_call 50
  refine HCA.out.mono ?_
  rintro e w1 ⟨rfl, hb1⟩
  have HB1 := Lib.hid hb1
  clear hb1
  go_wp2_with fail
  go_at_call 50
  refine (HCB.out _ HB1.out).mono ?_
  rintro e w2 ⟨rfl, hb2⟩
  have HB2 := Lib.hid (HB1.out.trans (hb2.mono HB1.out.size))
  have HB3 : Hid (Below W.heap.size W (w2.alloc (.cells #[.int .i64 0, .int .i64 0, .int .i64 0] 34))) := HB2.out.alloc HB2.out.size _
  clear hb2 HB1 HCA HCB
  go_wp2_with (first
    | (go_at_call 42; refine (formatNo _ _).mono ?_; rintro e w' ⟨rfl, rfl⟩)
    | (go_at_call 40; refine (formatOk3 _ _ (by simp) (by simp) (by simp) (by simp)).mono ?_; rintro e w' ⟨rfl, rfl⟩)
    | (go_at_call 46; refine (HM.out _ HB3.out).mono ?_; rintro e w5 ⟨v', rfl, S⟩; have HS := Lib.hid S; clear S))
  go_ret2
  exact ⟨_, rfl, (St.of_below HB3.out).call HS.out⟩
end Go.Proofs.YtbakoldmfpbnaaaGreatDoor
