/- Part 41 of the walks of the golf union's program: DP9. -/
import Derived.Test.YtkkkfjinflepmaaGreatDoorB40
set_option linter.unusedVariables false
set_option linter.unusedSimpArgs false
set_option linter.unusedSectionVars false
set_option linter.constructorNameAsVariable false
/- Chapter 7: Prizes of a field of lines with one score. -/
namespace Go.Proofs.YtkkkfjinflepmaaGreatDoor
open Go.RowKit Go.Mem Go.Sheet Go.Adj
set_option maxRecDepth 100000 in
set_option maxHeartbeats 4000000 in
theorem eventPrizes_ok (W : World) (v vg : Value) (m n : Nat) (ls : List LnI) (g : Nat → Int) (hm : m ≤ 100) (hn : n ≤ 200) (h : RdLn W (· < W.heap.size) v m ls) (hg : GoodL ls) (hnm : GoodNs (lnNames ls) m) (hp : Rd W (· < W.heap.size) 1 vg n (intsI (gl g n))) (hgp : GoodPu g n) :
    Calls Tryz.prog 14 #[v, vg] W fun e w' => ∃ v', e = .returned (.tuple #[v', .int .i64 0]) ∧ St W w' [row 3 1 v' m (intsI (gl (prizeF (rkN ls) m g n) m))] := by
  obtain ⟨A, c, rfl, _, _, _⟩ := h.1.open_
  obtain ⟨Ag, cg, rfl, _, _, _⟩ := hp.open_
  have HC := Lib.hid (eventField_ok W _ m ls (by omega) h hg hnm)
  have HK : Hid (∀ w, Below W.heap.size W w → Calls Tryz.prog 39 #[.slice Ag n cg] w fun e w' => e = .returned (.int .i64 0) ∧ Below w.heap.size w w') := fun w hw => checkPurse_ok w _ n g hn hgp (hp.later hw)
  have HPZ : Hid (∀ w, Below W.heap.size W w → Calls Tryz.prog 40 #[.slice A m c, .slice Ag n cg] w fun e w' => ∃ v', e = .returned v' ∧ St w w' [row 3 1 v' m (intsI (gl (prizeF (rkN ls) m g n) m))]) := fun w hw => prizes_ok w _ _ m n ls g hm hn (h.later hw) hg (hp.later hw) hgp
  clear h hg hnm hp hgp
  generalize gl (prizeF (rkN ls) m g n) m = PZ at *
  go_enter Tryz.func14, Tryz.ntmps14
  go_wp2_with fail
  go_at_call 38
  refine HC.out.mono ?_
  rintro e w1 ⟨rfl, hb1⟩
  have HB1 := Lib.hid hb1
  clear hb1 HC
  go_wp2_with fail
  go_at_call 39
  refine (HK.out _ HB1.out).mono ?_
  rintro e w2 ⟨rfl, hb2⟩
  have hb3 := HB1.out.trans (hb2.mono HB1.out.size)
  have HB3 := Lib.hid (hb3.alloc hb3.size (.cells #[.int .i64 0, .int .i64 0] 48))
  clear hb2 hb3 HB1 HK
  go_wp2_with (first
    | (go_at_call 37; refine (eventOk2 _ _ (by simp) (by simp) (by simp)).mono ?_; rintro e w' ⟨rfl, rfl⟩)
    | (go_at_call 40; refine (HPZ.out _ HB3.out).mono ?_; rintro e w5 ⟨v', rfl, S5⟩; have HS5 := Lib.hid ((St.of_below HB3.out).call S5); clear S5))
  go_ret2
  exact ⟨_, rfl, HS5.out⟩
end Go.Proofs.YtkkkfjinflepmaaGreatDoor
