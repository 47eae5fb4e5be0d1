/- The law SheetRequests, walked. -/
import Derived.Test.YtbjjojoggpepjaaGreatDoorB11
import Derived.Test.YtbjjojoggpepjaaGreatDoorB23
set_option linter.unusedVariables false
set_option linter.unusedSimpArgs false
set_option linter.unusedSectionVars false
set_option linter.constructorNameAsVariable false
namespace Go.Proofs.YtbjjojoggpepjaaGreatDoor
open Go.RowKit Go.Mem Go.Sheet
set_option maxRecDepth 100000 in
set_option maxHeartbeats 4000000 in
theorem sheetRequests_any (W : World) (vl vr va : Value) (nl n na : Nat) (l : List Slot) (rs : List Req) (a : List Int) (hl : Rd W (· < W.heap.size) 3 vl nl (l.flatMap Slot.cells)) (h : RdReqs W (· < W.heap.size) vr n rs) (ha : Rd W (· < W.heap.size) 1 va na (a.map (Value.int .i64)))
    (hrl : nl * 24 ≤ 140737488351232) (hrr : n * 48 ≤ 140737488351232) (hrw : ∀ r ∈ rs, r.wn * 16 ≤ 140737488351232) :
    Calls Tryz.prog 3 #[vl, vr, va] W fun e w' => e = .returned (.bool true) ∧ Below W.heap.size W w' := by
  have hna := ha.le
  obtain ⟨A, c, rfl, _, _, _⟩ := ha.open_
  have HL := Lib.hid hl
  have HR := Lib.hid h
  have HA := Lib.hid ha
  have HRW := Lib.hid hrw
  generalize HRS : rs.map Req.rq = RS
  have HRS := Lib.hid HRS
  have HERR : Hid ((checkRequests l RS ≠ 0 → checkAssignment l RS a = (0, checkRequests l RS)) ∧ ((checkAssignment l RS a).2 ≠ 0 → (checkAssignment l RS a).1 = 0)) := ⟨fun h => checkAssignment_first h, fun h => checkAssignment_err h⟩
  clear hl h ha hrw
  go_enter Tryz.func3, Tryz.ntmps3
  go_wp2_with fail
  refine (ownSlots_any _ _ nl l HL.out hrl).mono ?_
  rintro e w1 ⟨v1, rfl, S1⟩
  have HS1 := Lib.hid S1
  clear S1
  go_wp2_with fail
  refine (ownRequests_any w1 _ n rs (reqs_later HR.out HS1.out.bel) hrr HRW.out).mono ?_
  rintro e w2 ⟨v2, rs', rfl, he, hnm, S2⟩
  have HO : Hid (Own W w2 v1 v2 nl n l RS) := ⟨HS1.out.bel.trans (S2.bel.mono HS1.out.bel.size), (HS1.out.row_rd (i := 0) rfl).now.later S2.bel, rs', he.trans HRS.out, own_reqs S2 hnm⟩
  clear HS1 he hnm S2
  go_wp2_with fail
  refine (awake_any w2).mono ?_
  rintro e w3 ⟨rfl, hb3⟩
  have HO3 := Lib.hid (HO.out.later hb3)
  clear HO hb3
  go_wp2_with fail
  refine HO3.out.short.mono ?_
  rintro e w' ⟨⟨b, rfl⟩, rfl⟩
  cases b with
  | false =>
    go_wp2_with fail
    refine (awake_any w3).mono ?_
    rintro e w4 ⟨rfl, hb4⟩
    have hbW := HO3.out.bel.trans (hb4.mono HO3.out.bel.size)
    go_wp2
    go_ret
    exact ⟨rfl, hbW⟩
  | true =>
    by_cases h40 : 40 < na
    · have h40' : decide (40 < (na : Int)) = true := by simp; omega
      go_wp2_with fail
      refine (awake_any w3).mono ?_
      rintro e w4 ⟨rfl, hb4⟩
      have hbW := HO3.out.bel.trans (hb4.mono HO3.out.bel.size)
      go_wp2
      go_ret
      exact ⟨rfl, hbW⟩
    · have h40' : decide (40 < (na : Int)) = false := by simp; omega
      clear h40
      go_wp2_with fail
      refine HO3.out.check.mono ?_
      rintro e w4 ⟨rfl, hb4⟩
      have HO4 := Lib.hid (HO3.out.later hb4)
      clear HO3 hb4
      have HC5 := checkAssignment_any w4 vl vr (.slice A na c) nl n na l rs a (HL.out.later HO4.out.bel) (reqs_later HR.out HO4.out.bel) (HA.out.later HO4.out.bel)
      rw [HRS.out] at HC5
      have HC5 := Lib.hid HC5
      go_wp2_with fail
      refine HC5.out.mono ?_
      rintro e w5 ⟨rfl, hb5⟩
      have HO5 := Lib.hid (HO4.out.later hb5)
      clear HO4 hb5 HC5
      have HC6 := checkRequests_any w5 vl vr nl n l rs (HL.out.later HO5.out.bel) (reqs_later HR.out HO5.out.bel)
      rw [HRS.out] at HC6
      have HC6 := Lib.hid HC6
      go_wp2_with fail
      refine HC6.out.mono ?_
      rintro e w6 ⟨rfl, hb6⟩
      have HO6 := Lib.hid (HO5.out.later hb6)
      clear HO5 hb6 HC6
      have HAS := Lib.hid (fun h0 => HO6.out.assignment (HA.out.later HO6.out.bel) h0)
      generalize checkRequests l RS = E at *
      generalize checkAssignment l RS a = R at *
      obtain ⟨x, y⟩ := R
      dsimp only at *
      by_cases hE : E = 0
      · subst hE
        go_wp2_with fail
        refine (HAS.out (by trivial)).mono ?_
        rintro e w7 ⟨rfl, hb7⟩
        have hbW := HO6.out.bel.trans (hb7.mono HO6.out.bel.size)
        have HI := Lib.hid (integer_yes (n := x) (e := y) (bad := y) (want := x) (fun h => ⟨HERR.out.2 h, rfl⟩) (fun h => ⟨h, rfl⟩))
        clear HAS HO6
        go_wp2_with fail
        refine (integer_any _ _ _ _ _).mono ?_
        rw [HI.out]
        rintro e w' ⟨rfl, rfl⟩
        go_wp2
        go_ret
        exact ⟨rfl, hbW⟩
      · have hE' : (E == 0) = false := by simpa using hE
        have hxy := HERR.out.1 hE
        injection hxy with hx hy
        subst hx hy
        have hbW := HO6.out.bel
        have HI := Lib.hid (integer_yes (n := 0) (e := y) (bad := y) (want := 0) (fun h => ⟨rfl, rfl⟩) (fun h => ⟨h, rfl⟩))
        clear HAS HO6
        go_wp2_with fail
        refine (integer_any _ _ _ _ _).mono ?_
        rw [HI.out]
        rintro e w' ⟨rfl, rfl⟩
        go_wp2
        go_ret
        exact ⟨rfl, hbW⟩
end Go.Proofs.YtbjjojoggpepjaaGreatDoor
