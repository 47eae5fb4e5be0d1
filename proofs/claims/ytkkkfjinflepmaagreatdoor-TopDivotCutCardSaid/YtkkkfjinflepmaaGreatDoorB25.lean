/- Part 25 of the walks of the golf union's program: LM1. -/
import Derived.Test.YtkkkfjinflepmaaGreatDoorB14
set_option linter.unusedVariables false
set_option linter.unusedSimpArgs false
set_option linter.unusedSectionVars false
set_option linter.constructorNameAsVariable false
/- Chapter 5: who wins a hole, whether a match is over. -/
namespace Go.Proofs.YtkkkfjinflepmaaGreatDoor
open Go.RowKit Go.Mem Go.Sheet Go.Adj
theorem cmpInt_any (a b : Int) (w : World) : Calls Tryz.prog 70 #[.int .i64 a, .int .i64 b] w fun e w' => e = .returned (.int .i64 (cmpI a b)) ∧ w = w' := by
  by_cases h1 : a < b
  · have e : cmpI a b = -1 := by unfold cmpI; rw [if_pos h1]
    rw [e]
    go_enter Tryz.func70, Tryz.ntmps70
    go_wp2
    go_ret
    exact ⟨rfl, rfl⟩
  by_cases h2 : b < a
  · have e : cmpI a b = 1 := by unfold cmpI; rw [if_neg h1, if_pos h2]
    rw [e]
    go_enter Tryz.func70, Tryz.ntmps70
    go_wp2
    go_ret
    exact ⟨rfl, rfl⟩
  have e : cmpI a b = 0 := by unfold cmpI; rw [if_neg h1, if_neg h2]
  rw [e]
  go_enter Tryz.func70, Tryz.ntmps70
  go_wp2
  go_ret
  exact ⟨rfl, rfl⟩
set_option maxRecDepth 100000 in
set_option maxHeartbeats 1000000 in
theorem over_any (up tg : Int) (w : World) (hu : -100 ≤ up ∧ up ≤ 100) : Calls Tryz.prog 137 #[.int .i64 up, .int .i64 tg] w fun e w' => e = .returned (.bool (overF up tg)) ∧ w = w' := by
  by_cases h1 : tg < max up (-up)
  · have e : overF up tg = true := by unfold overF; simp [h1]
    rw [e]
    by_cases h2 : up < -up
    · have h3 : tg < -up := by omega
      go_enter Tryz.func137, Tryz.ntmps137
      go_wp2
      go_ret
      exact ⟨rfl, rfl⟩
    · have h3 : tg < up := by omega
      go_enter Tryz.func137, Tryz.ntmps137
      go_wp2
      go_ret
      exact ⟨rfl, rfl⟩
  by_cases h0 : tg = 0
  · subst h0
    have e : overF up 0 = true := by unfold overF; simp
    rw [e]
    have hu0 : up = 0 := by omega
    subst hu0
    go_enter Tryz.func137, Tryz.ntmps137
    go_wp2
    go_ret
    exact ⟨rfl, rfl⟩
  have e : overF up tg = false := by unfold overF; simp; omega
  rw [e]
  have HM := Lib.hid (decide_eq_false h1)
  have t0 : (tg == 0) = false := by simpa using h0
  by_cases h2 : up < -up
  · have h3 : ¬ tg < -up := by omega
    clear h1 e h0
    go_enter Tryz.func137, Tryz.ntmps137
    go_wp2
    go_ret
    refine ⟨?_, rfl⟩
    first
      | rfl
      | (show Ending.returned (.bool (decide (tg < max up (-up)))) = _
         rw [HM.out])
  · have h3 : ¬ tg < up := by omega
    clear h1 e h0
    go_enter Tryz.func137, Tryz.ntmps137
    go_wp2
    go_ret
    refine ⟨?_, rfl⟩
    first
      | rfl
      | (show Ending.returned (.bool (decide (tg < max up (-up)))) = _
         rw [HM.out])
set_option maxRecDepth 100000 in
set_option maxHeartbeats 4000000 in
theorem compareN_any (a b : NI) (w : World) : Calls Tryz.prog 136 #[a.val, b.val] w fun e w' => e = .returned (.int .i64 (cmpN a b)) ∧ Below w.heap.size w w' := by
  obtain ⟨sa, am⟩ := a
  obtain ⟨sb, bm⟩ := b
  simp only [NI.val]
  have HA : Hid (∀ w, Calls Tryz.prog 134 #[.agg #[.int .i64 sa, .string (mkN am)]] w fun r w' => r = .returned (.bool (isO am)) ∧ Below w.heap.size w w') := fun w => counts_any sa am w
  have HC : Hid (∀ w, Calls Tryz.prog 134 #[.agg #[.int .i64 sb, .string (mkN bm)]] w fun r w' => r = .returned (.bool (isO bm)) ∧ Below w.heap.size w w') := fun w => counts_any sb bm w
  have E : cmpN ⟨sa, am⟩ ⟨sb, bm⟩ = if isO am then (if isO bm then cmpI sb sa else 1) else if isO bm then -1 else 0 := rfl
  rw [E]
  clear E
  generalize mkN am = ma at *
  generalize mkN bm = mb at *
  generalize isO am = ia at *
  generalize isO bm = ib at *
  have hb := ((Below.refl w.heap.size w).alloc (Nat.le_refl _) (.cells #[.int .i64 sa, .string ma] 143)).alloc (by simp) (.cells #[.int .i64 sb, .string mb] 143)
  have HB := Lib.hid hb
  have hc : ∀ w', Below ((w.alloc (.cells #[.int .i64 sa, .string ma] 143)).alloc (.cells #[.int .i64 sb, .string mb] 143)).heap.size ((w.alloc (.cells #[.int .i64 sa, .string ma] 143)).alloc (.cells #[.int .i64 sb, .string mb] 143)) w' →
      w'.cell? ⟨w.heap.size, 0, none⟩ = some (.int .i64 sa) ∧ w'.cell? ⟨w.heap.size, 1, none⟩ = some (.string ma) ∧ w'.cell? ⟨w.heap.size + 1, 0, none⟩ = some (.int .i64 sb) ∧ w'.cell? ⟨w.heap.size + 1, 1, none⟩ = some (.string mb) := fun w' h =>
    ⟨(h.cell (p := ⟨w.heap.size, 0, none⟩) (by simp; omega)).trans (by simp), (h.cell (p := ⟨w.heap.size, 1, none⟩) (by simp; omega)).trans (by simp), (h.cell (p := ⟨w.heap.size + 1, 0, none⟩) (by simp)).trans (by simp), (h.cell (p := ⟨w.heap.size + 1, 1, none⟩) (by simp)).trans (by simp)⟩
  obtain ⟨c0, c1, c2, c3⟩ := hc _ (Below.refl _ _)
  have HX := Lib.hid hc
  clear hb hc
  have HCMP := Lib.hid (cmpInt_any sb sa)
  go_enter Tryz.func136, Tryz.ntmps136
  go_wp2_with fail
  generalize (w.alloc (.cells #[.int .i64 sa, .string ma] 143)).alloc (.cells #[.int .i64 sb, .string mb] 143) = W1 at *
  go_at_call 134
  refine (HA.out _).mono ?_
  rintro e w2 ⟨rfl, hb2⟩
  have HB2 := Lib.hid (hb2)
  obtain ⟨d20, d21, d22, d23⟩ := HX.out _ HB2.out
  clear hb2 c0 c1 c2 c3
  cases ia <;> cases ib
  · go_wp2_with fail
    go_at_call 134
    refine (HA.out _).mono ?_
    rintro e w3 ⟨rfl, hb3⟩
    have HB3 := Lib.hid (HB2.out.trans (hb3.mono HB2.out.size))
    obtain ⟨d30, d31, d32, d33⟩ := HX.out _ HB3.out
    clear hb3 d20 d21 d22 d23
    go_wp2_with fail
    go_at_call 134
    refine (HC.out _).mono ?_
    rintro e w4 ⟨rfl, hb4⟩
    have HB4 := Lib.hid (HB3.out.trans (hb4.mono HB3.out.size))
    obtain ⟨d40, d41, d42, d43⟩ := HX.out _ HB4.out
    clear hb4 d30 d31 d32 d33
    go_wp2_with fail
    go_ret
    exact ⟨by rfl, HB.out.trans (HB4.out.mono HB.out.size)⟩
  · go_wp2_with fail
    go_at_call 134
    refine (HA.out _).mono ?_
    rintro e w3 ⟨rfl, hb3⟩
    have HB3 := Lib.hid (HB2.out.trans (hb3.mono HB2.out.size))
    obtain ⟨d30, d31, d32, d33⟩ := HX.out _ HB3.out
    clear hb3 d20 d21 d22 d23
    go_wp2_with fail
    go_at_call 134
    refine (HC.out _).mono ?_
    rintro e w4 ⟨rfl, hb4⟩
    have HB4 := Lib.hid (HB3.out.trans (hb4.mono HB3.out.size))
    obtain ⟨d40, d41, d42, d43⟩ := HX.out _ HB4.out
    clear hb4 d30 d31 d32 d33
    go_wp2_with fail
    go_ret
    exact ⟨by rfl, HB.out.trans (HB4.out.mono HB.out.size)⟩
  · go_wp2_with fail
    go_at_call 134
    refine (HC.out _).mono ?_
    rintro e w3 ⟨rfl, hb3⟩
    have HB3 := Lib.hid (HB2.out.trans (hb3.mono HB2.out.size))
    obtain ⟨d30, d31, d32, d33⟩ := HX.out _ HB3.out
    clear hb3 d20 d21 d22 d23
    go_wp2_with fail
    go_at_call 134
    refine (HA.out _).mono ?_
    rintro e w4 ⟨rfl, hb4⟩
    have HB4 := Lib.hid (HB3.out.trans (hb4.mono HB3.out.size))
    obtain ⟨d40, d41, d42, d43⟩ := HX.out _ HB4.out
    clear hb4 d30 d31 d32 d33
    go_wp2_with fail
    go_ret
    exact ⟨by rfl, HB.out.trans (HB4.out.mono HB.out.size)⟩
  · go_wp2_with fail
    go_at_call 134
    refine (HC.out _).mono ?_
    rintro e w3 ⟨rfl, hb3⟩
    have HB3 := Lib.hid (HB2.out.trans (hb3.mono HB2.out.size))
    obtain ⟨d30, d31, d32, d33⟩ := HX.out _ HB3.out
    clear hb3 d20 d21 d22 d23
    go_wp2_with (go_at_call 70; refine (HCMP.out _).mono ?_; rintro e w' ⟨rfl, rfl⟩)
    go_ret
    exact ⟨by rfl, HB.out.trans (HB3.out.mono HB.out.size)⟩
end Go.Proofs.YtkkkfjinflepmaaGreatDoor
