/- Chapter 5: all, of any net strokes. -/
import Derived.Test.YtbakoldmfpbnaaaGreatDoorB16
set_option linter.unusedVariables false
set_option linter.unusedSimpArgs false
set_option linter.unusedSectionVars false
set_option linter.constructorNameAsVariable false
namespace Go.Proofs.YtbakoldmfpbnaaaGreatDoor
open Go.RowKit Go.Mem Go.Sheet Go.Adj
def allO (NF : Nat → NI) : Nat → Bool
  | 0 => true
  | k + 1 => allO NF k && isO (NF k).x
theorem isO_iff (x : MK) : isO x = true ↔ x = .o := by cases x <;> simp [isO]
theorem allO_iff (NF : Nat → NI) (n : Nat) : allO NF n = true ↔ ∀ i, i < n → (NF i).x = .o := by
  induction n with
  | zero => simp [allO]
  | succ k ih =>
    rw [allO, Bool.and_eq_true, ih, isO_iff]
    constructor
    · rintro ⟨h1, h2⟩ i hi
      by_cases e : i = k
      · subst e; exact h2
      · exact h1 i (by omega)
    · intro h
      exact ⟨fun i hi => h i (by omega), h k (by omega)⟩
theorem allO_no {NF : Nat → NI} {n k : Nat} (hk : k < n) (h : isO (NF k).x = false) : allO NF n = false := by
  cases e : allO NF n with
  | false => rfl
  | true =>
    have := (allO_iff NF n).1 e k hk
    rw [this] at h
    cases h
set_option maxRecDepth 100000 in
set_option maxHeartbeats 4000000 in
theorem idxN_any (W : World) (v : Value) (n : Nat) (NF : Nat → NI) (h : Rd W (· < W.heap.size) 2 v n ((nl NF n).flatMap NI.cells)) :
    Calls Tryz.prog 102 #[v, .func (.func 81) #[] #[]] W fun e w' => ∃ i : Int, e = .returned (.int .i64 i) ∧ Hid (decide (0 ≤ i) = !allO NF n) ∧ Below W.heap.size W w' := by
  have H := Lib.hid h
  have hn := h.le
  have HNO : Hid (∀ k, k < n → isO (NF k).x = false → allO NF n = false) := fun k hk h => allO_no hk h
  obtain ⟨A, c, rfl, _, _, _⟩ := h.open_
  clear h
  go_enter Tryz.func102, Tryz.ntmps102
  go_wp2
  go_loopw [8] (fun i w' => ∃ k : Nat, k ≤ n ∧ i = .int .i64 k ∧ Hid (allO NF k = true) ∧ Below W.heap.size W w') (fun i _ => n - (intOf i).toNat)
  case atStart => exact ⟨0, Nat.zero_le _, rfl, rfl, Below.refl _ _⟩
  case round =>
    obtain ⟨k, hk, rfl, ha, hbw⟩ := hrel
    by_cases hlt : k < n
    · obtain ⟨b, o, x, rfl, hx, c0, c1⟩ := net_elem (H.out.below hbw) hlt
      have hxe : NF k = x := Option.some.inj ((nl_at NF hlt).symm.trans hx)
      have hno := HNO.out k hlt
      have hsu : allO NF (k + 1) = (allO NF k && isO (NF k).x) := rfl
      rw [hxe] at hno hsu
      obtain ⟨xs, xx⟩ := x
      simp only at c0 c1 hno hsu
      have HC : Hid (∀ w, Calls Tryz.prog 81 #[.agg #[.int .i64 xs, .string (mkN xx)]] w fun r w' => r = .returned (.bool (!isO xx)) ∧ Below w.heap.size w w') := fun w => all1_any xs xx w
      generalize mkN xx = xm at *
      generalize isO xx = bx at *
      have HBW := Lib.hid hbw
      have HSU := Lib.hid hsu
      have HN := Lib.hid hno
      clear hx hbw hxe hsu hno
      cases bx
      · go_wp2_with (go_at_call 81; refine (HC.out _).mono ?_; rintro e w' ⟨rfl, hb2⟩; have HB2 := Lib.hid hb2; clear hb2)
        go_ret
        exact ⟨_, rfl, Lib.hid (by rw [HN.out (by trivial)]; simp), HBW.out.trans (HB2.out.mono HBW.out.size)⟩
      · go_wp2_with (go_at_call 81; refine (HC.out _).mono ?_; rintro e w' ⟨rfl, hb2⟩; have HB2 := Lib.hid hb2; clear hb2)
        go_roundw
        case rel => exact ⟨k + 1, by omega, by go_num, Lib.hid (by rw [HSU.out, ha.out]; rfl), HBW.out.trans (HB2.out.mono HBW.out.size)⟩
        case measure => simp [intOf]; omega
    · have HBW := Lib.hid hbw
      clear hbw
      obtain rfl : k = n := by omega
      go_wp2
      go_ret
      exact ⟨_, rfl, Lib.hid (by rw [ha.out]; rfl), HBW.out⟩
set_option maxRecDepth 100000 in
set_option maxHeartbeats 4000000 in
theorem all_any (W : World) (v : Value) (n : Nat) (NF : Nat → NI) (h : Rd W (· < W.heap.size) 2 v n ((nl NF n).flatMap NI.cells)) :
    Calls Tryz.prog 52 #[v] W fun e w' => e = .returned (.bool (allO NF n)) ∧ Below W.heap.size W w' := by
  have HI := Lib.hid (idxN_any W v n NF h)
  obtain ⟨A, c, rfl, _, _, _⟩ := h.open_
  clear h
  generalize allO NF n = bo at *
  have HC : Hid (Calls Tryz.prog 80 #[.slice A n c, .func (.func 81) #[] #[]] W fun e w' => e = .returned (.bool (!bo)) ∧ Below W.heap.size W w') := by
    show Calls _ _ _ _ _
    go_enter Tryz.func80, Tryz.ntmps80
    go_wp2_with fail
    go_at_call 102
    refine HI.out.mono ?_
    rintro e w' ⟨i, rfl, hi, hb2⟩
    have HB2 := Lib.hid hb2
    have hi2 := hi.out
    clear hb2 HI
    go_wp2
    go_ret
    exact ⟨rfl, HB2.out⟩
  go_enter Tryz.func52, Tryz.ntmps52
  go_wp2_with (go_at_call 80; refine HC.out.mono ?_; rintro e w' ⟨rfl, hb2⟩; have HB2 := Lib.hid hb2; clear hb2)
  go_ret
  exact ⟨ret_bool (by simp), HB2.out⟩
end Go.Proofs.YtbakoldmfpbnaaaGreatDoor
