/- Part 34 of the walks of the golf union's program: DS1. -/
import Derived.Test.YtkkkfjinflepmaaGreatDoorB10
import Derived.Test.YtkkkfjinflepmaaGreatDoorB08
set_option linter.unusedVariables false
set_option linter.unusedSimpArgs false
set_option linter.unusedSectionVars false
set_option linter.constructorNameAsVariable false
/- Chapter 1: shares of a number for equal weights: the check of weights; a sort where all are equal. -/
namespace Go.Proofs.YtkkkfjinflepmaaGreatDoor
open Go.RowKit Go.Mem Go.Sheet Go.Adj
set_option maxRecDepth 100000 in
set_option maxHeartbeats 400000 in
theorem idxI5 (W : World) (F : Nat → Prop) (v : Value) (n : Nat) (l : List Int) (g : Nat) (eg : Enters Tryz.prog g) (p : Int → Bool) (h0 : Rd W F 1 v n (intsI l))
    (hC : ∀ x w, x ∈ l → Calls Tryz.prog g #[.int .i64 x] w fun e w' => e = .returned (.bool (p x)) ∧ w = w') :
    Calls Tryz.prog 106 #[v, .func (.func g) #[] #[]] W fun e w' => e = .returned (.int .i64 (idxF p 0 l)) ∧ W = w' := by
  unfold Enters at eg
  have hn := h0.le
  have HL := Lib.hid (h0.count1 (f := Value.int .i64))
  obtain ⟨A, c, rfl, _, _, h0⟩ := h0.open_
  have H := Lib.hid h0
  have HC := Lib.hid hC
  clear h0 hC
  go_enter Tryz.func106, Tryz.ntmps106
  go_wp2
  go_loop [8] (fun i => ∃ k : Nat, k ≤ n ∧ i = .int .i64 k ∧ Hid (idxF p k (l.drop k) = idxF p 0 l)) (fun i => n - (intOf i).toNat)
  case atStart => exact ⟨0, Nat.zero_le _, rfl, rfl⟩
  case round =>
    obtain ⟨k, hk, rfl, he⟩ := hrel
    by_cases hlt : k < n
    · obtain ⟨b, o, x, rfl, hx, c0⟩ := Rd.int (q := .i64) H.out hlt
      have HX := Lib.hid hx
      clear hx
      go_wp2_with fail
      refine (HC.out x _ (List.mem_of_getElem? HX.out)).mono ?_
      rintro e w' ⟨rfl, rfl⟩
      go_wp2
      · go_ret
        exact ⟨by rw [← idxF_stop HX.out ‹p x = true› he.out]; rfl, rfl⟩
      · go_round
        case rel => exact ⟨k + 1, by omega, by go_num, idxF_go HX.out ‹p x = false› he.out⟩
        case measure => simp [intOf]; omega
    · go_wp2
      go_ret
      obtain rfl : k = n := by omega
      exact ⟨by rw [← idxF_end (Nat.le_of_eq HL.out.symm) he.out]; rfl, rfl⟩
set_option maxHeartbeats 400000 in
theorem anyI5 (W : World) (F : Nat → Prop) (v : Value) (n : Nat) (l : List Int) (g : Nat) (eg : Enters Tryz.prog g) (p : Int → Bool) (h0 : Rd W F 1 v n (intsI l))
    (hC : ∀ x w, x ∈ l → Calls Tryz.prog g #[.int .i64 x] w fun e w' => e = .returned (.bool (p x)) ∧ w = w') :
    Calls Tryz.prog 72 #[v, .func (.func g) #[] #[]] W fun e w' => e = .returned (.bool (l.any p)) ∧ W = w' := by
  have HC := Lib.hid (idxI5 W F v n l g eg p h0 hC)
  have HA := Lib.hid (idxF_any p l 0)
  obtain ⟨A, c, rfl, _, _, _⟩ := h0.open_
  clear h0 hC
  generalize idxF p 0 l = ix at *
  go_enter Tryz.func72, Tryz.ntmps72
  go_wp2_with fail
  refine HC.out.mono ?_
  rintro e w2 ⟨rfl, rfl⟩
  go_wp2
  go_ret
  exact ⟨ret_bool HA.out, rfl⟩
theorem weights1_any (x : Int) (w : World) : Calls Tryz.prog 91 #[.int .i64 x] w fun e w' => e = .returned (.bool (decide (x < 0) || decide (999999999 < x))) ∧ w = w' := by
  go_enter Tryz.func91, Tryz.ntmps91
  go_wp2
  all_goals
    go_ret
    simp_all
theorem weights2_any (x : Int) (w : World) : Calls Tryz.prog 92 #[.int .i64 x] w fun e w' => e = .returned (.bool (x != 0)) ∧ w = w' := by
  go_enter Tryz.func92, Tryz.ntmps92
  go_wp2
  go_ret
  exact ⟨rfl, rfl⟩
def onesL (k : Nat) : List Int := List.replicate k 1
set_option maxRecDepth 100000 in
set_option maxHeartbeats 4000000 in
theorem checkWeights_ones (W : World) (F : Nat → Prop) (v : Value) (k : Nat) (hk : 1 ≤ k ∧ k ≤ 256) (h : Rd W F 1 v k (intsI (onesL k))) :
    Calls Tryz.prog 43 #[v] W fun e w' => e = .returned (.int .i64 0) ∧ Below W.heap.size W w' := by
  have h1 := anyI5 W F v k (onesL k) 91 (enters Tryz.func91 (by kernel_rfl) rfl) _ h (fun x w _ => weights1_any x w)
  have h2 := anyI5 W F v k (onesL k) 92 (enters Tryz.func92 (by kernel_rfl) rfl) _ h (fun x w _ => weights2_any x w)
  have e1 : (onesL k).any (fun x => decide (x < 0) || decide (999999999 < x)) = false := by
    rw [List.any_eq_false]; intro x hx; rw [List.eq_of_mem_replicate hx]; decide
  have e2 : (onesL k).any (fun x => x != 0) = true := by
    rw [List.any_eq_true]; exact ⟨1, List.mem_replicate.2 ⟨by omega, rfl⟩, by decide⟩
  rw [e1] at h1
  rw [e2] at h2
  have H1 := Lib.hid h1
  have H2 := Lib.hid h2
  obtain ⟨A, c, rfl, _, _, _⟩ := h.open_
  clear h h1 h2 e1 e2
  have t1 : ((k : Int) == 0) = false := by simp; omega
  have t1' : (k == 0) = false := by simp; omega
  have t2 : decide ((256 : Int) < (k : Int)) = false := decide_eq_false (by omega)
  have t2' : decide (256 < k) = false := decide_eq_false (by omega)
  go_enter Tryz.func43, Tryz.ntmps43
  go_wp2_with fail
  go_at_call 72
  refine H1.out.mono ?_
  rintro e w1 ⟨rfl, rfl⟩
  go_wp2_with fail
  go_at_call 72
  refine H2.out.mono ?_
  rintro e w1 ⟨rfl, rfl⟩
  go_wp2_with (first
    | (go_at_call 42; refine (cardNo _ _).mono ?_; rintro e w' ⟨rfl, rfl⟩)
    | (go_at_call 41; refine (cardOk4 _ _ (by simp) (by simp) (by simp) (by simp) (by simp)).mono ?_; rintro e w' ⟨rfl, rfl⟩))
  go_ret
  exact ⟨rfl, (Below.refl _ _).alloc (Nat.le_refl _) _⟩
set_option maxRecDepth 100000 in
set_option maxHeartbeats 4000000 in
theorem shares1_same (w : World) (gp b o k c x y : Nat) (z : Int) (hx : x < k) (hy : y < k) (h0 : w.cell? ⟨gp, 0, none⟩ = some (.slice (some ⟨b, o, none⟩) k c)) (hc : ∀ i, i < k → w.cell? ⟨b, o + i, none⟩ = some (.int .i64 z)) :
    Calls Tryz.prog 45 #[.int .i64 x, .int .i64 y, .pointer (some ⟨gp, 0, none⟩)] w fun e w2 => e = .returned (.int .i64 0) ∧ ∃ n, w2 = w.drewN n := by
  have hcx := hc x hx
  have hcy := hc y hy
  have p1 : decide ((x : Int) < 0) = false := by simp
  have p2 : decide ((k : Int) ≤ (x : Int)) = false := by simp; omega
  have p3 : decide ((y : Int) < 0) = false := by simp
  have p4 : decide ((k : Int) ≤ (y : Int)) = false := by simp; omega
  have p5 : decide (k ≤ x) = false := by simp; omega
  have p6 : decide (k ≤ y) = false := by simp; omega
  have p7 : IntKind.i64.wrap (z - z) = 0 := by rw [Int.sub_self]; exact IntWalk.i64_in 0 (by decide)
  clear hc
  go_enter Tryz.func45, Tryz.ntmps45
  go_wp2_with fail
  go_quiet (fail)
  all_goals
    go_wp2_with fail
    go_ret
    exact ⟨by simp, _, rfl⟩
end Go.Proofs.YtkkkfjinflepmaaGreatDoor
