/- Part 16 of the walks of the golf union's program: DB0. -/
import Derived.Test.YtkkkfjinflepmaaGreatDoorB15
set_option linter.unusedVariables false
set_option linter.unusedSimpArgs false
set_option linter.unusedSectionVars false
set_option linter.constructorNameAsVariable false
/- Chapter 7: the bracket, plain. -/
namespace Go.Proofs.YtkkkfjinflepmaaGreatDoor
open Go.RowKit Go.Mem Go.Sheet Go.Adj
def brS (l : List Int) : List Int := l.flatMap fun s => [s, 2 * (l.length : Int) + 1 - s]
def brGo : Nat → Nat → List Int → List Int
  | 0, _, l => l
  | f + 1, n, l => if l.length < n then brGo f n (brS l) else l
def bracketL (n : Nat) : List Int := (brGo 9 n [1]).map fun s => if (n : Int) < s then 0 else s
theorem brS_len (l : List Int) : (brS l).length = l.length * 2 := by
  unfold brS
  rw [List.length_flatMap]
  generalize (2 * (l.length : Int) + 1) = z
  induction l with
  | nil => rfl
  | cons x l ih => simp only [List.map_cons, List.sum_cons, List.length_cons, List.length_nil] at ih ⊢; omega
theorem brGo_step {f n : Nat} {l : List Int} (h : l.length < n) (hf : n ≤ l.length * 2 ^ f) : ∃ f', f = f' + 1 ∧ brGo f n l = brGo f' n (brS l) ∧ n ≤ (brS l).length * 2 ^ f' := by
  cases f with
  | zero => rw [Nat.pow_zero, Nat.mul_one] at hf; omega
  | succ f =>
    refine ⟨f, rfl, ?_, ?_⟩
    · rw [brGo, if_pos h]
    · rw [brS_len, Nat.mul_assoc, ← Nat.pow_succ']; exact hf
theorem brGo_end {f n : Nat} {l : List Int} (h : ¬ l.length < n) : brGo f n l = l := by
  cases f with
  | zero => rfl
  | succ f => rw [brGo, if_neg h]
/-- the slots of a bracket: the number of the player, if any -/
def slotL (n : Nat) : List (Option Nat) := (bracketL n).map fun s => if s = 0 then none else some (s.toNat - 1)
def slotF (n i : Nat) : Option Nat := (slotL n).getD i none
/-- brackets of up to twelve: as long as a power of two, each player once -/
theorem slots_ok : ((List.range 13).all fun n => decide (n < 2) || (((slotL n).length = 2 || (slotL n).length = 4 || (slotL n).length = 8 || (slotL n).length = 16) && ((List.range n).all fun i => (slotL n).count (some i) == 1) && ((slotL n).all fun s => match s with | some i => decide (i < n) | none => true))) = true := by decide +kernel
end Go.Proofs.YtkkkfjinflepmaaGreatDoor
