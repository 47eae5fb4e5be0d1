/- Part 39 of the walks of the golf union's program: DP7. -/
import Derived.Test.YtkkkfjinflepmaaGreatDoorB37
import Derived.Test.YtkkkfjinflepmaaGreatDoorB38
set_option linter.unusedVariables false
set_option linter.unusedSimpArgs false
set_option linter.unusedSectionVars false
set_option linter.constructorNameAsVariable false
/- Chapter 7: prizes, plain: the members of a rank. -/
namespace Go.Proofs.YtkkkfjinflepmaaGreatDoor
open Go.RowKit Go.Mem Go.Sheet Go.Adj
/-- the rank, as a number -/
def rkN (ls : List LnI) (i : Nat) : Nat := 1 + bfL ls (lnAt ls i).s
theorem rkL_N (ls : List LnI) (i : Nat) : rkL ls i = (rkN ls i : Int) := by unfold rkL rkN; push_cast; rfl
/-- who has the rank r among the first k -/
def memR (rk : Nat → Nat) (r k : Nat) : List Nat := (List.range k).filter fun i => rk i == r
theorem memR_snoc (rk : Nat → Nat) (r k : Nat) : memR rk r (k + 1) = memR rk r k ++ (if rk k = r then [k] else []) := by
  unfold memR
  rw [List.range_succ, List.filter_append]
  by_cases h : rk k = r <;> simp [h]
theorem memR_len (rk : Nat → Nat) (r k : Nat) : (memR rk r k).length ≤ k := by
  unfold memR
  have := List.length_filter_le (fun i => rk i == r) (List.range k)
  rwa [List.length_range] at this
theorem memR_mem {rk : Nat → Nat} {r k i : Nat} : i ∈ memR rk r k ↔ i < k ∧ rk i = r := by
  unfold memR
  rw [List.mem_filter, List.mem_range]
  simp
/-- a member's place among the members -/
theorem memR_at {rk : Nat → Nat} {r : Nat} : ∀ {k j i : Nat}, (memR rk r k)[j]? = some i → (memR rk r i).length = j ∧ i < k ∧ rk i = r
  | 0, j, i, h => by simp [memR] at h
  | k + 1, j, i, h => by
    rw [memR_snoc] at h
    rcases Nat.lt_or_ge j (memR rk r k).length with hj | hj
    · rw [List.getElem?_append_left hj] at h
      obtain ⟨a, b, c⟩ := memR_at h
      exact ⟨a, by omega, c⟩
    · rw [List.getElem?_append_right hj] at h
      by_cases hk : rk k = r
      · rw [if_pos hk] at h
        have h0 : j - (memR rk r k).length = 0 := by
          have := (List.getElem?_eq_some_iff.1 h).1
          simp at this; omega
        rw [h0] at h
        have : k = i := by simpa using h
        subst this
        exact ⟨by omega, by omega, hk⟩
      · rw [if_neg hk] at h; simp at h
/-- the amounts of q ranks from rank r on -/
def sumG (g : Nat → Int) (n r : Nat) (q : Nat) : Int := sumTo (fun j => if r - 1 + j < n then g (r - 1 + j) else 0) q
/-- the prize of a line -/
def prizeF (rk : Nat → Nat) (m : Nat) (g : Nat → Int) (n : Nat) (i : Nat) : Int := shareF (memR rk (rk i) m).length (sumG g n (rk i) (memR rk (rk i) m).length) (memR rk (rk i) i).length
theorem sumG_bd {g : Nat → Int} {n : Nat} (h : GoodPu g n) (r : Nat) : ∀ q, 0 ≤ sumG g n r q ∧ sumG g n r q ≤ q * 999999999
  | 0 => ⟨Int.le_refl 0, by show (0 : Int) ≤ ((0 : Nat) : Int) * 999999999; simp⟩
  | q + 1 => by
    have ih := sumG_bd h r q
    have h1 : 0 ≤ (if r - 1 + q < n then g (r - 1 + q) else 0) ∧ (if r - 1 + q < n then g (r - 1 + q) else 0) ≤ 999999999 := by
      split
      · rename_i hl; exact h.bd _ hl
      · omega
    show 0 ≤ sumG g n r q + (if r - 1 + q < n then g (r - 1 + q) else 0) ∧ sumG g n r q + (if r - 1 + q < n then g (r - 1 + q) else 0) ≤ ((q + 1 : Nat) : Int) * 999999999
    push_cast
    omega
def natV (l : List Nat) : List Value := l.map fun (i : Nat) => Value.int .i64 (i : Int)
/-- what stands in out while the first j members of a rank are given their prizes -/
def outM (prev fin : Nat → Int) (M : List Nat) (j : Nat) (i : Nat) : Int := if i ∈ M.take j then fin i else prev i
theorem outM_step {prev fin : Nat → Int} {M : List Nat} {j i : Nat} (h : M[j]? = some i) : updF (outM prev fin M j) i (fin i) = outM prev fin M (j + 1) := by
  funext x
  unfold updF outM
  rw [List.take_add_one, h]
  by_cases hx : x = i
  · subst hx; simp
  · rw [if_neg hx]; simp [hx]
end Go.Proofs.YtkkkfjinflepmaaGreatDoor
