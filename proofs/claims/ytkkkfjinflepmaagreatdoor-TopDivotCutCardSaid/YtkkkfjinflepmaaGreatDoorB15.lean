/- Part 15 of the walks of the golf union's program: DM1. -/
import Derived.Test.YtkkkfjinflepmaaGreatDoorB14
set_option linter.unusedVariables false
set_option linter.unusedSimpArgs false
set_option linter.unusedSectionVars false
set_option linter.constructorNameAsVariable false
/- TopDivotMatches, plain: the match of b and a is the match of a and b, mirrored. -/
namespace Go.Proofs.YtkkkfjinflepmaaGreatDoor
open Go.RowKit Go.Mem Go.Sheet Go.Adj
theorem cmpI_anti (a b : Int) : cmpI a b = -cmpI b a := by unfold cmpI; (repeat' split) <;> omega
theorem cmpN_anti (a b : NI) : cmpN a b = -cmpN b a := by
  have := cmpI_anti b.s a.s
  unfold cmpN
  cases isO a.x <;> cases isO b.x <;> simp [this]
theorem sumTo_neg {f g : Nat → Int} (h : ∀ i, f i = -g i) : ∀ n, sumTo f n = -sumTo g n
  | 0 => rfl
  | n + 1 => by
    have ih := sumTo_neg h n
    have h1 := h n
    show sumTo f n + f n = -(sumTo g n + g n)
    omega
theorem upF_anti (A B : Nat → NI) (k : Nat) : upF A B k = -upF B A k := sumTo_neg (fun i => cmpN_anti _ _) k
theorem dead_symm (A B : Nat → NI) (k : Nat) : deadF A B k = deadF B A k := Bool.or_comm _ _
theorem over_neg (u t : Int) : overF (-u) t = overF u t := by
  unfold overF
  rw [Int.neg_neg, Int.max_comm]
def mirS (s : StI) : StI := ⟨-s.up, s.to, s.ov⟩
theorem stF_mir (A B : Nat → NI) (n k : Nat) : stF B A n k = mirS (stF A B n k) := by
  unfold stF mirS
  rw [upF_anti B A, over_neg]
theorem mlF_symm (A B : Nat → NI) (n : Nat) : ∀ d k, mlF A B n d k = mlF B A n d k
  | 0, _ => rfl
  | d + 1, k => by
    have ih := mlF_symm A B n d (k + 1)
    have h : (stF A B n k).ov = (stF B A n k).ov := by rw [stF_mir A B]; rfl
    unfold mlF
    rw [dead_symm, h, ih]
theorem matF_mir (A B : Nat → NI) (n : Nat) : matF B A n = (matF A B n).map mirS := by
  unfold matF
  rw [List.map_map, mlF_symm B A]
  refine List.map_congr_left fun k _ => ?_
  exact stF_mir A B n k
/-- by how many the first player is up at the end -/
def endUp (A B : Nat → NI) (n : Nat) : Int := match (matF A B n).getLast? with | some s => s.up | none => 0
theorem endUp_anti (A B : Nat → NI) (n : Nat) : endUp B A n = -endUp A B n := by
  unfold endUp
  rw [matF_mir A B, List.getLast?_map]
  cases (matF A B n).getLast? <;> rfl
/-- who loses of two: the one who is down, or the greater seed -/
def loseF (up : Nat → Nat → Int) (a b : Nat) : Nat := if up a b < 0 ∨ up a b = 0 ∧ b < a then a else b
/-- who remains of two slots; nobody has more than one; the one who is gone, if any, is out -/
def pairF (up : Nat → Nat → Int) (gone : Option Nat) : Option Nat → Option Nat → Option Nat
  | some a, some b => if gone = some a then some b else if gone = some b then some a else if loseF up a b = a then some b else some a
  | some a, none => if gone = some a then none else some a
  | none, some b => if gone = some b then none else some b
  | none, none => none
/-- the rounds of a bracket: in the first one somebody may be gone -/
def rndF (up : Nat → Nat → Int) (gone : Option Nat) (S : Nat → Option Nat) : Nat → Nat → Option Nat
  | 0 => S
  | r + 1 => fun i => pairF up (if r = 0 then gone else none) (rndF up gone S r (2 * i)) (rndF up gone S r (2 * i + 1))
theorem pairF_from {up : Nat → Nat → Int} {gone x y : Option Nat} {a : Nat} (h : pairF up gone x y = some a) : (x = some a ∨ y = some a) := by
  cases x <;> cases y <;> simp only [pairF] at h
  · cases h
  · split at h
    · cases h
    · exact .inr h
  · split at h
    · cases h
    · exact .inl h
  · (repeat' split at h) <;> first | exact .inl h | exact .inr h
theorem pairF_gone {up : Nat → Nat → Int} {x y : Option Nat} {g : Nat} (hd : ∀ a, x = some a → y = some a → False) : pairF up (some g) x y ≠ some g := by
  cases x <;> cases y <;> simp only [pairF]
  · simp
  · split
    · simp
    · rename_i h; exact fun e => h e.symm
  · split
    · simp
    · rename_i h; exact fun e => h e.symm
  · rename_i a b
    have hab : a ≠ b := fun e => hd a rfl (by rw [e])
    (repeat' split) <;> rename_i h <;> intro e <;> simp_all
theorem pairF_some {up : Nat → Nat → Int} {gone x y : Option Nat} {a : Nat} (ha : gone ≠ some a) (h : x = some a ∨ y = some a) : ∃ b, pairF up gone x y = some b := by
  rcases h with rfl | rfl
  · cases y <;> simp only [pairF]
    · rw [if_neg ha]; exact ⟨_, rfl⟩
    · (repeat' split) <;> exact ⟨_, rfl⟩
  · cases x <;> simp only [pairF]
    · rw [if_neg ha]; exact ⟨_, rfl⟩
    · (repeat' split) <;> exact ⟨_, rfl⟩
/-- where nobody who is gone has been, all is as it was -/
theorem rnd_same {up : Nat → Nat → Int} {S : Nat → Option Nat} {g at_ : Nat} (hS : ∀ i, S i = some g → i = at_) : ∀ r i, i ≠ at_ / 2 ^ r → 1 ≤ r → rndF up (some g) S r i = rndF up none S r i
  | 1, i, hi, _ => by
    show pairF up (some g) (S (2 * i)) (S (2 * i + 1)) = pairF up none (S (2 * i)) (S (2 * i + 1))
    have h1 : S (2 * i) ≠ some g := fun e => hi (by have := hS _ e; rw [← this]; simp)
    have h2 : S (2 * i + 1) ≠ some g := fun e => hi (by have := hS _ e; rw [← this]; simp; omega)
    generalize S (2 * i) = x at *
    generalize S (2 * i + 1) = y at *
    cases x <;> cases y <;> simp only [pairF]
    · rw [if_neg (fun e => h2 e.symm), if_neg (by simp)]
    · rw [if_neg (fun e => h1 e.symm), if_neg (by simp)]
    · rw [if_neg (fun e => h1 e.symm), if_neg (fun e => h2 e.symm)]; simp
  | r + 2, i, hi, _ => by
    have e1 : at_ / 2 ^ (r + 2) = at_ / 2 ^ (r + 1) / 2 := by rw [Nat.pow_succ 2 (r + 1), Nat.div_div_eq_div_mul]
    rw [e1] at hi
    have h1 := rnd_same (up := up) hS (r + 1) (2 * i) (by omega) (by omega)
    have h2 := rnd_same (up := up) hS (r + 1) (2 * i + 1) (by omega) (by omega)
    show pairF up none (rndF up (some g) S (r + 1) (2 * i)) (rndF up (some g) S (r + 1) (2 * i + 1)) = pairF up none (rndF up none S (r + 1) (2 * i)) (rndF up none S (r + 1) (2 * i + 1))
    rw [h1, h2]
/-- who is gone does not come back -/
theorem rnd_gone {up : Nat → Nat → Int} {S : Nat → Option Nat} {g : Nat} (hS : ∀ i j a, S i = some a → S j = some a → i = j) : ∀ r i, 1 ≤ r → rndF up (some g) S r i ≠ some g
  | 1, i, _ => pairF_gone fun a h1 h2 => by have := hS _ _ a h1 h2; omega
  | r + 2, i, _ => fun e => by
    have h1 := rnd_gone (up := up) (g := g) hS (r + 1) (2 * i) (by omega)
    have h2 := rnd_gone (up := up) (g := g) hS (r + 1) (2 * i + 1) (by omega)
    rcases pairF_from (gone := none) e with h | h
    · exact h1 h
    · exact h2 h
/-- while somebody else is there, somebody remains -/
theorem rnd_left {up : Nat → Nat → Int} {gone : Option Nat} {S : Nat → Option Nat} {j a : Nat} (hj : S j = some a) (ha : gone ≠ some a) : ∀ r, ∃ b, rndF up gone S r (j / 2 ^ r) = some b
  | 0 => ⟨a, by rw [Nat.pow_zero, Nat.div_one]; exact hj⟩
  | r + 1 => by
    have e1 : j / 2 ^ (r + 1) = j / 2 ^ r / 2 := by rw [Nat.pow_succ, Nat.div_div_eq_div_mul]
    rw [e1]
    show ∃ b, pairF up (if r = 0 then gone else none) (rndF up gone S r (2 * (j / 2 ^ r / 2))) (rndF up gone S r (2 * (j / 2 ^ r / 2) + 1)) = some b
    have hp : 2 * (j / 2 ^ r / 2) = j / 2 ^ r ∨ 2 * (j / 2 ^ r / 2) + 1 = j / 2 ^ r := by omega
    cases r with
    | zero =>
      rw [Nat.pow_zero, Nat.div_one] at hp ⊢
      refine pairF_some (a := a) (by simpa using ha) ?_
      rcases hp with hp | hp
      · rw [hp]; exact .inl hj
      · rw [hp]; exact .inr hj
    | succ r =>
      obtain ⟨b, hb⟩ := rnd_left (up := up) hj ha (r + 1)
      refine pairF_some (a := b) (by simp) ?_
      rcases hp with hp | hp
      · rw [hp]; exact .inl hb
      · rw [hp]; exact .inr hb
end Go.Proofs.YtkkkfjinflepmaaGreatDoor
