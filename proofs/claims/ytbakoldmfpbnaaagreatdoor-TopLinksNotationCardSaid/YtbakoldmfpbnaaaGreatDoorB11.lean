/- Part 11 of the walks of the golf union's program: LN4. -/
import Derived.Test.YtbakoldmfpbnaaaGreatDoorB07
set_option linter.unusedVariables false
set_option linter.unusedSimpArgs false
set_option linter.unusedSectionVars false
set_option linter.constructorNameAsVariable false
/- Chapter 1: a text of words between blanks. -/
namespace Go.Adj
open Go.RowKit Go.Mem
theorem index_blank : ∀ (w r : List UInt8), w.contains 32 = false → Lib.index (w ++ 32 :: r) [32] = w.length
  | [], r, _ => by
    rw [List.nil_append, Lib.index, if_pos (by simp [List.isPrefixOf])]; rfl
  | a :: w, r, h => by
    have ha : a ≠ 32 := fun e => by subst e; simp at h
    have hw : w.contains 32 = false := by simp at h ⊢; exact h.2
    rw [List.cons_append, Lib.index, if_neg (by simp [List.isPrefixOf]; exact fun e => ha e.symm), index_blank w r hw, if_neg (by simp)]
    simp
theorem index_none : ∀ (w : List UInt8), w.contains 32 = false → Lib.index w [32] = -1
  | [], _ => rfl
  | a :: w, h => by
    have ha : a ≠ 32 := fun e => by subst e; simp at h
    have hw : w.contains 32 = false := by simp at h ⊢; exact h.2
    rw [Lib.index, if_neg (by simp [List.isPrefixOf]; exact fun e => ha e.symm), index_none w hw]
    rfl
/-- words with blanks between them -/
def joinW : List (List UInt8) → List UInt8
  | [] => []
  | [w] => w
  | w :: r => w ++ 32 :: joinW r
theorem joinW_join (l : List (List UInt8)) : Lib.join l [32] = joinW l := by
  induction l with
  | nil => rfl
  | cons w r ih =>
    cases r with
    | nil => simp [joinW, Lib.join, List.intercalate]
    | cons a r =>
      rw [show joinW (w :: a :: r) = w ++ 32 :: joinW (a :: r) from rfl, ← ih]
      simp [Lib.join, List.intercalate]
theorem wB_inj {a b : ByteArray} (h : a.data.toList = b.data.toList) : a = b := by
  obtain ⟨⟨l⟩⟩ := a
  obtain ⟨⟨r⟩⟩ := b
  have : l = r := h
  rw [this]
def sp : ByteArray := ⟨#[32]⟩
theorem split_join : ∀ (l : List (List UInt8)), l ≠ [] → (∀ w ∈ l, w.contains 32 = false) → Lib.countB (wB (joinW l)) sp + 1 = l.length ∧ Lib.splitB sp 0 (Lib.countB (wB (joinW l)) sp) (wB (joinW l)) = l.map wB
  | [], h, _ => absurd rfl h
  | [w], _, h => by
    have hi : Lib.indexB (wB w) sp = -1 := index_none w (h w (by simp))
    rw [joinW, Lib.countB_miss _ _ hi]
    exact ⟨rfl, rfl⟩
  | w :: a :: r, _, h => by
    have ih := split_join (a :: r) (by simp) fun x hx => h x (by simp at hx ⊢; right; exact hx)
    have hi : Lib.indexB (wB (joinW (w :: a :: r))) sp = (w.length : Nat) := index_blank w (joinW (a :: r)) (h w (by simp))
    have hrest : (wB (joinW (w :: a :: r))).extract (w.length + sp.size) (wB (joinW (w :: a :: r))).size = wB (joinW (a :: r)) := by
      apply wB_inj
      rw [Lib.extract_to_end, wB_list, wB_list]
      show (w ++ 32 :: joinW (a :: r)).drop (w.length + 1) = _
      rw [← List.drop_drop, List.drop_left]
      rfl
    have hfirst : (wB (joinW (w :: a :: r))).extract 0 (w.length + 0) = wB w := by
      apply wB_inj
      rw [Lib.extract_from_zero, wB_list, wB_list, Nat.add_zero]
      show (w ++ 32 :: joinW (a :: r)).take w.length = _
      rw [List.take_left]
    have hc := Lib.countB_hit (wB (joinW (w :: a :: r))) sp w.length (by decide) hi
    rw [hrest] at hc
    refine ⟨by rw [hc]; simp only [List.length_cons] at ih ⊢; omega, ?_⟩
    rw [hc, Nat.add_comm, Lib.splitB_hit sp 0 _ _ w.length hi, hrest, hfirst, ih.2]
    rfl
end Go.Adj
