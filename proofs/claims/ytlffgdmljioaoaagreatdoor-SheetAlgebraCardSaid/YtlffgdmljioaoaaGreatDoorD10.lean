/- Part 10 of the walks of the golf union's program: Hung2, WE, WW. -/
import Derived.Test.YtlffgdmljioaoaaGreatDoorD09
import Derived.RangeFuncNested
import Derived.RangeFuncBound
import Derived.RangeFuncCalls
import Derived.RangeFuncLeaves
import Derived.Shelf.Abstract
import Derived.WalkKit
import Derived.OwnWalkIn
import Derived.TacticsInMore
import Derived.LoopNIn
import Derived.LoopIn
set_option linter.unusedVariables false
set_option linter.unusedSimpArgs false
set_option linter.unusedSectionVars false
set_option linter.constructorNameAsVariable false
/- The matching: add keeps the matching of the greatest worth: the lists. Plain law. -/
namespace Go.Sheet
/-- the matching of the rows up to i -/
theorem W64_two {a b c : Int} (h1 : -9223372036854775808 ≤ a + b ∧ a + b ≤ 9223372036854775807) (h2 : -9223372036854775808 ≤ a + b - c ∧ a + b - c ≤ 9223372036854775807) : W64 (W64 (a + b) - c) = a + b - c := by
  rw [W64_in (a + b) h1, W64_in _ h2]
structure HInv (wo : Nat → Nat → Int) (N i : Nat) (p : Nat → Nat) (u v : Nat → Int) : Prop where
  ple : ∀ k, 1 ≤ k → k ≤ N → p k ≤ i
  pinj : ∀ k k', 1 ≤ k → 1 ≤ k' → k ≤ N → k' ≤ N → p k = p k' → p k ≠ 0 → k = k'
  psurj : ∀ j, 1 ≤ j → j ≤ i → ∃ k, 1 ≤ k ∧ k ≤ N ∧ p k = j
  feas : ∀ j k, 1 ≤ j → j ≤ i → 1 ≤ k → k ≤ N → wo j k ≤ u j + v k
  tight : ∀ k, 1 ≤ k → k ≤ N → p k ≠ 0 → u (p k) + v k = wo (p k) k
  vnn : ∀ k, 1 ≤ k → k ≤ N → 0 ≤ v k
  free : ∀ k, 1 ≤ k → k ≤ N → p k = 0 → v k = 0
  u0 : ∀ j, i < j → u j = 0
section
variable {wo : Nat → Nat → Int} {N i R P : Nat} {p p' : Nat → Nat} {u v : Nat → Int}
theorem HInv.mat (h : HInv wo N i p u v) (h0 : p' 0 = i + 1) (hp : ∀ k, 1 ≤ k → p' k = p k) : Mat N (i + 1) p' where
  p0 := h0
  ple k a b := by rw [hp k a]; have := h.ple k a b; omega
  pinj k k' a b e n := by
    by_cases z : k = 0 <;> by_cases z' : k' = 0
    · omega
    · subst z
      rw [h0, hp k' (by omega)] at e
      have := h.ple k' (by omega) b; omega
    · subst z'
      rw [h0, hp k (by omega)] at e
      have := h.ple k (by omega) a; omega
    · rw [hp k (by omega), hp k' (by omega)] at e
      rw [hp k (by omega)] at n
      exact h.pinj k k' (by omega) (by omega) a b e n
  psurj j a b := by
    obtain ⟨k, x, y, z⟩ := h.psurj j a (by omega)
    exact ⟨k, x, y, by rw [hp k x]; exact z⟩
theorem HInv.home (h : HInv wo N i p u v) (hN : N = P + R + 1) (hi : i ≤ R) : ∃ k, P < k ∧ k ≤ N ∧ p k = 0 := by
  apply Classical.byContradiction
  intro hc
  have hne : ∀ k, P < k → k ≤ N → p k ≠ 0 := fun k a b e => hc ⟨k, a, b, e⟩
  obtain ⟨a, b, hab, hb, e⟩ := pigeon R (fun x => p (P + 1 + x) - 1) (fun k hk => by
    have h1 := hne (P + 1 + k) (by omega) (by omega)
    have h2 := h.ple (P + 1 + k) (by omega) (by omega)
    show p (P + 1 + k) - 1 < R
    omega)
  have h1 := hne (P + 1 + a) (by omega) (by omega)
  have h2 := hne (P + 1 + b) (by omega) (by omega)
  have h3 := h.pinj (P + 1 + a) (P + 1 + b) (by omega) (by omega) (by omega) (by omega) (by omega) h1
  omega
theorem HInv.unn (h : HInv wo N i p u v) (b : Base wo R P) (hN : N = P + R + 1) (hi : i ≤ R) {j : Nat} (h1 : 1 ≤ j) (h2 : j ≤ i) : 0 ≤ u j := by
  obtain ⟨k, a, c, e⟩ := h.home hN hi
  have := h.feas j k h1 h2 (by omega) c
  rw [b.home j k h1 (by omega) a (by omega), h.free k (by omega) c e] at this
  omega
theorem HInv.vle (h : HInv wo N i p u v) (b : Base wo R P) (hN : N = P + R + 1) (hi : i ≤ R) {k : Nat} (h1 : 1 ≤ k) (h2 : k ≤ N) : v k ≤ Wm := by
  by_cases hp : p k = 0
  · rw [h.free k h1 h2 hp]; decide
  · have h3 := h.tight k h1 h2 hp
    have h4 := h.ple k h1 h2
    have h5 := b.hi (p k) k
    have h6 := h.unn b hN hi (j := p k) (by omega) (by omega)
    omega
theorem HInv.first (h : HInv wo N i p u v) (h0 : p' 0 = i + 1) (hp : ∀ k, 1 ≤ k → p' k = p k) (b : Base wo R P) {u' v' : Nat → Int} {least' : Nat → Int} {way' : Nat → Nat} {next : Nat} {dl : Int}
    (hmin : ∀ k, 1 ≤ k → k ≤ N → dl ≤ v k - wo (i + 1) k) (hn1 : 1 ≤ next) (hnN : next ≤ N) (hnd : dl = v next - wo (i + 1) next)
    (hu : u' (i + 1) = - dl) (hu' : ∀ j, j ≠ i + 1 → u' j = u j) (hv' : ∀ k, 1 ≤ k → k ≤ N → v' k = v k)
    (hl : ∀ k, 1 ≤ k → k ≤ N → least' k = v k - wo (i + 1) k - dl) (hw : ∀ k, 1 ≤ k → k ≤ N → way' k = 0) :
    GI wo N (i + 1) p' u' v' (fun k => k = 0) least' way' next (fun _ => 0) 1 := by
  refine ⟨rfl, fun k e => by subst e; exact Nat.zero_le _, fun k e => by subst e; rw [h0]; omega, (by omega : ¬ next = 0), hn1, hnN, ?_, ?_, ?_, ?_, ?_, ?_, ?_, ?_, ?_, ?_, ?_⟩
  · intro j k h1 h2 h3 h4
    rw [hv' k h3 h4]
    by_cases e : j = i + 1
    · subst e
      rw [hu]; have := hmin k h3 h4; omega
    · rw [hu' j e]; exact h.feas j k h1 (by omega) h3 h4
  · intro k h1 h2 h3
    rw [hp k h1] at h3 ⊢
    rw [hv' k h1 h2, hu' (p k) (by have := h.ple k h1 h2; omega)]
    exact h.tight k h1 h2 h3
  · intro k h1 h2; rw [hv' k h1 h2]; exact h.vnn k h1 h2
  · intro k h1 h2 h3; rw [hp k h1] at h3; rw [hv' k h1 h2]; exact h.free k h1 h2 h3
  · have := b.hi (i + 1) next; have := h.vnn next hn1 hnN; omega
  · intro j hj; rw [hu' j (by omega)]; exact h.u0 j (by omega)
  · intro k s h1 h2 _ h4
    subst h4
    rw [h0, hl k h1 h2, hu, hv' k h1 h2]; omega
  · intro k h1 h2 _
    rw [hw k h1 h2, h0, hl k h1 h2, hu, hv' k h1 h2]
    exact ⟨rfl, by omega⟩
  · rw [hl next hn1 hnN]; omega
  · intro k hk h0; exact absurd hk h0
  · intro k _; exact Nat.zero_lt_one
end
/-- the lists' lengths -/
structure Lens (A : Ad) : Prop where
  row : A.row.length = 25
  col : A.col.length = 218
  least : A.least.length = 218
  way : A.way.length = 218
  re : A.re.length = 218
/-- the invariant, of lists -/
def GL (wo : Nat → Nat → Int) (N i : Nat) (tk : List Nat) (A : Ad) (rk : Nat → Nat) (t : Nat) : Prop :=
  GI wo N i (fun k => tk.getD k 0) (fun j => A.row.getD j 0) (fun k => A.col.getD k 0) (fun k => A.re.getD k false = true) (fun k => A.least.getD k 0) (fun k => A.way.getD k 0) A.at_ rk t
section
variable {wo : Nat → Nat → Int} {N i R P : Nat} {tk : List Nat} {A : Ad} {rk : Nat → Nat} {t : Nat}
theorem re_set {re : List Bool} {a : Nat} (h : a < re.length) (k : Nat) : (re.set a true).getD k false = true ↔ re.getD k false = true ∨ k = a := by
  rw [getD_set]
  by_cases e : a = k
  · subst e; simp [h]
  · rw [if_neg (fun h => e h.1)]
    exact ⟨.inl, fun h' => h'.resolve_right fun h => e h.symm⟩
theorem not_re {re : List Bool} {k : Nat} (h : ¬ re.getD k false = true) : re.getD k false = false := by simpa using h
theorem GL.round (g : GL wo N i tk A rk t) (L : Lens A) (b : Base wo R P) (hN : N = P + R + 1) (hN' : N ≤ 217) (hR : R ≤ 24) (m : Mat N i (fun k => tk.getD k 0)) (hi : i ≤ R) (hat : tk.getD A.at_ 0 ≠ 0) :
    GL wo N i tk (round wo N tk A) (fun k => if k = A.at_ then t else rk k) (t + 1) ∧ Lens (round wo N tk A) := by
  have hatN := g.atN
  have hpb : ∀ k, k ≤ N → tk.getD k 0 ≤ i := fun k hk => by
    by_cases e : k = 0
    · subst e; exact Nat.le_of_eq m.p0
    · exact Nat.le_of_lt (m.ple k (by omega) hk)
  have hS : ∀ k, (A.re.set A.at_ true).getD k false = true ↔ A.re.getD k false = true ∨ k = A.at_ := re_set (by rw [L.re]; omega)
  have hSN : ∀ k, (A.re.set A.at_ true).getD k false = true → k ≤ N := fun k h => by rcases (hS k).1 h with h | h; exact g.sN k h; rw [h]; exact hatN
  have hSp : ∀ k, (A.re.set A.at_ true).getD k false = true → tk.getD k 0 ≠ 0 := fun k h => by rcases (hS k).1 h with h | h; exact g.sp k h; rw [h]; exact hat
  have r1 : 1 ≤ tk.getD A.at_ 0 := by omega
  have r2 := hpb _ hatN
  have ur0 := g.unn b hN m hi r1 r2
  have ur1 := g.ule b m r1 r2
  have hd : ∀ k, 1 ≤ k → k ≤ N → scanD wo A.row A.col (tk.getD A.at_ 0) k = A.row.getD (tk.getD A.at_ 0) 0 + A.col.getD k 0 - wo (tk.getD A.at_ 0) k := fun k h1 h2 => by
    have a := g.vnn k h1 h2
    have c := g.vle b hN m hi h1 h2
    have d := b.hi (tk.getD A.at_ 0) k
    have e := b.lo (tk.getD A.at_ 0) k
    simp only [Wm, Far] at *
    exact W64_two (by omega) (by omega)
  have hd0 : ∀ k, 1 ≤ k → k ≤ N → 0 ≤ A.row.getD (tk.getD A.at_ 0) 0 + A.col.getD k 0 - wo (tk.getD A.at_ 0) k := fun k h1 h2 => by
    have := g.feas _ k r1 r2 h1 h2; (try simp only at this); omega
  have hl0 : ∀ k, 1 ≤ k → k ≤ N → ¬ A.re.getD k false = true → 0 ≤ A.least.getD k 0 := fun k h1 h2 h3 => by
    obtain ⟨x, y⟩ := g.lat k h1 h2 h3
    have h4 := g.sp _ x
    have := g.feas _ k (by (try simp only at h4); omega) (hpb _ (g.sN _ x)) h1 h2
    (try simp only at y this); omega
  have hs : ScanOk (scanD wo A.row A.col (tk.getD A.at_ 0)) (A.re.set A.at_ true) A.at_ 1 (1 + N) ⟨A.least, A.way, far4, 0⟩ (roundS wo N tk A) :=
    scan_ok _ _ _ N 1 ⟨A.least, A.way, far4, 0⟩ (by show 1 + N ≤ A.least.length; rw [L.least]; omega) (by show 1 + N ≤ A.way.length; rw [L.way]; omega)
  generalize hsS : roundS wo N tk A = s at hs
  have hsl : ∀ k, 1 ≤ k → k ≤ N → ¬ (A.re.set A.at_ true).getD k false = true → s.least.getD k 0 = min (A.least.getD k 0) (A.row.getD (tk.getD A.at_ 0) 0 + A.col.getD k 0 - wo (tk.getD A.at_ 0) k) := fun k h1 h2 h3 => by
    rw [hs.lin k h1 (by omega) (not_re h3), hd k h1 h2]
  obtain ⟨h, hh1, hh2, hh3⟩ := free_home hN m hi
  have hhS : ¬ (A.re.set A.at_ true).getD h false = true := fun x => hSp h x hh3
  have hdel : s.delta ≤ A.row.getD (tk.getD A.at_ 0) 0 := by
    have h1 := hs.dmin h (by omega) (by omega) (not_re hhS)
    rw [hsl h (by omega) hh2 hhS, b.home _ h r1 (by omega) hh1 (by omega)] at h1
    have h2 := g.free h (by omega) hh2 hh3
    (try simp only at h2)
    omega
  obtain ⟨hn1, hn2, hn3, hn4⟩ : 1 ≤ s.next ∧ s.next < 1 + N ∧ (A.re.set A.at_ true).getD s.next false = false ∧ s.delta = s.least.getD s.next 0 := by
    rcases hs.nx with ⟨_, h2⟩ | h2
    · exfalso
      simp only [far4, Wm] at *
      omega
    · exact h2
  have hnS : ¬ (A.re.set A.at_ true).getD s.next false = true := by rw [hn3]; decide
  have hdl0 : 0 ≤ s.delta := by
    have h1 := hd0 s.next hn1 (by omega)
    have h2 := hl0 s.next hn1 (by omega) (fun x => hnS ((hS _).2 (.inl x)))
    rw [hn4, hsl s.next hn1 (by omega) hnS]
    omega
  have hu : UpdOk tk (A.re.set A.at_ true) s.delta 0 (0 + (N + 1)) ⟨A.row, A.col, s.least⟩ (roundU wo N tk A) := by
    rw [roundU, hsS]
    refine upd_ok tk _ s.delta (0 + (N + 1)) (fun k k' h1 h2 h3 h4 h5 => m.pinj k k' (by omega) (by omega) h5 (hSp k h3)) (N + 1) 0 _ (by omega) (fun j hj => ?_) ?_ ?_
    · show _ < A.row.length
      rw [L.row]; have := hpb j (by omega); omega
    · show _ ≤ A.col.length
      rw [L.col]; omega
    · show _ ≤ s.least.length
      rw [hs.ll]; show _ ≤ A.least.length; rw [L.least]; omega
  have hnext : (Go.Sheet.round wo N tk A).at_ = s.next := by show (roundS wo N tk A).next = _; rw [hsS]
  have hway : (Go.Sheet.round wo N tk A).way = s.way := by show (roundS wo N tk A).way = _; rw [hsS]
  have hre : (Go.Sheet.round wo N tk A).re = A.re.set A.at_ true := rfl
  have hrow : (Go.Sheet.round wo N tk A).row = (roundU wo N tk A).row := rfl
  have hcol : (Go.Sheet.round wo N tk A).col = (roundU wo N tk A).col := rfl
  have hlea : (Go.Sheet.round wo N tk A).least = (roundU wo N tk A).least := rfl
  refine ⟨?_, ⟨by rw [hrow, hu.rl]; exact L.row, by rw [hcol, hu.cl]; exact L.col, by rw [hlea, hu.ll]; show s.least.length = _; rw [hs.ll]; exact L.least, by rw [hway, hs.wl]; exact L.way, by rw [hre, List.length_set]; exact L.re⟩⟩
  rw [GL, hnext, hway, hre, hrow, hcol, hlea]
  refine GI.round g m hat (dl := s.delta) hS hdl0 ?_ hn1 (by omega) hnS ?_ ?_ ?_ ?_ ?_ ?_ ?_ ?_
  · intro k h1 h2 h3
    have := hs.dmin k h1 (by omega) (not_re h3)
    rw [hsl k h1 h2 h3] at this
    exact this
  · rw [hn4]; exact hsl _ hn1 (by omega) hnS
  · intro k hk
    have h1 := hSp k hk
    have h2 := hSN k hk
    have h3 := g.unn b hN m hi (j := tk.getD k 0) (by omega) (hpb k h2)
    have h4 := g.ule b m (j := tk.getD k 0) (by omega) (hpb k h2)
    have := hu.rin k (by omega) (by omega) hk
    simp only [Wm] at *
    rw [this]
    show W64 (A.row.getD (tk.getD k 0) 0 - s.delta) = _
    exact W64_in _ (by omega)
  · intro j hj
    exact hu.rout j fun k _ _ hk => hj k hk
  · intro k h1 hk
    have h2 := hSN k hk
    have h3 := g.vnn k h1 h2
    have h4 := g.vle b hN m hi h1 h2
    have := hu.cin k (by omega) (by omega) hk
    simp only [Wm] at *
    rw [this]
    show W64 (A.col.getD k 0 + s.delta) = _
    exact W64_in _ (by omega)
  · intro k h1 h2 h3
    exact hu.cout k (.inr (.inr (not_re h3)))
  · intro k h1 h2 h3
    have := hu.lin k (by omega) (by omega) (not_re h3)
    have h4 := hsl k h1 h2 h3
    have h5 := hd0 k h1 h2
    have h6 := hl0 k h1 h2 (fun x => h3 ((hS _).2 (.inl x)))
    have h7 := g.vle b hN m hi h1 h2
    have h8 := b.lo (tk.getD A.at_ 0) k
    simp only [Wm, Far] at *
    rw [this]
    show W64 (s.least.getD k 0 - s.delta) = _
    rw [h4]
    exact W64_in _ (by omega)
  · intro k h1 h2 h3
    have := hs.win k h1 (by omega) (not_re h3)
    rw [hd k h1 h2] at this
    exact this
  · intro k hk
    exact hs.wout k (.inr (.inr hk))
theorem replicate_getD {α : Type} (n k : Nat) (x d : α) : (List.replicate n x).getD k d = if k < n then x else d := by
  rw [List.getD_eq_getElem?_getD, List.getElem?_replicate]
  split <;> rfl
theorem rep0 (n k : Nat) : (List.replicate n 0).getD k 0 = (0 : Nat) := by rw [replicate_getD]; split <;> rfl
theorem first_round {row col : List Int} {tk0 : List Nat} (h : HInv wo N i (fun k => tk0.getD k 0) (fun j => row.getD j 0) (fun k => col.getD k 0)) (hrl : row.length = 25) (hcl : col.length = 218) (htl : tk0.length = 218)
    (b : Base wo R P) (hN : N = P + R + 1) (hN' : N ≤ 217) (hR : R ≤ 24) (hi : i + 1 ≤ R) :
    GL wo N (i + 1) (tk0.set 0 (i + 1)) (round wo N (tk0.set 0 (i + 1)) (ad0 row col)) (fun _ => 0) 1 ∧ Lens (round wo N (tk0.set 0 (i + 1)) (ad0 row col)) ∧ Mat N (i + 1) (fun k => (tk0.set 0 (i + 1)).getD k 0) := by
  have h0 : (tk0.set 0 (i + 1)).getD 0 0 = i + 1 := by rw [getD_set, if_pos ⟨rfl, by omega⟩]
  have hp : ∀ k, 1 ≤ k → (tk0.set 0 (i + 1)).getD k 0 = tk0.getD k 0 := fun k hk => by rw [getD_set, if_neg (fun h => by omega)]
  have m : Mat N (i + 1) (fun k => (tk0.set 0 (i + 1)).getD k 0) := h.mat h0 hp
  generalize tk0.set 0 (i + 1) = tk at *
  have hS : ∀ k, ((ad0 row col).re.set (ad0 row col).at_ true).getD k false = true ↔ k = 0 := fun k => by
    show ((List.replicate 218 false).set 0 true).getD k false = true ↔ k = 0
    rw [re_set (by rw [List.length_replicate]; decide), replicate_getD]
    split <;> simp
  have hu0 : row.getD (i + 1) 0 = 0 := h.u0 (i + 1) (by omega)
  have hd : ∀ k, 1 ≤ k → k ≤ N → scanD wo row col (i + 1) k = col.getD k 0 - wo (i + 1) k := fun k h1 h2 => by
    have a := h.vnn k h1 h2
    have c := h.vle b hN (by omega) h1 h2
    have d := b.hi (i + 1) k
    have e := b.lo (i + 1) k
    simp only [Wm, Far] at *
    rw [scanD, hu0, W64_two (by omega) (by omega)]
    omega
  have hdlt : ∀ k, 1 ≤ k → k ≤ N → col.getD k 0 - wo (i + 1) k < far4 := fun k h1 h2 => by
    have c := h.vle b hN (by omega) h1 h2
    have e := b.lo (i + 1) k
    simp only [Wm, Far, far4] at *
    omega
  have hs : ScanOk (scanD wo row col (i + 1)) ((ad0 row col).re.set (ad0 row col).at_ true) 0 1 (1 + N) ⟨List.replicate 218 far4, List.replicate 218 0, far4, 0⟩ (roundS wo N tk (ad0 row col)) := by
    have := scan_ok (scanD wo row col (i + 1)) ((ad0 row col).re.set (ad0 row col).at_ true) 0 N 1 ⟨List.replicate 218 far4, List.replicate 218 0, far4, 0⟩ (by show _ ≤ (List.replicate 218 far4).length; rw [List.length_replicate]; omega) (by show _ ≤ (List.replicate 218 0).length; rw [List.length_replicate]; omega)
    rw [roundS]
    show ScanOk _ _ _ _ _ _ (scan (scanD wo row col (tk.getD 0 0)) _ _ _ _ _)
    rw [h0]
    exact this
  generalize hsS : roundS wo N tk (ad0 row col) = s at hs
  have hnr : ∀ k, 1 ≤ k → ((ad0 row col).re.set (ad0 row col).at_ true).getD k false = false := fun k hk => not_re fun x => by have := (hS k).1 x; omega
  have hsl : ∀ k, 1 ≤ k → k ≤ N → s.least.getD k 0 = col.getD k 0 - wo (i + 1) k := fun k h1 h2 => by
    rw [hs.lin k h1 (by omega) (hnr k h1), hd k h1 h2]
    show min ((List.replicate 218 far4).getD k 0) _ = _
    rw [replicate_getD, if_pos (by omega)]
    have := hdlt k h1 h2
    omega
  have hmin : ∀ k, 1 ≤ k → k ≤ N → s.delta ≤ col.getD k 0 - wo (i + 1) k := fun k h1 h2 => by
    have := hs.dmin k h1 (by omega) (hnr k h1)
    rwa [hsl k h1 h2] at this
  obtain ⟨hm, hh1, hh2, hh3⟩ := h.home hN (by omega)
  have hdel : s.delta ≤ 0 := by
    have h1 := hmin hm (by omega) hh2
    rw [b.home (i + 1) hm (by omega) (by omega) hh1 (by omega)] at h1
    have h2 := h.free hm (by omega) hh2 hh3
    (try simp only at h2)
    omega
  obtain ⟨hn1, hn2, hn4⟩ : 1 ≤ s.next ∧ s.next < 1 + N ∧ s.delta = s.least.getD s.next 0 := by
    rcases hs.nx with ⟨_, h2⟩ | h2
    · exfalso
      simp only [far4] at *
      omega
    · exact ⟨h2.1, h2.2.1, h2.2.2.2⟩
  have hnd := hsl s.next hn1 (by omega)
  have hdlb : -Wm ≤ s.delta := by
    have h1 := h.vnn s.next hn1 (by omega)
    have h2 := b.hi (i + 1) s.next
    (try simp only at h1)
    omega
  have hu : UpdOk tk ((ad0 row col).re.set (ad0 row col).at_ true) s.delta 0 (0 + (N + 1)) ⟨row, col, s.least⟩ (roundU wo N tk (ad0 row col)) := by
    rw [roundU, hsS]
    refine upd_ok tk _ s.delta (0 + (N + 1)) (fun k k' h1 h2 h3 h4 h5 => by have := (hS k).1 h3; have := (hS k').1 h4; omega) (N + 1) 0 _ (by omega) (fun j hj => ?_) ?_ ?_
    · show _ < row.length
      rw [hrl]
      by_cases e : j = 0
      · subst e; rw [h0]; omega
      · have := m.ple j (by omega) (by omega); (try simp only at this); omega
    · show _ ≤ col.length
      omega
    · show _ ≤ s.least.length
      rw [hs.ll]; show _ ≤ (List.replicate 218 far4).length; rw [List.length_replicate]; omega
  have hnext : (Go.Sheet.round wo N tk (ad0 row col)).at_ = s.next := by show (roundS wo N tk (ad0 row col)).next = _; rw [hsS]
  have hway : (Go.Sheet.round wo N tk (ad0 row col)).way = s.way := by show (roundS wo N tk (ad0 row col)).way = _; rw [hsS]
  have hre : (Go.Sheet.round wo N tk (ad0 row col)).re = (ad0 row col).re.set (ad0 row col).at_ true := rfl
  have hrow : (Go.Sheet.round wo N tk (ad0 row col)).row = (roundU wo N tk (ad0 row col)).row := rfl
  have hcol : (Go.Sheet.round wo N tk (ad0 row col)).col = (roundU wo N tk (ad0 row col)).col := rfl
  have hlea : (Go.Sheet.round wo N tk (ad0 row col)).least = (roundU wo N tk (ad0 row col)).least := rfl
  refine ⟨?_, ⟨by rw [hrow, hu.rl]; exact hrl, by rw [hcol, hu.cl]; exact hcl, by rw [hlea, hu.ll]; show s.least.length = _; rw [hs.ll]; exact List.length_replicate, by rw [hway, hs.wl]; exact List.length_replicate, by rw [hre, List.length_set]; exact List.length_replicate⟩, m⟩
  have G := h.first (p' := fun k => tk.getD k 0) (u' := fun j => (roundU wo N tk (ad0 row col)).row.getD j 0) (v' := fun k => (roundU wo N tk (ad0 row col)).col.getD k 0) (least' := fun k => (roundU wo N tk (ad0 row col)).least.getD k 0) (way' := fun k => s.way.getD k 0) (next := s.next) (dl := s.delta)
    h0 hp b hmin hn1 (by omega) (by omega) ?_ ?_ ?_ ?_ ?_
  · rw [GL, hnext, hway, hre, hrow, hcol, hlea]
    have e : (fun k => ((ad0 row col).re.set (ad0 row col).at_ true).getD k false = true) = (fun k => k = 0) := by
      funext k; exact propext (hS k)
    rw [e]
    exact G
  · have := hu.rin 0 (by omega) (by omega) ((hS 0).2 rfl)
    rw [h0] at this
    show (roundU wo N tk (ad0 row col)).row.getD (i + 1) 0 = _
    rw [this]
    show W64 (row.getD (i + 1) 0 - s.delta) = _
    rw [hu0]
    simp only [Wm] at *
    rw [W64_in _ (by omega)]
    omega
  · intro j hj
    exact hu.rout j fun k _ _ hk => by
      have := (hS k).1 hk
      subst this
      rw [h0]; omega
  · intro k h1 h2
    exact hu.cout k (.inr (.inr (hnr k h1)))
  · intro k h1 h2
    have := hu.lin k (by omega) (by omega) (hnr k h1)
    show (roundU wo N tk (ad0 row col)).least.getD k 0 = _
    rw [this]
    show W64 (s.least.getD k 0 - s.delta) = _
    have h3 := hdlt k h1 h2
    have h4 := hmin k h1 h2
    rw [hsl k h1 h2]
    simp only [Wm, far4] at *
    exact W64_in _ (by omega)
  · intro k h1 h2
    have := hs.win k h1 (by omega) (hnr k h1)
    show s.way.getD k 0 = 0
    rw [this]
    show (if _ then 0 else (List.replicate 218 0).getD k 0) = 0
    rw [rep0]
    split <;> rfl
/-- how many columns are not reached -/
def cnt (re : List Bool) : Nat → Nat
  | 0 => 0
  | m + 1 => cnt re m + if re.getD m false = true then 0 else 1
theorem cnt_le (re : List Bool) (m : Nat) : cnt re m ≤ m := by
  induction m with
  | zero => exact Nat.le_refl _
  | succ m ih => rw [cnt]; split <;> omega
theorem cnt_pos {re : List Bool} {a : Nat} (h : re.getD a false = false) : ∀ m, a < m → 1 ≤ cnt re m := by
  intro m
  induction m with
  | zero => intro h; omega
  | succ m ih =>
    intro ha
    rw [cnt]
    by_cases e : a = m
    · subst e; rw [h, if_neg (by decide)]; omega
    · have := ih (by omega); omega
theorem cnt_set {re : List Bool} {a : Nat} (hl : a < re.length) (h : re.getD a false = false) : ∀ m, cnt (re.set a true) m = if a < m then cnt re m - 1 else cnt re m := by
  intro m
  induction m with
  | zero => rfl
  | succ m ih =>
    by_cases e : a = m
    · subst e
      have ih' : cnt (re.set a true) a = cnt re a := by rw [ih, if_neg (Nat.lt_irrefl a)]
      rw [cnt, ih', (re_set hl a).2 (.inr rfl), if_pos rfl, if_pos (Nat.lt_succ_self a), cnt, h, if_neg (show ¬ (false = true) by decide)]
      omega
    · have e2 : (re.set a true).getD m false = re.getD m false := by rw [getD_set, if_neg (fun h => e h.1)]
      by_cases h2 : a < m
      · rw [if_pos h2] at ih
        have := cnt_pos h m h2
        rw [cnt, ih, e2, if_pos (show a < m + 1 by omega), cnt]
        omega
      · rw [if_neg h2] at ih
        rw [cnt, ih, e2, if_neg (show ¬ a < m + 1 by omega), cnt]
theorem loop_ok (b : Base wo R P) (hN : N = P + R + 1) (hN' : N ≤ 217) (hR : R ≤ 24) (m : Mat N i (fun k => tk.getD k 0)) (hi : i ≤ R) : ∀ (f : Nat) (A : Ad) (rk : Nat → Nat) (t : Nat),
    cnt A.re (N + 1) ≤ f → t + cnt A.re (N + 1) ≤ N + 1 → GL wo N i tk A rk t → Lens A →
    ∃ A' rk' t', addLoop wo N tk f A = some A' ∧ tk.getD A'.at_ 0 = 0 ∧ t' ≤ N + 1 ∧ GL wo N i tk A' rk' t' ∧ Lens A' := by
  intro f
  induction f with
  | zero =>
    intro A rk t h1 h2 g L
    exact absurd (cnt_pos (not_re g.nat) (N + 1) (by have := g.atN; omega)) (by omega)
  | succ f ih =>
    intro A rk t h1 h2 g L
    rw [addLoop]
    by_cases h0 : tk.getD A.at_ 0 = 0
    · rw [if_pos h0]
      exact ⟨A, rk, t, rfl, h0, by omega, g, L⟩
    · rw [if_neg h0]
      obtain ⟨g', L'⟩ := g.round L b hN hN' hR m hi h0
      have hc := cnt_set (re := A.re) (a := A.at_) (by rw [L.re]; have := g.atN; omega) (not_re g.nat) (N + 1)
      rw [if_pos (by have := g.atN; omega)] at hc
      have hp := cnt_pos (not_re g.nat) (N + 1) (by have := g.atN; omega)
      have hre : (Go.Sheet.round wo N tk A).re = A.re.set A.at_ true := rfl
      exact ih _ _ (t + 1) (by rw [hre, hc]; omega) (by rw [hre, hc]; omega) g' L'
/-- while the way back is gone: the column c has no row yet -/
structure Bk (wo : Nat → Nat → Int) (N i : Nat) (u v : Nat → Int) (q : Nat → Nat) (c : Nat) : Prop where
  cN : c ≤ N
  le : ∀ k, k ≤ N → k ≠ c → q k ≤ i
  inj : ∀ k k', k ≤ N → k' ≤ N → k ≠ c → k' ≠ c → q k = q k' → q k ≠ 0 → k = k'
  surj : ∀ j, 1 ≤ j → j ≤ i → ∃ k, k ≤ N ∧ k ≠ c ∧ q k = j
  tight : ∀ k, 1 ≤ k → k ≤ N → k ≠ c → q k ≠ 0 → u (q k) + v k = wo (q k) k
  free : ∀ k, 1 ≤ k → k ≤ N → k ≠ c → q k = 0 → v k = 0
theorem Bk.step {u v : Nat → Int} {q q' : Nat → Nat} {c d : Nat} (h : Bk wo N i u v q c) (hc : 1 ≤ c) (hd : d ≤ N) (hdc : d ≠ c) (hq : q' c = q d) (hq' : ∀ k, k ≠ c → q' k = q k) (h0 : q d ≠ 0) (ht : u (q d) + v c = wo (q d) c) : Bk wo N i u v q' d where
  cN := hd
  le k a b := by
    by_cases e : k = c
    · subst e; rw [hq]; exact h.le d hd hdc
    · rw [hq' k e]; exact h.le k a e
  inj k k' a b e1 e2 e n := by
    by_cases f : k = c <;> by_cases f' : k' = c
    · omega
    · subst f
      rw [hq, hq' k' f'] at e
      have := h.inj d k' hd b hdc f' e h0
      omega
    · subst f'
      rw [hq, hq' k f] at e
      have := h.inj d k hd a hdc f e.symm h0
      omega
    · rw [hq' k f, hq' k' f'] at e
      rw [hq' k f] at n
      exact h.inj k k' a b f f' e n
  surj j a b := by
    obtain ⟨k, x, y, z⟩ := h.surj j a b
    by_cases e : k = d
    · subst e; exact ⟨c, h.cN, Ne.symm hdc, hq.trans z⟩
    · exact ⟨k, x, e, (hq' k y).trans z⟩
  tight k a b e n := by
    by_cases f : k = c
    · subst f; rw [hq]; exact ht
    · rw [hq' k f] at n ⊢; exact h.tight k a b f n
  free k a b e n := by
    by_cases f : k = c
    · subst f; rw [hq] at n; exact absurd n h0
    · rw [hq' k f] at n; exact h.free k a b f n
theorem back_ok {u v : Nat → Int} {p : Nat → Nat} {S : Nat → Prop} {way : List Nat} {rk : Nat → Nat} (hN' : N ≤ 217) (sN : ∀ k, S k → k ≤ N) (sp : ∀ k, S k → p k ≠ 0)
    (tree : ∀ k, S k → k ≠ 0 → S (way.getD k 0) ∧ u (p (way.getD k 0)) + v k = wo (p (way.getD k 0)) k ∧ rk (way.getD k 0) < rk k) : ∀ (f : Nat) (q : List Nat) (c ρ : Nat), ρ ≤ f → q.length = 218 → Bk wo N i u v (fun k => q.getD k 0) c →
    (∀ k, S k → rk k < ρ → q.getD k 0 = p k) → (c = 0 ∨ S (way.getD c 0) ∧ u (p (way.getD c 0)) + v c = wo (p (way.getD c 0)) c ∧ rk (way.getD c 0) < ρ ∧ way.getD c 0 ≠ c) →
    ∃ q', back way f q c = some q' ∧ q'.length = 218 ∧ Bk wo N i u v (fun k => q'.getD k 0) 0 := by
  intro f
  induction f with
  | zero =>
    intro q c ρ hρ hl hb _ hc
    rcases hc with rfl | hc
    · exact ⟨q, by rw [back, if_pos rfl], hl, hb⟩
    · omega
  | succ f ih =>
    intro q c ρ hρ hl hb hag hc
    rw [back]
    by_cases h0 : c = 0
    · subst h0
      exact ⟨q, by rw [if_pos rfl], hl, hb⟩
    · rw [if_neg h0]
      obtain ⟨c1, c2, c3, c4⟩ := hc.resolve_left h0
      have hq := hag _ c1 c3
      have hcl : c < q.length := by have := hb.cN; omega
      refine ih _ (way.getD c 0) (rk (way.getD c 0)) (by omega) (by rw [List.length_set]; exact hl) (hb.step (by omega) (sN _ c1) c4 ?_ ?_ ?_ ?_) ?_ ?_
      · show (q.set c _).getD c 0 = q.getD _ 0
        rw [getD_set, if_pos ⟨rfl, hcl⟩]
      · intro k hk
        show (q.set c _).getD k 0 = q.getD k 0
        rw [getD_set, if_neg (fun h => hk h.1.symm)]
      · show q.getD _ 0 ≠ 0
        rw [hq]; exact sp _ c1
      · show u (q.getD _ 0) + v c = wo (q.getD _ 0) c
        rw [hq]; exact c2
      · intro k hk hr
        have : k ≠ c := fun e => by
          subst e
          have := (tree k hk h0).2.2
          omega
        rw [getD_set, if_neg (fun h => this h.1.symm)]
        exact hag k hk (by omega)
      · by_cases e : way.getD c 0 = 0
        · exact .inl e
        · obtain ⟨x, y, z⟩ := tree _ c1 e
          exact .inr ⟨x, y, z, fun h => by rw [h] at z; omega⟩
end
structure MLens (M : Mt) : Prop where
  row : M.row.length = 25
  col : M.col.length = 218
  taken : M.taken.length = 218
def HM (M : Mt) (i : Nat) : Prop := HInv M.worth M.n i (fun k => M.taken.getD k 0) (fun j => M.row.getD j 0) (fun k => M.col.getD k 0)
theorem addLoop_succ {wo : Nat → Nat → Int} {n : Nat} {tk : List Nat} {f : Nat} {A : Ad} (h : tk.getD A.at_ 0 ≠ 0) : addLoop wo n tk (f + 1) A = addLoop wo n tk f (round wo n tk A) := by
  rw [addLoop, if_neg h]
theorem add_ok {M : Mt} {i R P : Nat} (h : HM M i) (L : MLens M) (b : Base M.worth R P) (hN : M.n = P + R + 1) (hN' : M.n ≤ 217) (hR : R ≤ 24) (hi : i + 1 ≤ R) :
    ∃ M', add M (i + 1) = some M' ∧ HM M' (i + 1) ∧ MLens M' ∧ M'.worth = M.worth ∧ M'.slot = M.slot ∧ M'.rows = M.rows ∧ M'.n = M.n := by
  obtain ⟨g1, L1, m⟩ := first_round h L.row L.col L.taken b hN hN' hR hi
  have h0 : (M.taken.set 0 (i + 1)).getD 0 0 = i + 1 := by rw [getD_set, if_pos ⟨rfl, by rw [L.taken]; omega⟩]
  have htl : (M.taken.set 0 (i + 1)).length = 218 := by rw [List.length_set]; exact L.taken
  rw [add]
  generalize M.taken.set 0 (i + 1) = tk at *
  have hc0 : cnt (round M.worth M.n tk (ad0 M.row M.col)).re (M.n + 1) ≤ M.n := by
    show cnt ((List.replicate 218 false).set 0 true) (M.n + 1) ≤ M.n
    rw [cnt_set (by rw [List.length_replicate]; decide) (by rw [replicate_getD, if_pos (by decide)]), if_pos (by omega)]
    have := cnt_le (List.replicate 218 false) (M.n + 1)
    omega
  obtain ⟨A', rk', t', e1, e2, e3, g, L'⟩ := loop_ok b hN hN' hR m hi M.n _ _ 1 hc0 (by omega) g1 L1
  rw [addLoop_succ (show tk.getD (ad0 M.row M.col).at_ 0 ≠ 0 by show tk.getD 0 0 ≠ 0; rw [h0]; omega), e1]
  obtain ⟨a1, a2⟩ := g.lat A'.at_ g.at1 g.atN g.nat
  have hb0 : Bk M.worth M.n (i + 1) (fun j => A'.row.getD j 0) (fun k => A'.col.getD k 0) (fun k => tk.getD k 0) A'.at_ := by
    refine ⟨g.atN, fun k a _ => ?_, fun k k' a a' _ _ e n => m.pinj k k' a a' e n, fun j a c => ?_, fun k a c _ n => g.tight k a c n, fun k a c _ n => g.free k a c n⟩
    · by_cases e : k = 0
      · subst e; exact Nat.le_of_eq m.p0
      · exact Nat.le_of_lt (m.ple k (by omega) a)
    · by_cases e : j = i + 1
      · subst e; exact ⟨0, Nat.zero_le _, fun h => by have := g.at1; omega, m.p0⟩
      · obtain ⟨k, x, y, z⟩ := m.psurj j a (by omega)
        exact ⟨k, y, fun h => by rw [h, e2] at z; omega, z⟩
  obtain ⟨q', f1, f2, f3⟩ := back_ok (p := fun k => tk.getD k 0) (S := fun k => A'.re.getD k false = true) (way := A'.way) (rk := rk') hN' g.sN g.sp g.tree (M.n + 1) tk A'.at_ t' e3 htl hb0 (fun _ _ _ => rfl)
    (.inr ⟨a1, by have := g.l0; omega, g.rkt _ a1, fun e => g.nat (by have a1' := a1; rw [e] at a1'; exact a1')⟩)
  refine ⟨{ M with row := A'.row, col := A'.col, taken := q' }, by simp only; rw [f1], ?_, ⟨L'.row, L'.col, f2⟩, rfl, rfl, rfl, rfl⟩
  refine ⟨fun k a c => f3.le k c (by omega), fun k k' a a' c c' e n => f3.inj k k' c c' (by omega) (by omega) e n, fun j a c => ?_, g.feas, fun k a c n => f3.tight k a c (by omega) n, g.vnn, fun k a c n => f3.free k a c (by omega) n, g.u0⟩
  obtain ⟨k, x, y, z⟩ := f3.surj j a c
  exact ⟨k, by omega, x, z⟩
end Go.Sheet
/- Walks: wish, CheckAssignment. -/
namespace Go.Proofs.YtlffgdmljioaoaaGreatDoor
open Go.RowKit Go.Mem Go.Sheet
set_option maxRecDepth 100000 in
set_option maxHeartbeats 400000 in
theorem wish1_any (W : World) (y : Wish) (g : Nat) (s : Int) (hv : W.cell? ⟨g, 0, none⟩ = some (.int .i64 s)) :
    Calls Tryz.prog 133 #[y.val, .pointer (some ⟨g, 0, none⟩)] W fun e w' => e = .returned (.bool (y.s == s)) ∧ Below W.heap.size W w' := by
  have hgW : g < W.heap.size := World.block_lt_of_cell? W _ hv
  have hb := (Below.refl W.heap.size W).alloc (Nat.le_refl _) (.cells #[.int .i64 y.s, .int .i64 y.w] 122)
  go_enter Tryz.func133, Tryz.ntmps133
  go_wp2
  go_ret
  exact ⟨rfl, hb⟩
set_option maxRecDepth 100000 in
set_option maxHeartbeats 1000000 in
theorem wish_no (W : World) (x : Req) (s : Int) (h : Rd W (· < W.heap.size) 2 x.wv x.wn (x.ws.flatMap Wish.cells)) (hf : x.ws.find? (fun y => y.s == s) = none) :
    Calls Tryz.prog 86 #[x.val, .int .i64 s] W fun e w' => e = .returned (.tuple #[.agg #[.int .i64 0, .int .i64 0], .bool false]) ∧ Below W.heap.size W w' := by
  have S := (((St.refl W).blk_new #[.string x.name, .bool x.g, .slice x.wa x.wn x.wc] 73).blk_new #[.int .i64 s] 3).blk_new #[.int .i64 0, .int .i64 0] 122
  simp only [World.size_alloc, List.nil_append, List.cons_append] at S
  have d2 := S.blk_cell (i := 0) rfl 2
  have d1 := S.blk_cell (i := 1) rfl 0
  have h1 := h.later S.bel
  clear h
  go_enter Tryz.func86, Tryz.ntmps86
  go_wp2_with fail
  generalize (((W.alloc (.cells #[.string x.name, .bool x.g, .slice x.wa x.wn x.wc] 73)).alloc (.cells #[.int .i64 s] 3)).alloc (.cells #[.int .i64 0, .int .i64 0] 122)) = w1 at *
  have hg := (S.blk_at (i := 1) rfl).2.1
  have hC : ∀ (k : Nat) (y : Wish) (w : World), x.ws[k]? = some y → Below w1.heap.size w1 w → Calls Tryz.prog 133 (#[y.val] ++ #[.pointer (some ⟨W.heap.size + 1, 0, none⟩)]) w fun e w' => e = .returned (.bool (y.s == s)) ∧ Below w.heap.size w w' := by
    intro k y w _ hbw
    exact wish1_any w y (W.heap.size + 1) s ((hbw.cell (p := ⟨W.heap.size + 1, 0, none⟩) hg).trans d1)
  have hE := enters Tryz.func133 (by kernel_rfl) rfl
  refine (idx_Wish_pure w1 (.slice x.wa x.wn x.wc) x.wn x.ws 133 hE #[.pointer (some ⟨W.heap.size + 1, 0, none⟩)] (fun y => y.s == s) h1 hC).mono ?_
  clear hC hE d1 d2 hg
  rintro e w2 ⟨rfl, hb2⟩
  have S2 := S.ext hb2
  have h2 := h1.later hb2
  have d2 := S2.blk_cell (i := 0) rfl 2
  have d3 := S2.blk_cell (i := 2) rfl 0
  have d4 := S2.blk_cell (i := 2) rfl 1
  have z3 := S2.blk_frozen (i := 2) rfl 0
  have z4 := S2.blk_frozen (i := 2) rfl 1
  clear S h1 hb2
  have HI := Lib.hid (idxF_none _ _ hf 0)
  rw [HI.out]
  have S3 := (S2.blk_set (i := 2) rfl 0 (.int .i64 0)).blk_set (i := 2) rfl 1 (.int .i64 0)
  have c0 := S3.blk_cell (i := 2) rfl 0
  have c1 := S3.blk_cell (i := 2) rfl 1
  have hb := S3.bel
  clear hf HI
  go_wp2
  refine bodyPost_ret (v := .tuple #[.agg #[.int .i64 0, .int .i64 0], .bool false]) (by simp [results, Tryz.results86, go_sem, c0, c1]) rfl ⟨rfl, hb⟩
set_option maxRecDepth 100000 in
set_option maxHeartbeats 1000000 in
theorem wish_yes (W : World) (x : Req) (s : Int) (y : Wish) (h : Rd W (· < W.heap.size) 2 x.wv x.wn (x.ws.flatMap Wish.cells)) (hf : x.ws.find? (fun y => y.s == s) = some y) :
    Calls Tryz.prog 86 #[x.val, .int .i64 s] W fun e w' => e = .returned (.tuple #[y.val, .bool true]) ∧ Below W.heap.size W w' := by
  have S := (((St.refl W).blk_new #[.string x.name, .bool x.g, .slice x.wa x.wn x.wc] 73).blk_new #[.int .i64 s] 3).blk_new #[.int .i64 0, .int .i64 0] 122
  simp only [World.size_alloc, List.nil_append, List.cons_append] at S
  have d2 := S.blk_cell (i := 0) rfl 2
  have d1 := S.blk_cell (i := 1) rfl 0
  have h1 := h.later S.bel
  clear h
  go_enter Tryz.func86, Tryz.ntmps86
  go_wp2_with fail
  generalize (((W.alloc (.cells #[.string x.name, .bool x.g, .slice x.wa x.wn x.wc] 73)).alloc (.cells #[.int .i64 s] 3)).alloc (.cells #[.int .i64 0, .int .i64 0] 122)) = w1 at *
  have hg := (S.blk_at (i := 1) rfl).2.1
  have hC : ∀ (k : Nat) (y : Wish) (w : World), x.ws[k]? = some y → Below w1.heap.size w1 w → Calls Tryz.prog 133 (#[y.val] ++ #[.pointer (some ⟨W.heap.size + 1, 0, none⟩)]) w fun e w' => e = .returned (.bool (y.s == s)) ∧ Below w.heap.size w w' := by
    intro k y w _ hbw
    exact wish1_any w y (W.heap.size + 1) s ((hbw.cell (p := ⟨W.heap.size + 1, 0, none⟩) hg).trans d1)
  have hE := enters Tryz.func133 (by kernel_rfl) rfl
  refine (idx_Wish_pure w1 (.slice x.wa x.wn x.wc) x.wn x.ws 133 hE #[.pointer (some ⟨W.heap.size + 1, 0, none⟩)] (fun y => y.s == s) h1 hC).mono ?_
  clear hC hE d1 d2 hg
  rintro e w2 ⟨rfl, hb2⟩
  have S2 := S.ext hb2
  have h2 := h1.later hb2
  have d2 := S2.blk_cell (i := 0) rfl 2
  have d3 := S2.blk_cell (i := 2) rfl 0
  have d4 := S2.blk_cell (i := 2) rfl 1
  have z3 := S2.blk_frozen (i := 2) rfl 0
  have z4 := S2.blk_frozen (i := 2) rfl 1
  clear S h1 hb2
  obtain ⟨j, HI, hj⟩ := idxF_some _ _ _ hf 0
  rw [HI]
  have hl := h2.count (f := Wish.cells) (size := 2) (fun _ => rfl) (by decide)
  have hjn : j < x.wn := by rw [hl]; exact (List.getElem?_eq_some_iff.1 hj).1
  have hn := h2.le
  obtain ⟨b, o, y', hA, hy', c0, c1⟩ := h2.elem2 (k := j) (fun s : Wish => .int .i64 s.s) (fun s : Wish => .int .i64 s.w) (fun _ => rfl) hjn
  obtain rfl : y' = y := by rw [hj] at hy'; exact (Option.some.inj hy').symm
  rw [hA] at d2
  simp only [Nat.zero_add]
  have S3 := (S2.blk_set (i := 2) rfl 0 (.int .i64 y'.s)).blk_set (i := 2) rfl 1 (.int .i64 y'.w)
  have e0 := S3.blk_cell (i := 2) rfl 0
  have e1 := S3.blk_cell (i := 2) rfl 1
  have hb := S3.bel
  clear hf HI hl hj hy' h2 hA
  go_wp2
  refine bodyPost_ret (v := .tuple #[y'.val, .bool true]) (by simp [results, Tryz.results86, go_sem, e0, e1]) rfl ⟨rfl, hb⟩
/-- what CheckAssignment holds while it goes through the entries -/
def caL (gr gv gk gt n c nl : Nat) (A : Option Addr) (val : Int) (ts : List Int) : List Asr :=
  [blk gr 60 #[.slice A n c], blk gv 3 #[.int .i64 val], row 3 1 (.slice (some ⟨gk, 0, none⟩) nl nl) nl (ts.map (Value.int .i64)), blk gt 23 #[.slice (some ⟨gk, 0, none⟩) nl nl]]
set_option maxRecDepth 100000 in
set_option maxHeartbeats 1000000 in
theorem ca1_home (W0 w : World) (gr gv gk gt n c nl i : Nat) (A : Option Addr) (val : Int) (ts : List Int) (rs : List Req) (x : Req) (hx : rs[i]? = some x)
    (S : St W0 w (caL gr gv gk gt n c nl A val ts)) (h : RdReqs W0 (· < W0.heap.size) (.slice A n c) n rs) :
    Calls Tryz.prog 131 #[.int .i64 i, .int .i64 (-1), .pointer (some ⟨gr, 0, none⟩), .pointer (some ⟨gt, 0, none⟩), .pointer (some ⟨gv, 0, none⟩)] w fun e w' =>
      e = .returned (.int .i64 (whenE x.g 23)) ∧ w = w' := by
  have hin : i < n := by rw [h.1.count (f := Req.cells) (size := 3) (fun _ => rfl) (by decide)]; exact (List.getElem?_eq_some_iff.1 hx).1
  have hn := h.1.le
  obtain ⟨b, o, x', rfl, hx', c0, c1, c2⟩ := (h.1.below S.bel).elem3 (k := i) (fun s : Req => .string s.name) (fun s : Req => .bool s.g) (fun s : Req => .slice s.wa s.wn s.wc) (fun _ => rfl) hin
  obtain rfl : x' = x := by rw [hx] at hx'; exact (Option.some.inj hx').symm
  have d0 := S.blk_cell (i := 0) rfl 0
  clear hx hx' h c0 c2 S
  go_enter Tryz.func131, Tryz.ntmps131
  go_wp2_with (go_at_call 53; refine (when_any _ _ _).mono ?_; rintro e w' ⟨rfl, rfl⟩)
  go_ret
  exact ⟨rfl, rfl⟩
set_option maxRecDepth 100000 in
set_option maxHeartbeats 1000000 in
theorem ca1_no (W0 w : World) (gr gv gk gt n c nl i : Nat) (A : Option Addr) (val s : Int) (ts : List Int) (rs : List Req) (x : Req) (hx : rs[i]? = some x)
    (S : St W0 w (caL gr gv gk gt n c nl A val ts)) (h : RdReqs W0 (· < W0.heap.size) (.slice A n c) n rs) (hs : (s == -1) = false) (hf : x.ws.find? (fun y => y.s == s) = none) :
    Calls Tryz.prog 131 #[.int .i64 i, .int .i64 s, .pointer (some ⟨gr, 0, none⟩), .pointer (some ⟨gt, 0, none⟩), .pointer (some ⟨gv, 0, none⟩)] w fun e w' =>
      e = .returned (.int .i64 10) ∧ Below w.heap.size w w' := by
  have hin : i < n := by rw [h.1.count (f := Req.cells) (size := 3) (fun _ => rfl) (by decide)]; exact (List.getElem?_eq_some_iff.1 hx).1
  have hn := h.1.le
  obtain ⟨b, o, x', rfl, hx', c0, c1, c2⟩ := (h.1.below S.bel).elem3 (k := i) (fun s : Req => .string s.name) (fun s : Req => .bool s.g) (fun s : Req => .slice s.wa s.wn s.wc) (fun _ => rfl) hin
  obtain rfl : x' = x := by rw [hx] at hx'; exact (Option.some.inj hx').symm
  have d0 := S.blk_cell (i := 0) rfl 0
  have hr : Rd w (· < w.heap.size) 2 x'.wv x'.wn (x'.ws.flatMap Wish.cells) := ((h.2 x' (List.mem_of_getElem? hx)).1.below S.bel).now
  have HC := Lib.hid (wish_no w x' s hr hf)
  clear hx hx' h S hr hf
  go_enter Tryz.func131, Tryz.ntmps131
  go_wp2_with fail
  refine HC.out.mono ?_
  rintro e w2 ⟨rfl, hb⟩
  go_wp2
  go_ret
  exact ⟨rfl, hb.alloc hb.size _⟩
set_option maxRecDepth 100000 in
set_option maxHeartbeats 2000000 in
theorem ca1_yes (W0 w : World) (gr gv gk gt n c nl i j : Nat) (A : Option Addr) (val t : Int) (ts : List Int) (rs : List Req) (x : Req) (y : Wish) (hx : rs[i]? = some x)
    (S : St W0 w (caL gr gv gk gt n c nl A val ts)) (h : RdReqs W0 (· < W0.heap.size) (.slice A n c) n rs) (hf : x.ws.find? (fun y => y.s == (j : Int)) = some y)
    (hj : j < nl) (ht : ts[j]? = some t) (hv : 0 ≤ val ∧ val ≤ 1000000) (hy : 0 ≤ y.w ∧ y.w ≤ 1000000) (htb : 0 ≤ t ∧ t ≤ 1000000) :
    Calls Tryz.prog 131 #[.int .i64 i, .int .i64 j, .pointer (some ⟨gr, 0, none⟩), .pointer (some ⟨gt, 0, none⟩), .pointer (some ⟨gv, 0, none⟩)] w fun e w' =>
      e = .returned (.int .i64 0) ∧ St W0 w' (caL gr gv gk gt n c nl A (val + y.w) (ts.set j (t + 1))) := by
  have hin : i < n := by rw [h.1.count (f := Req.cells) (size := 3) (fun _ => rfl) (by decide)]; exact (List.getElem?_eq_some_iff.1 hx).1
  have hn := h.1.le
  obtain ⟨b, o, x', rfl, hx', c0, c1, c2⟩ := (h.1.below S.bel).elem3 (k := i) (fun s : Req => .string s.name) (fun s : Req => .bool s.g) (fun s : Req => .slice s.wa s.wn s.wc) (fun _ => rfl) hin
  obtain rfl : x' = x := by rw [hx] at hx'; exact (Option.some.inj hx').symm
  have d0 := S.blk_cell (i := 0) rfl 0
  have hr : Rd w (· < w.heap.size) 2 x'.wv x'.wn (x'.ws.flatMap Wish.cells) := ((h.2 x' (List.mem_of_getElem? hx)).1.below S.bel).now
  have HC := Lib.hid (wish_yes w x' j y hr hf)
  have hsj : ((j : Int) == -1) = false := by simp
  clear hx hx' h hr hf
  go_enter Tryz.func131, Tryz.ntmps131
  go_wp2_with fail
  refine HC.out.mono ?_
  rintro e w2 ⟨rfl, hb⟩
  have S2 := (S.ext hb).blk_new #[.int .i64 y.s, .int .i64 y.w] 122
  unfold caL at S2
  simp only [List.cons_append, List.nil_append] at S2
  clear S hb c0 c1 c2 d0 HC
  have e0 := S2.blk_cell (i := 3) rfl 0
  have e1 := (S2.row_own (i := 2) rfl).cellAt j (by omega)
  have e1f := (S2.row_own (i := 2) rfl).frozenAt j
  have e2 := S2.blk_cell (i := 1) rfl 0
  have e2f := S2.blk_frozen (i := 1) rfl 0
  rw [List.getElem?_map, ht] at e1
  have S3 := S2.row_set (i := 2) rfl j (.int .i64 (t + 1))
  have f2 := S3.blk_cell (i := 1) rfl 0
  have f2f := S3.blk_frozen (i := 1) rfl 0
  have f3 := S3.blk_cell (i := 4) rfl 1
  have S4 := S3.blk_set (i := 1) rfl 0 (.int .i64 (val + y.w))
  simp only [List.set_cons_zero, List.set_cons_succ, List.setIfInBounds_toArray] at S4
  have S5 := S4.sub (L' := caL gr gv gk gt n c nl (some ⟨b, o, none⟩) (val + y.w) (ts.set j (t + 1))) (by
    rw [caL, List.map_set]
    exact .cons_cons _ (.cons_cons _ (.cons_cons _ (.cons_cons _ (.cons _ .slnil)))))
  have HS := Lib.hid S5
  have h2 : ts.length = nl := by have := (S2.row_own (i := 2) rfl).1; simpa using this
  clear S2 S3 S4 S5 ht h2
  go_wp2
  go_ret
  exact ⟨rfl, HS.out⟩
end Go.Proofs.YtlffgdmljioaoaaGreatDoor
/- Walks: the iterator over wishes. -/
namespace Go.Sheet
/-- all wishes with the numbers of their requests -/
def wl : Nat → List Req → List (Nat × Wish)
  | _, [] => []
  | k, x :: rs => x.ws.map (fun w => (k, w)) ++ wl (k + 1) rs
theorem wl_append (a b : List Req) : ∀ k, wl k (a ++ b) = wl k a ++ wl (k + a.length) b := by
  induction a with
  | nil => intro k; rfl
  | cons x a ih => intro k; rw [List.cons_append, wl, wl, ih, List.append_assoc, List.length_cons, show k + 1 + a.length = k + (a.length + 1) by omega]
theorem wl_succ {rs : List Req} {k : Nat} {x : Req} (h : rs[k]? = some x) : wl 0 (rs.take (k + 1)) = wl 0 (rs.take k) ++ x.ws.map (fun w => (k, w)) := by
  have hk := (List.getElem?_eq_some_iff.1 h).1
  rw [take_at h, wl_append, wl, wl, List.append_nil, List.length_take, Nat.zero_add, Nat.min_eq_left (by omega)]
theorem wl_split {rs : List Req} {k j : Nat} {x : Req} {y : Wish} (h : rs[k]? = some x) (hj : x.ws[j]? = some y) :
    (wl 0 (rs.take k) ++ (x.ws.take j).map (fun w => (k, w))).length < (wl 0 rs).length := by
  have hk := (List.getElem?_eq_some_iff.1 h).1
  have hj' := (List.getElem?_eq_some_iff.1 hj).1
  have e : wl 0 rs = wl 0 (rs.take (k + 1)) ++ wl (0 + (rs.take (k + 1)).length) (rs.drop (k + 1)) := by rw [← wl_append, List.take_append_drop]
  rw [e, wl_succ h]
  simp only [List.length_append, List.length_map, List.length_take]
  omega
/-- a wish of one of the requests -/
def IsW (rs : List Req) (p : Nat × Wish) : Prop := ∃ x, rs[p.1]? = some x ∧ p.2 ∈ x.ws
end Go.Sheet
namespace Go.Proofs.YtlffgdmljioaoaaGreatDoor
open Go.RowKit Go.Mem Go.Sheet Go.Shelf
attribute [local go_sem] Oper.semAt_some
set_option maxRecDepth 100000 in
set_option maxHeartbeats 2000000 in
theorem wishes1_stops (m : Nat) (hm : 1 ≤ m) (w : World) (Bs n₀ n c : Nat) (A : Option Addr) (rs : List Req) (hBs : w.cell? ⟨Bs, 0, none⟩ = some (.slice A n c)) (h : RdReqs w (· < n₀) (.slice A n c) n rs) (hn₀ : n₀ ≤ w.heap.size) :
    SeqStopsK Fence.wide m Tryz.prog 136 #[.pointer (some ⟨Bs, 0, none⟩)] (fun p : { p : Nat × Wish // IsW rs p } => #[.int .i64 p.1.1, p.1.2.val]) (Below n₀)
      (fun xs => xs.map (·.1) = wl 0 rs) (fun _ => True) (wl 0 rs).length w := by
  intro l J Jx W hW hJ hJx hY h0
  have HN := Lib.hid (h.1.count (f := Req.cells) (size := 3) (fun _ => rfl) (by decide))
  have bn := h.1.le
  have hBs' : Bs < w.heap.size := World.block_lt_of_cell? w _ hBs
  have hc := (hW.cell (p := ⟨Bs, 0, none⟩) hBs').trans hBs
  have hb0 : Below n₀ w W := hW.mono hn₀
  have hr : RdReqs W (· < n₀) (.slice A n c) n rs := ⟨h.1.below hb0, fun r hr => ⟨(h.2 r hr).1.below hb0, (h.2 r hr).2⟩⟩
  have hnW : n₀ ≤ W.heap.size := by have := hW.size; omega
  clear h hBs hW hb0 hBs'
  refine callsIn_of_wp Tryz.func136 rfl trivial ?_ rfl
  simp only [Tryz.ntmps136, List.size_toArray, List.length_cons, List.length_nil, Nat.reduceAdd, Nat.reduceSub, Array.replicate_succ, Array.replicate_zero, List.push_toArray, List.append_toArray, List.nil_append, List.cons_append]
  gi_wp2
  gi_loopw [9] (fun i wr => ∃ (k : Nat) (pre : List { p : Nat × Wish // IsW rs p }), k ≤ n ∧ i = .int .i64 k ∧ pre.map (·.1) = wl 0 (rs.take k) ∧ J pre wr ∧ Below n₀ W wr) (fun i _ => n - (intOf i).toNat)
  case atStart => exact ⟨0, [], Nat.zero_le _, rfl, rfl, h0, Below.refl _ _⟩
  case round =>
    obtain ⟨k, pre, hk, rfl, hpre, hJs, hnx⟩ := hrel
    have HP := Lib.hid hpre
    clear hpre hc
    by_cases hlt : k < n
    · obtain ⟨b, o, x, rfl, hx, c0, c1, c2⟩ := (hr.1.below hnx).elem3 (k := k) (fun s : Req => .string s.name) (fun s : Req => .bool s.g) (fun s : Req => .slice s.wa s.wn s.wc) (fun _ => rfl) hlt
      have hrx := (hr.2 x (List.mem_of_getElem? hx)).1
      have HX := Lib.hid hx
      have HNW := Lib.hid (hrx.count (f := Wish.cells) (size := 2) (fun _ => rfl) (by decide))
      have bw := hrx.le
      have hJ1 : J pre (wr.alloc (.cells #[.string x.name, .bool x.g, .slice x.wa x.wn x.wc] 73)) := hJ _ _ _ none hJs (World.grownBy_alloc _ _ _) (fun r e => by cases e)
      have hnr : n₀ ≤ wr.heap.size := by have := hnx.size; omega
      have hn1 := hnx.alloc hnr (.cells #[.string x.name, .bool x.g, .slice x.wa x.wn x.wc] 73)
      have hn2 : n₀ ≤ (wr.alloc (.cells #[.string x.name, .bool x.g, .slice x.wa x.wn x.wc] 73)).heap.size := by simp; omega
      clear hx
      gi_wp2
      obtain ⟨wo, rfl⟩ : ∃ wo : World, wo = wr := ⟨_, rfl⟩
      generalize wo.alloc (.cells #[.string x.name, .bool x.g, .slice x.wa x.wn x.wc] 73) = w1 at *
      clear c0 c1 c2 hJs hnx
      gi_loopw [17] (fun i wr => ∃ (j : Nat) (pre : List { p : Nat × Wish // IsW rs p }), j ≤ x.wn ∧ i = .int .i64 j ∧ pre.map (·.1) = wl 0 (rs.take k) ++ (x.ws.take j).map (fun w => (k, w)) ∧ J pre wr ∧ Below n₀ W wr) (fun i _ => x.wn - (intOf i).toNat)
      case atStart => exact ⟨0, pre, Nat.zero_le _, rfl, by rw [HP.out]; simp, hJ1, hn1⟩
      case round =>
        obtain ⟨j, pre2, hj, rfl, hpre2, hJ2, hnx⟩ := hrel
        have HP2 := Lib.hid hpre2
        clear hpre2 hJ1 hn1 hn2
        by_cases hlt2 : j < x.wn
        · obtain ⟨b2, o2, y, hA2, hy, d0, d1⟩ := (hrx.below hnx).elem2 (k := j) (fun s : Wish => .int .i64 s.s) (fun s : Wish => .int .i64 s.w) (fun _ => rfl) hlt2
          have HY := Lib.hid hy
          have HA2 := Lib.hid hA2
          have hJ3 : J pre2 (wr.alloc (.cells #[.int .i64 y.s, .int .i64 y.w] 122)) := hJ _ _ _ none hJ2 (World.grownBy_alloc _ _ _) (fun r e => by cases e)
          have hnr2 : n₀ ≤ wr.heap.size := by have := hnx.size; omega
          have HB := Lib.hid (hnx.alloc hnr2 (.cells #[.int .i64 y.s, .int .i64 y.w] 122))
          have hlen : pre2.length < (wl 0 rs).length := by
            have e := congrArg List.length HP2.out
            rw [List.length_map] at e
            rw [e]
            exact wl_split HX.out hy
          obtain ⟨p, hp⟩ : ∃ p : { p : Nat × Wish // IsW rs p }, p.1 = (k, y) := ⟨⟨(k, y), x, HX.out, List.mem_of_getElem? hy⟩, rfl⟩
          obtain ⟨fn, tmps, assign, body, hyy, hR⟩ := hY pre2 p _ hJ3 hlen
          rw [hp] at hyy
          have HPV := Lib.hid hp
          dsimp only at hyy
          rw [hA2]
          clear hy hA2 hJ3 hnx hlen hp
          gi_wp2
          refine hR.mono ?_
          rintro e W3 (⟨rfl, hJ4, hk3⟩ | ⟨rfl, hJx4⟩)
          · gi_wp2
            go_roundw
            case rel => exact ⟨j + 1, pre2 ++ [p], by omega, by go_num, by rw [List.map_append, HP2.out, take_at HY.out]; simp [HPV.out], hJ4, HB.out.trans hk3⟩
            case measure => simp [intOf]; omega
          · gi_wp2
            refine bodyPost_ret (results_none rfl _ _ _) rfl ?_
            exact ⟨⟨_, rfl⟩, .inr ⟨_, trivial, hJx4⟩⟩
        · obtain rfl : j = x.wn := by omega
          have HE : Hid (pre2.map (·.1) = wl 0 (rs.take (k + 1))) := by
            show _ = _
            rw [HP2.out, wl_succ HX.out, List.take_of_length_le (Nat.le_of_eq HNW.out.symm)]
          gi_wp2
          go_roundw
          case rel => exact ⟨k + 1, pre2, by omega, by go_num, HE.out, hJ2, hnx⟩
          case measure => simp [intOf]; omega
    · obtain rfl : k = n := by omega
      gi_wp2
      go_end0
      exact ⟨⟨_, rfl⟩, .inl ⟨pre, by rw [HP.out, List.take_of_length_le (Nat.le_of_eq HN.out.symm)], hJs⟩⟩
end Go.Proofs.YtlffgdmljioaoaaGreatDoor
