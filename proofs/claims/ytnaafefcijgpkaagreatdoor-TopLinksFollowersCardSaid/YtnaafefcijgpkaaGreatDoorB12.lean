/- Part 12 of the walks of the golf union's program: US1, US2, UM2, UM3, UM4, UM5, UM6, UM7, UM8, UM9, UM10, UM11. -/
import Derived.Test.YtnaafefcijgpkaaGreatDoorB02
import Derived.Test.YtnaafefcijgpkaaGreatDoorB10
import Derived.Test.YtnaafefcijgpkaaGreatDoorB11
import Derived.Test.YtnaafefcijgpkaaGreatDoorB06
set_option linter.unusedVariables false
set_option linter.unusedSimpArgs false
set_option linter.unusedSectionVars false
set_option linter.constructorNameAsVariable false
/- TopLinksScored, plain: standings, the board's order, and what the law says of a standing and a card. -/
namespace Go.Adj
structure SdI where
  name : ByteArray
  th : Int
  par : Int
instance : Inhabited SdI := ⟨⟨be, 0, 0⟩⟩
def SdI.cells (x : SdI) : List Value := [.string x.name, .int .i64 x.th, .int .i64 x.par]
/-- the entries of a player by the marker's marks -/
def esU (ks : List MkI) (s : ByteArray) (n : Nat) : List EI := (List.range n).map fun (i : Nat) => entK ks s ((i : Int) + 1) false
theorem esU_len (ks : List MkI) (s : ByteArray) (n : Nat) : (esU ks s n).length = n := by simp [esU]
theorem eAt_esU {ks : List MkI} {s : ByteArray} {n i : Nat} (h : i < n) : eAt (esU ks s n) i = entK ks s ((i : Int) + 1) false := by
  refine eAt_eq ?_
  unfold esU
  rw [List.getElem?_map, List.getElem?_range h]
  rfl
theorem esU_snoc (ks : List MkI) (s : ByteArray) (n : Nat) : esU ks s (n + 1) = esU ks s n ++ [entK ks s ((n : Int) + 1) false] := by
  unfold esU; rw [List.range_succ, List.map_append]; rfl
/-- an entry's part of a standing -/
def parE (hs : List HI) (co : Int) (es : List EI) (i : Nat) : Int := if (eAt es i).m = bd then 0 else if (eAt es i).m = bx then 2 else (eAt es i).s - givF hs co i - (hAt hs i).par
def thrE (es : List EI) (i : Nat) : Int := if (eAt es i).m = bd then 0 else 1
def stdF (hs : List HI) (x : MbI) (es : List EI) (n : Nat) : SdI := ⟨x.name, sumTo (thrE es) n, sumTo (parE hs x.co es) n⟩
theorem thr_bd (es : List EI) (n : Nat) : 0 ≤ sumTo (thrE es) n ∧ sumTo (thrE es) n ≤ n := by
  have h := sumTo_bd (f := thrE es) (a := 0) (b := 1) (n := n) (fun i _ => by unfold thrE; split <;> omega)
  omega
/-- insertion, as slices.SortStableFunc does it -/
def swpG {α : Type} (Y : Nat → α) (j : Nat) : Nat → α := fun a => if a = j then Y (j - 1) else if a + 1 = j then Y j else Y a
def siftG {α : Type} (O : α → Int) : (Nat → α) → Nat → (Nat → α)
  | Y, 0 => Y
  | Y, j + 1 => if O (Y (j + 1)) < O (Y j) then siftG O (swpG Y (j + 1)) j else Y
def insG {α : Type} (O : α → Int) (Y : Nat → α) : Nat → (Nat → α)
  | 0 => Y
  | k + 1 => siftG O (insG O Y k) k
def SrtG {α : Type} (O : α → Int) (Y : Nat → α) (i j : Nat) : Prop := ∀ a b, a < b → b ≤ i → b ≠ j → O (Y a) ≤ O (Y b)
theorem SrtG.swap {α : Type} {O : α → Int} {Y : Nat → α} {i j : Nat} (h : SrtG O Y i j) (hj : 1 ≤ j) (hji : j ≤ i) (hl : O (Y j) < O (Y (j - 1))) : SrtG O (swpG Y j) i (j - 1) := by
  intro a b hab hbi hbj
  unfold swpG
  by_cases e : b = j
  · subst e
    rw [if_pos rfl, if_neg (by omega : ¬ a = b)]
    by_cases e2 : a + 1 = b
    · rw [if_pos e2]; omega
    · rw [if_neg e2]; exact h a (b - 1) (by omega) (by omega) (by omega)
  · rw [if_neg e, if_neg (by omega : ¬ b + 1 = j)]
    by_cases e2 : a = j
    · rw [if_pos e2]; exact h (j - 1) b (by omega) hbi e
    · rw [if_neg e2]
      by_cases e3 : a + 1 = j
      · rw [if_pos e3]; exact h j b (by omega) hbi e
      · rw [if_neg e3]; exact h a b hab hbi e
theorem SrtG.done {α : Type} {O : α → Int} {Y : Nat → α} {i j : Nat} (h : SrtG O Y i j) (hl : j = 0 ∨ ¬ O (Y j) < O (Y (j - 1))) : ∀ a b, a < b → b ≤ i → O (Y a) ≤ O (Y b) := by
  intro a b hab hbi
  by_cases e : b = j
  · subst e
    rcases hl with hl | hl
    · omega
    · by_cases e2 : a = b - 1
      · subst e2; omega
      · have := h a (b - 1) (by omega) (by omega) (by omega)
        omega
  · exact h a b hab hbi e
theorem sift_srt {α : Type} {O : α → Int} : ∀ {j : Nat} {Y : Nat → α} {i : Nat}, SrtG O Y i j → j ≤ i → ∀ a b, a < b → b ≤ i → O (siftG O Y j a) ≤ O (siftG O Y j b)
  | 0, _, _, h, _ => h.done (.inl rfl)
  | j + 1, Y, i, h, hji => by
    unfold siftG
    by_cases hl : O (Y (j + 1)) < O (Y j)
    · rw [if_pos hl]
      exact sift_srt (h.swap (by omega) hji hl) (by omega)
    · rw [if_neg hl]
      exact h.done (.inr hl)
theorem ins_srt {α : Type} {O : α → Int} {Y : Nat → α} : ∀ k : Nat, ∀ a b, a < b → b < k → O (insG O Y k a) ≤ O (insG O Y k b)
  | 0, _, _, _, h => by omega
  | k + 1, a, b, hab, hb => by
    unfold insG
    refine sift_srt (i := k) (fun a b h1 h2 h3 => ins_srt k a b h1 (by omega)) (Nat.le_refl _) a b hab (by omega)
/-- the same elements, in another order -/
def PermG {α : Type} (Y Y' : Nat → α) (q : Nat) : Prop := ∃ π : Nat → Nat, (∀ a, a < q → π a < q) ∧ (∀ a b, a < q → b < q → π a = π b → a = b) ∧ ∀ a, Y' a = Y (π a)
theorem PermG.refl {α : Type} (Y : Nat → α) (q : Nat) : PermG Y Y q := ⟨id, fun _ h => h, fun _ _ _ _ h => h, fun _ => rfl⟩
theorem PermG.swap {α : Type} {Y Y' : Nat → α} {q j : Nat} (h : PermG Y Y' q) (hj : 1 ≤ j) (hq : j < q) : PermG Y (swpG Y' j) q := by
  obtain ⟨π, h1, h2, h3⟩ := h
  refine ⟨swpG π j, fun a ha => ?_, fun a b ha hb e => ?_, fun a => ?_⟩
  · unfold swpG
    split
    · exact h1 _ (by omega)
    · split
      · exact h1 _ hq
      · exact h1 _ ha
  · unfold swpG at e
    by_cases a1 : a = j <;> by_cases a2 : a + 1 = j <;> by_cases b1 : b = j <;> by_cases b2 : b + 1 = j <;> simp only [a1, a2, b1, b2, if_true, if_false] at e
    all_goals first
      | omega
      | (have := h2 _ _ (by omega) (by omega) e; omega)
  · unfold swpG
    split
    · exact h3 _
    · split
      · exact h3 _
      · exact h3 _
theorem sift_perm {α : Type} {O : α → Int} {Y : Nat → α} {q : Nat} : ∀ {j : Nat} {Y' : Nat → α}, PermG Y Y' q → j < q → PermG Y (siftG O Y' j) q
  | 0, _, h, _ => h
  | j + 1, Y', h, hq => by
    unfold siftG
    split
    · exact sift_perm (h.swap (by omega) hq) (by omega)
    · exact h
theorem ins_perm {α : Type} {O : α → Int} {Y : Nat → α} {q : Nat} : ∀ k : Nat, k ≤ q → PermG Y (insG O Y k) q
  | 0, _ => PermG.refl Y q
  | k + 1, h => by
    unfold insG
    exact sift_perm (ins_perm k (by omega)) (by omega)
end Go.Adj
namespace Go.Proofs.YtnaafefcijgpkaaGreatDoor
open Go.RowKit Go.Mem Go.Sheet Go.Adj
/-- whose holes all count: the standing is the net score less the pars, on all holes -/
theorem std_all (hs : List HI) (es : List EI) (co : Int) (n : Nat) (h : allO (netF hs es co) n = true) :
    sumTo (parE hs co es) n = sumTo (fun i => (netF hs es co i).s) n - sumTo (fun i => (hAt hs i).par) n ∧ sumTo (thrE es) n = n := by
  have hx := (allO_iff _ n).1 h
  have hm : ∀ i, i < n → (eAt es i).m ≠ bx ∧ (eAt es i).m ≠ bd := fun i hi => by
    have := hx i hi
    unfold netF at this
    by_cases h1 : (eAt es i).m = bx
    · rw [if_pos h1] at this; cases this
    · by_cases h2 : (eAt es i).m = bd
      · rw [if_neg h1, if_pos h2] at this; cases this
      · exact ⟨h1, h2⟩
  constructor
  · rw [← sumTo_sub]
    refine sumTo_congr fun i hi => ?_
    unfold parE
    rw [if_neg (hm i hi).2, if_neg (hm i hi).1, net_x (hm i hi)]
  · rw [show (n : Int) = sumTo (fun _ => 1) n by rw [sumTo_const]; omega]
    refine sumTo_congr fun i hi => ?_
    unfold thrE
    rw [if_neg (hm i hi).2]
/-- points that are all above 0 -/
theorem std_pts (hs : List HI) (es : List EI) (co : Int) (n : Nat) (h : allO (netF hs es co) n = true) (hp : ∀ i, i < n → 0 < ptsL hs es co i) :
    sumTo (ptsL hs es co) n = 2 * n - sumTo (parE hs co es) n := by
  rw [(std_all hs es co n h).1]
  have hx := (allO_iff _ n).1 h
  have e : sumTo (ptsL hs es co) n = sumTo (fun i => 2 + ((hAt hs i).par - (netF hs es co i).s)) n := by
    refine sumTo_congr fun i hi => ?_
    have h1 := hp i hi
    unfold ptsL ptN at h1 ⊢
    rw [hx i hi] at h1 ⊢
    simp only [isO, if_true] at h1 ⊢
    omega
  rw [e, sumTo_add, sumTo_const, sumTo_sub]
  omega
end Go.Proofs.YtnaafefcijgpkaaGreatDoor
/- Chapter 10, plain: the board by the entries of the members. -/
namespace Go.Adj
def sdE (u : UI) (E : Nat → List EI) (k : Nat) : SdI := stdF u.hs (mbAt u.ms k) (E k) u.nh
/-- the members below k who stand on the board -/
def onE (u : UI) (E : Nat → List EI) : Nat → List Nat
  | 0 => []
  | k + 1 => if 0 < (sdE u E k).th then onE u E k ++ [k] else onE u E k
def ordS (x : SdI) : Int := x.par * 100 - x.th
/-- the standings in the order of the members; on the board -/
def brd0 (u : UI) (E : Nat → List EI) (a : Nat) : SdI := sdE u E ((onE u E u.nm).getD a 0)
def brdN (u : UI) (E : Nat → List EI) : Nat := (onE u E u.nm).length
def brdF (u : UI) (E : Nat → List EI) : Nat → SdI := insG ordS (brd0 u E) (brdN u E)
theorem onE_len (u : UI) (E : Nat → List EI) : ∀ k, (onE u E k).length ≤ k
  | 0 => Nat.le_refl _
  | k + 1 => by
    have := onE_len u E k
    unfold onE
    split
    · rw [List.length_append, List.length_singleton]; omega
    · omega
theorem onE_mem (u : UI) (E : Nat → List EI) : ∀ k, ∀ x ∈ onE u E k, x < k ∧ 0 < (sdE u E x).th
  | 0, x, h => by cases h
  | k + 1, x, h => by
    unfold onE at h
    split at h
    · rename_i hk
      rw [List.mem_append, List.mem_singleton] at h
      rcases h with h | rfl
      · exact ⟨Nat.lt_succ_of_lt (onE_mem u E k x h).1, (onE_mem u E k x h).2⟩
      · exact ⟨Nat.lt_succ_self _, hk⟩
    · exact ⟨Nat.lt_succ_of_lt (onE_mem u E k x h).1, (onE_mem u E k x h).2⟩
theorem onE_in (u : UI) (E : Nat → List EI) : ∀ k x, x < k → 0 < (sdE u E x).th → x ∈ onE u E k
  | 0, x, h, _ => by omega
  | k + 1, x, h, h0 => by
    unfold onE
    by_cases e : x = k
    · subst e; rw [if_pos h0]; simp
    · have := onE_in u E k x (by omega) h0
      split
      · exact List.mem_append_left _ this
      · exact this
theorem onE_nodup (u : UI) (E : Nat → List EI) : ∀ k, (onE u E k).Nodup
  | 0 => List.nodup_nil
  | k + 1 => by
    unfold onE
    split
    · refine List.nodup_append.2 ⟨onE_nodup u E k, by simp, fun a ha b hb => ?_⟩
      rw [List.mem_singleton] at hb
      have := (onE_mem u E k a ha).1
      omega
    · exact onE_nodup u E k
theorem onE_congr {u : UI} {E E' : Nat → List EI} : ∀ {k : Nat}, (∀ j, j < k → E j = E' j) → onE u E k = onE u E' k
  | 0, _ => rfl
  | k + 1, h => by
    unfold onE
    rw [onE_congr fun j hj => h j (by omega), show sdE u E k = sdE u E' k by unfold sdE; rw [h k (by omega)]]
theorem sift_congr {α : Type} {O : α → Int} {q : Nat} : ∀ {j : Nat} {Y Y' : Nat → α}, (∀ a, a < q → Y a = Y' a) → j < q → ∀ a, a < q → siftG O Y j a = siftG O Y' j a
  | 0, _, _, h, _ => h
  | j + 1, Y, Y', h, hq => by
    unfold siftG
    rw [h (j + 1) hq, h j (by omega)]
    split
    · refine sift_congr (fun a ha => ?_) (by omega)
      unfold swpG
      rw [h a ha, h (j + 1) hq, show j + 1 - 1 = j by omega, h j (by omega)]
    · exact h
theorem ins_congr {α : Type} {O : α → Int} {q : Nat} {Y Y' : Nat → α} (h : ∀ a, a < q → Y a = Y' a) : ∀ k, k ≤ q → ∀ a, a < q → insG O Y k a = insG O Y' k a
  | 0, _ => h
  | k + 1, hk => by
    unfold insG
    exact sift_congr (ins_congr h k (by omega)) (by omega)
theorem on_get {u : UI} {E : Nat → List EI} {k a : Nat} (ha : a < (onE u E k).length) : (onE u E k).getD a 0 < k ∧ 0 < (sdE u E ((onE u E k).getD a 0)).th := by
  refine onE_mem u E k _ ?_
  rw [List.getD_eq_getElem?_getD, List.getElem?_eq_getElem ha]
  exact List.getElem_mem _
theorem on_inj {u : UI} {E : Nat → List EI} {k a b : Nat} (ha : a < (onE u E k).length) (hb : b < (onE u E k).length) (e : (onE u E k).getD a 0 = (onE u E k).getD b 0) : a = b := by
  rw [List.getD_eq_getElem?_getD, List.getElem?_eq_getElem ha, List.getD_eq_getElem?_getD, List.getElem?_eq_getElem hb] at e
  exact (List.getElem_inj (onE_nodup u E k)).1 e
/-- boards of the same entries are the same -/
theorem brd_congr {u : UI} {E E' : Nat → List EI} (h : ∀ j, j < u.nm → E j = E' j) : brdN u E = brdN u E' ∧ ∀ a, a < brdN u E → brdF u E a = brdF u E' a := by
  have e1 : onE u E u.nm = onE u E' u.nm := onE_congr h
  have e3 : brdN u E = brdN u E' := by unfold brdN; rw [e1]
  refine ⟨e3, fun a ha => ?_⟩
  unfold brdF
  rw [← e3]
  refine ins_congr (fun b hb => ?_) _ (Nat.le_refl _) a ha
  have h1 := on_get (u := u) (E := E) (k := u.nm) (a := b) hb
  unfold brd0
  rw [← e1]
  unfold sdE
  rw [h _ h1.1]
theorem perm_of_sub : ∀ {l m : List Nat}, l.Nodup → l ⊆ m → m.length ≤ l.length → l.Perm m
  | [], m, _, _, hl => by
    have : m = [] := List.length_eq_zero_iff.1 (by simpa using hl)
    subst this; exact List.Perm.refl _
  | x :: l, m, hn, hs, hl => by
    have hx : x ∈ m := hs (by simp)
    obtain ⟨s, t, rfl⟩ := List.append_of_mem hx
    have hp : (s ++ x :: t).Perm (x :: (s ++ t)) := List.perm_middle
    refine List.Perm.trans (List.Perm.cons x (perm_of_sub (List.nodup_cons.1 hn).2 (fun y hy => ?_) ?_)) hp.symm
    · have hy2 : y ∈ s ++ x :: t := hs (by simp [hy])
      have hne : y ≠ x := fun e => (List.nodup_cons.1 hn).1 (e ▸ hy)
      simp only [List.mem_append, List.mem_cons] at hy2 ⊢
      rcases hy2 with h | h | h
      · exact .inl h
      · exact absurd h hne
      · exact .inr h
    · simp only [List.length_append, List.length_cons] at hl ⊢; omega
theorem sd_name (u : UI) (E : Nat → List EI) (k : Nat) : (sdE u E k).name = (mbAt u.ms k).name := rfl
theorem sd_th (u : UI) (E : Nat → List EI) (k : Nat) : 0 ≤ (sdE u E k).th ∧ (sdE u E k).th ≤ u.nh := thr_bd _ _
/-- each standing on the board is a member's -/
theorem brd_of {u : UI} {E : Nat → List EI} {a : Nat} (ha : a < brdN u E) : ∃ k, k < u.nm ∧ brdF u E a = sdE u E k ∧ 0 < (sdE u E k).th := by
  obtain ⟨π, h1, h2, h3⟩ := ins_perm (O := ordS) (Y := brd0 u E) (q := brdN u E) (brdN u E) (Nat.le_refl _)
  have h := on_get (u := u) (E := E) (k := u.nm) (a := π a) (h1 a ha)
  exact ⟨_, h.1, h3 a, h.2⟩
/-- each member who stands is on the board -/
theorem brd_on {u : UI} {E : Nat → List EI} {k : Nat} (hk : k < u.nm) (h0 : 0 < (sdE u E k).th) : ∃ a, a < brdN u E ∧ brdF u E a = sdE u E k := by
  obtain ⟨π, h1, h2, h3⟩ := ins_perm (O := ordS) (Y := brd0 u E) (q := brdN u E) (brdN u E) (Nat.le_refl _)
  have hm := onE_in u E u.nm k hk h0
  obtain ⟨b, hb, e⟩ := List.getElem_of_mem hm
  -- a finite injection is onto
  have hs : ∀ b, b < brdN u E → ∃ a, a < brdN u E ∧ π a = b := by
    intro b hb
    have hsub : (List.range (brdN u E)).map π ⊆ List.range (brdN u E) := fun x hx => by
      obtain ⟨y, hy, rfl⟩ := List.mem_map.1 hx
      exact List.mem_range.2 (h1 y (List.mem_range.1 hy))
    have hnd : ((List.range (brdN u E)).map π).Nodup := by
      refine List.pairwise_map.2 ((List.nodup_range (n := brdN u E)).imp_of_mem fun ha hb hne e => hne (h2 _ _ (List.mem_range.1 ha) (List.mem_range.1 hb) e))
    have hp := perm_of_sub hnd hsub (by simp)
    obtain ⟨a, ha, e⟩ := List.mem_map.1 (hp.mem_iff.2 (List.mem_range.2 hb))
    exact ⟨a, List.mem_range.1 ha, e⟩
  obtain ⟨a, ha, e2⟩ := hs b hb
  refine ⟨a, ha, (h3 a).trans ?_⟩
  unfold brd0
  rw [e2, List.getD_eq_getElem?_getD, List.getElem?_eq_getElem hb, e]
  rfl
/-- names on the board differ -/
theorem brd_two {u : UI} {E : Nat → List EI} (hmb : ∀ i j, i < u.nm → j < i → (mbAt u.ms j).name ≠ (mbAt u.ms i).name) {a b : Nat} (ha : a < brdN u E) (hb : b < brdN u E) (hab : a ≠ b) : (brdF u E a).name ≠ (brdF u E b).name := by
  obtain ⟨π, h1, h2, h3⟩ := ins_perm (O := ordS) (Y := brd0 u E) (q := brdN u E) (brdN u E) (Nat.le_refl _)
  intro e
  unfold brdF at e
  rw [h3 a, h3 b] at e
  unfold brd0 at e
  rw [sd_name, sd_name] at e
  have g1 := on_get (u := u) (E := E) (k := u.nm) (a := π a) (h1 a ha)
  have g2 := on_get (u := u) (E := E) (k := u.nm) (a := π b) (h1 b hb)
  have hne : (onE u E u.nm).getD (π a) 0 ≠ (onE u E u.nm).getD (π b) 0 := fun e2 => hab (h2 a b ha hb (on_inj (h1 a ha) (h1 b hb) e2))
  rcases Nat.lt_or_gt_of_ne hne with h | h
  · exact hmb _ _ g2.1 h e
  · exact hmb _ _ g1.1 h e.symm
/-- the first one's Par is the least -/
theorem brd_least {u : UI} {E : Nat → List EI} (hn : u.nh ≤ 36) {a : Nat} (ha : a < brdN u E) : (brdF u E 0).par ≤ (brdF u E a).par := by
  rcases Nat.eq_zero_or_pos a with rfl | h0
  · exact Int.le_refl _
  have h := ins_srt (O := ordS) (Y := brd0 u E) (brdN u E) 0 a h0 ha
  obtain ⟨k, hk, e1, _⟩ := brd_of (u := u) (E := E) (a := 0) (by omega)
  obtain ⟨j, hj, e2, _⟩ := brd_of ha
  have b1 := sd_th u E k
  have b2 := sd_th u E j
  rw [← e1] at b1
  rw [← e2] at b2
  have h' : ordS (brdF u E 0) ≤ ordS (brdF u E a) := h
  unfold ordS at h'
  omega
end Go.Adj
/- Chapter 10, the reference: Has, Member, Round, Mark. -/
namespace Go.Proofs.YtnaafefcijgpkaaGreatDoor
open Go.RowKit Go.Mem Go.Sheet Go.Adj
theorem bytes_neU {a b : ByteArray} (h : a ≠ b) : (a.toList == b.toList) = false := by
  obtain ⟨⟨d⟩⟩ := b
  have e : (⟨⟨d⟩⟩ : ByteArray).toList = d := by rw [ByteArray.toList_eq]
  rw [e]
  exact bytes_ne h
theorem rd_str {w : World} {S : Nat → Prop} {n : Nat} {A : Option Addr} {m c k : Nat} {l : List ByteArray} (h : Rd w S 1 (.slice A m c) n (l.map .string)) (hk : k < n) :
    ∃ b o, A = some ⟨b, o, none⟩ ∧ l[k]? = some (sAt l k) ∧ w.cell? ⟨b, o + k, none⟩ = some (.string (sAt l k)) := by
  obtain ⟨b, o, u, e, _, hx, hc⟩ := h.at_ hk
  rw [List.getElem?_map] at hx
  cases hx' : l[k]? with
  | none => rw [hx'] at hx; cases hx
  | some x =>
    rw [hx'] at hx; cases hx
    rw [sAt_eq hx']
    exact ⟨b, o, e, rfl, hc⟩
/-- the answer is whether P holds -/
def IsW (P : Prop) (e : Ending) : Prop := ∃ b : Bool, e = .returned (.bool b) ∧ (b = true ↔ P)
theorem isW_yes {P : Prop} (h : P) : IsW P (.returned (.bool true)) := ⟨true, rfl, fun _ => h, fun _ => rfl⟩
theorem isW_no {P : Prop} (h : ¬ P) : IsW P (.returned (.bool false)) := ⟨false, rfl, (fun e => by cases e), fun e => absurd e h⟩
set_option maxRecDepth 100000 in
set_option maxHeartbeats 4000000 in
theorem refHas_any (w : World) (F : Nat → Prop) (v : Value) (n : Nat) (s : ByteArray) (l : List ByteArray) (h : Rd w F 1 v n (l.map .string)) :
    Calls Tryz.prog 45 #[v, .string s] w fun e w' => IsW (∃ j, j < n ∧ sAt l j = s) e ∧ w = w' := by
  have hn := h.le
  obtain ⟨A, c, rfl, _, _, h⟩ := h.open_
  have H := Lib.hid h
  clear h
  go_enter Tryz.func45, Tryz.ntmps45
  go_wp2
  go_loop [5] (fun i => ∃ k : Nat, k ≤ n ∧ i = .int .i64 k ∧ Hid (∀ j, j < k → sAt l j ≠ s)) (fun i => n - (intOf i).toNat)
  case atStart => exact ⟨0, Nat.zero_le _, rfl, fun j hj => absurd hj (Nat.not_lt_zero _)⟩
  case round =>
    obtain ⟨k, hk, rfl, hin⟩ := hrel
    by_cases hlt : k < n
    · obtain ⟨b, o, rfl, hy, c0⟩ := rd_str H.out hlt
      obtain ⟨y, hye⟩ : ∃ y, y = sAt l k := ⟨_, rfl⟩
      rw [← hye] at c0
      have HY := Lib.hid hye
      have HLT := Lib.hid hlt
      clear hy hye
      by_cases he : y = s
      · have q1 : (y.toList == s.toList) = true := by rw [he]; simp
        have HE := Lib.hid he
        clear he
        go_wp2
        go_ret
        exact ⟨isW_yes ⟨k, HLT.out, by rw [← HY.out]; exact HE.out⟩, rfl⟩
      · have q1 : (y.toList == s.toList) = false := bytes_neU he
        have HN : Hid (∀ j, j < k + 1 → sAt l j ≠ s) := fun j hj => by
          rcases Nat.lt_or_ge j k with h1 | h1
          · exact hin.out j h1
          · rw [show j = k by omega, ← HY.out]; exact he
        clear he
        go_wp2
        go_round
        case rel => exact ⟨k + 1, by omega, by go_num, HN⟩
        case measure => simp [intOf]; omega
    · obtain rfl : n = k := by omega
      go_wp2
      go_ret
      exact ⟨isW_no fun ⟨j, hj, e⟩ => absurd e (hin.out j hj), rfl⟩
theorem rd_mb {w : World} {S : Nat → Prop} {n : Nat} {A : Option Addr} {m c k : Nat} {l : List MbI} (h : Rd w S 3 (.slice A m c) n (l.flatMap MbI.cells)) (hk : k < n) :
    ∃ b o, A = some ⟨b, o, none⟩ ∧ l[k]? = some (mbAt l k) ∧ w.cell? ⟨b, o + k * 3, none⟩ = some (.string (mbAt l k).name) ∧ w.cell? ⟨b, o + k * 3 + 1, none⟩ = some (.string (mbAt l k).club) ∧ w.cell? ⟨b, o + k * 3 + 2, none⟩ = some (.int .i64 (mbAt l k).co) := by
  obtain ⟨b, o, x, e, hx, c0, c1, c2⟩ := h.elem3 (fun s : MbI => .string s.name) (fun s : MbI => .string s.club) (fun s : MbI => .int .i64 s.co) (fun _ => rfl) hk
  rw [mbAt_eq hx]
  exact ⟨b, o, e, hx, c0, c1, c2⟩
theorem rd_mk {w : World} {S : Nat → Prop} {n : Nat} {A : Option Addr} {m c k : Nat} {l : List MkI} (h : Rd w S 5 (.slice A m c) n (l.flatMap MkI.cells)) (hk : k < n) :
    ∃ b o, A = some ⟨b, o, none⟩ ∧ l[k]? = some (mkAt l k) ∧ w.cell? ⟨b, o + k * 5, none⟩ = some (.string (mkAt l k).pl) ∧ w.cell? ⟨b, o + k * 5 + 1, none⟩ = some (.string (mkAt l k).by_) ∧ w.cell? ⟨b, o + k * 5 + 2, none⟩ = some (.int .i64 (mkAt l k).h) ∧ w.cell? ⟨b, o + k * 5 + 3, none⟩ = some (.int .i64 (mkAt l k).s) ∧ w.cell? ⟨b, o + k * 5 + 4, none⟩ = some (.string (mkAt l k).m) := by
  obtain ⟨g, o, x, hA, hx, hc⟩ := h.elem (f := MkI.cells) (size := 5) (fun _ => rfl) (by decide) hk
  rw [mkAt_eq hx]
  exact ⟨g, o, hA, hx, hc 0 _ rfl, hc 1 _ rfl, hc 2 _ rfl, hc 3 _ rfl, hc 4 _ rfl⟩
set_option maxRecDepth 100000 in
set_option maxHeartbeats 4000000 in
theorem refMember_any (W : World) (u : UI) (s : ByteArray) (h : RdU W (· < W.heap.size) u) :
    Calls Tryz.prog 10 #[u.val, .string s] W fun e w' => e = .returned (.int .i64 (memI u.ms s)) ∧ Below W.heap.size W w' := by
  have hn := h.m.le
  have hlen : u.nm = u.ms.length := h.m.count (f := MbI.cells) (size := 3) (fun _ => rfl) (by decide)
  have hm := h.m
  clear h
  obtain ⟨vc, nc, cl, vm, nm, ms, vh, nh, hs, vk, nk, ks, vs, ns, sg, vp, np, ps⟩ := u
  simp only [UI.val] at *
  obtain ⟨A, c, rfl, _, _, _⟩ := hm.open_
  have S0 := (St.refl W).blk_new #[vc, .slice A nm c, vh, vk, vs, vp] 34
  simp only [List.nil_append] at S0
  have H := Lib.hid hm
  obtain ⟨gc, hgc⟩ : ∃ g, g = W.heap.size := ⟨_, rfl⟩
  have d1 := S0.blk_cell (i := 0) rfl 1
  rw [← hgc] at S0 d1
  have HB := Lib.hid S0.bel
  have HM := Lib.hid (hm.later S0.bel)
  have HLN := Lib.hid hlen
  clear S0 hm hlen
  go_enter Tryz.func10, Tryz.ntmps10
  go_wp2_with fail
  rw [← hgc]
  generalize W.alloc (.cells #[vc, .slice A nm c, vh, vk, vs, vp] 34) = w1 at *
  clear hgc
  go_loop [5] (fun i => ∃ k : Nat, k ≤ nm ∧ i = .int .i64 k ∧ Hid (∀ j, j < k → (mbAt ms j).name ≠ s)) (fun i => nm - (intOf i).toNat)
  case atStart => exact ⟨0, Nat.zero_le _, rfl, fun j hj => absurd hj (Nat.not_lt_zero _)⟩
  case round =>
    obtain ⟨k, hk, rfl, hin⟩ := hrel
    by_cases hlt : k < nm
    · obtain ⟨b, o, rfl, hy, c0, _, _⟩ := rd_mb HM.out hlt
      obtain ⟨y, hye⟩ : ∃ y, y = (mbAt ms k).name := ⟨_, rfl⟩
      rw [← hye] at c0
      have HY := Lib.hid hye
      clear hy hye
      by_cases he : y = s
      · have q1 : (y.toList == s.toList) = true := by rw [he]; simp
        have HE : Hid (memI ms s = (k : Int)) := by
          show fstI _ _ = _
          refine fstI_at (decide_eq_true (by rw [← HY.out]; exact he)) (fun j hj => decide_eq_false (hin.out j hj)) (by rw [← HLN.out]; exact hlt)
        clear he
        go_wp2
        go_ret
        exact ⟨by rw [HE.out]; rfl, HB.out⟩
      · have q1 : (y.toList == s.toList) = false := bytes_neU he
        have HN : Hid (∀ j, j < k + 1 → (mbAt ms j).name ≠ s) := fun j hj => by
          rcases Nat.lt_or_ge j k with h1 | h1
          · exact hin.out j h1
          · rw [show j = k by omega, ← HY.out]; exact he
        clear he
        go_wp2
        go_round
        case rel => exact ⟨k + 1, by omega, by go_num, HN⟩
        case measure => simp [intOf]; omega
    · obtain rfl : nm = k := by omega
      have HE : Hid (memI ms s = -1) := by
        show fstI _ _ = _
        refine fstI_none fun j hj => decide_eq_false (hin.out j (by rw [HLN.out]; exact hj))
      go_wp2
      go_ret
      exact ⟨by rw [HE.out]; rfl, HB.out⟩
end Go.Proofs.YtnaafefcijgpkaaGreatDoor
/- Chapter 10, the reference: Mark, Round. -/
namespace Go.Proofs.YtnaafefcijgpkaaGreatDoor
open Go.RowKit Go.Mem Go.Sheet Go.Adj
theorem keyK_no1 {x : MkI} {p : ByteArray} {h : Int} {own : Bool} (e : x.pl ≠ p) : keyK x p h own = false := by unfold keyK; rw [decide_eq_false e]; rfl
theorem keyK_no2 {x : MkI} {p : ByteArray} {h : Int} {own : Bool} (e : x.h ≠ h) : keyK x p h own = false := by unfold keyK; rw [decide_eq_false e]; simp
theorem keyK_eq {x : MkI} {p : ByteArray} {h : Int} {own : Bool} (e : x.pl = p) (e2 : x.h = h) : keyK x p h own = (decide (x.by_ = p) == own) := by unfold keyK ownK; rw [decide_eq_true e, decide_eq_true e2, e]; simp
set_option maxRecDepth 100000 in
set_option maxHeartbeats 4000000 in
theorem refMark_any (W : World) (u : UI) (s : ByteArray) (hh : Int) (own : Bool) (h : RdU W (· < W.heap.size) u) :
    Calls Tryz.prog 75 #[u.val, .string s, .int .i64 hh, .bool own] W fun e w' => e = .returned (.int .i64 (mkI u.ks s hh own)) ∧ Below W.heap.size W w' := by
  have hn := h.k.le
  have hlen : u.nk = u.ks.length := h.k.count (f := MkI.cells) (size := 5) (fun _ => rfl) (by decide)
  have hm := h.k
  clear h
  obtain ⟨vc, nc, cl, vm, nm, ms, vh, nh, hs, vk, nk, ks, vs, ns, sg, vp, np, ps⟩ := u
  simp only [UI.val] at *
  obtain ⟨A, c, rfl, _, _, _⟩ := hm.open_
  have S0 := (St.refl W).blk_new #[vc, vm, vh, .slice A nk c, vs, vp] 34
  simp only [List.nil_append] at S0
  obtain ⟨gc, hgc⟩ : ∃ g, g = W.heap.size := ⟨_, rfl⟩
  rw [← hgc] at S0
  have HM := Lib.hid hm
  have HS0 := Lib.hid S0
  have HLN := Lib.hid hlen
  clear S0 hm hlen
  go_enter Tryz.func75, Tryz.ntmps75
  go_wp2_with fail
  rw [← hgc]
  generalize W.alloc (.cells #[vc, vm, vh, .slice A nk c, vs, vp] 34) = w1 at *
  clear hgc
  go_loopw [9] (fun i w' => ∃ k : Nat, k ≤ nk ∧ i = .int .i64 k ∧ Hid (∀ j, j < k → keyK (mkAt ks j) s hh own = false) ∧ St W w' [blk gc 34 #[vc, vm, vh, .slice A nk c, vs, vp]]) (fun i _ => nk - (intOf i).toNat)
  case atStart => exact ⟨0, Nat.zero_le _, rfl, fun j hj => absurd hj (Nat.not_lt_zero _), HS0.out⟩
  case round =>
    obtain ⟨k, hk, rfl, hin, S⟩ := hrel
    clear HS0
    have d3 := S.blk_cell (i := 0) rfl 3
    by_cases hlt : k < nk
    · obtain ⟨b, o, rfl, _, c0, c1, c2, c3, c4⟩ := rd_mk (HM.out.later S.bel) hlt
      obtain ⟨x, hx⟩ : ∃ x, x = mkAt ks k := ⟨_, rfl⟩
      rw [← hx] at c0 c1 c2 c3 c4
      have HX := Lib.hid hx
      have HS := Lib.hid S
      have HIN : Hid (keyK x s hh own = false → ∀ j, j < k + 1 → keyK (mkAt ks j) s hh own = false) := fun hf j hj => by
        rcases Nat.lt_or_ge j k with h1 | h1
        · exact hin.out j h1
        · rw [show j = k by omega, ← HX.out]; exact hf
      have HYE : Hid (keyK x s hh own = true → mkI ks s hh own = (k : Int)) := fun hf => by
        unfold mkI
        exact fstI_at (by rw [← HX.out]; exact hf) hin.out (by rw [← HLN.out]; exact hlt)
      clear hx S
      have HK1 : Hid (x.pl ≠ s → keyK x s hh own = false) := fun e => keyK_no1 e
      have HK2 : Hid (x.h ≠ hh → keyK x s hh own = false) := fun e => keyK_no2 e
      have HK3 : Hid (x.pl = s → x.h = hh → keyK x s hh own = (decide (x.by_ = s) == own)) := fun e e2 => keyK_eq e e2
      generalize keyK x s hh own = kb at HIN HYE HK1 HK2 HK3
      clear HX
      obtain ⟨xp, xb, xh, xs, xm⟩ := x
      simp only [] at c0 c1 c2 c3 c4
      by_cases h1 : xp = s
      case neg =>
        have q1 : (xp.toList == s.toList) = false := bytes_neU h1
        have HN := Lib.hid (HIN.out (HK1.out h1))
        clear h1
        go_wp2_with fail
        go_roundw
        case rel => exact ⟨k + 1, by omega, by go_num, HN, ((HS.out.blk_new _ _).sub (.cons_cons _ (List.nil_sublist _)))⟩
        case measure => simp [intOf]; omega
      have q1 : (xp.toList == s.toList) = true := by rw [h1]; simp
      by_cases h2 : xh = hh
      case neg =>
        have q2 : (xh == hh) = false := by simpa using h2
        have HN := Lib.hid (HIN.out (HK2.out h2))
        clear h1 h2
        go_wp2_with fail
        go_roundw
        case rel => exact ⟨k + 1, by omega, by go_num, HN, ((HS.out.blk_new _ _).sub (.cons_cons _ (List.nil_sublist _)))⟩
        case measure => simp [intOf]; omega
      have q2 : (xh == hh) = true := by simpa using h2
      have HK4 := Lib.hid (HK3.out h1 h2)
      clear h1 h2
      by_cases h3 : xb = s
      · have q3 : (xb.toList == s.toList) = true := by rw [h3]; simp
        have HK5 := HK4.out
        rw [decide_eq_true (show (MkI.mk xp xb xh xs xm).by_ = s from h3)] at HK5
        clear h3
        cases own
        · have HN := Lib.hid (HIN.out (HK5.trans rfl))
          clear HK5
          go_wp2_with fail
          go_roundw
          case rel => exact ⟨k + 1, by omega, by go_num, HN, ((HS.out.blk_new _ _).sub (.cons_cons _ (List.nil_sublist _)))⟩
          case measure => simp [intOf]; omega
        · have HN := Lib.hid (HYE.out (HK5.trans rfl))
          have HB := Lib.hid (HS.out.blk_new #[.string xp, .string xb, .int .i64 xh, .int .i64 xs, .string xm] 84).bel
          clear HK5
          go_wp2_with fail
          go_ret
          exact ⟨by rw [HN.out]; rfl, HB.out⟩
      · have q3 : (xb.toList == s.toList) = false := bytes_neU h3
        have HK5 := HK4.out
        rw [decide_eq_false (show ¬ (MkI.mk xp xb xh xs xm).by_ = s from h3)] at HK5
        clear h3
        cases own
        · have HN := Lib.hid (HYE.out (HK5.trans rfl))
          have HB := Lib.hid (HS.out.blk_new #[.string xp, .string xb, .int .i64 xh, .int .i64 xs, .string xm] 84).bel
          clear HK5
          go_wp2_with fail
          go_ret
          exact ⟨by rw [HN.out]; rfl, HB.out⟩
        · have HN := Lib.hid (HIN.out (HK5.trans rfl))
          clear HK5
          go_wp2_with fail
          go_roundw
          case rel => exact ⟨k + 1, by omega, by go_num, HN, ((HS.out.blk_new _ _).sub (.cons_cons _ (List.nil_sublist _)))⟩
          case measure => simp [intOf]; omega
    · obtain rfl : nk = k := by omega
      have HE : Hid (mkI ks s hh own = -1) := by
        show fstI _ _ = _
        exact fstI_none fun j hj => hin.out j (by rw [HLN.out]; exact hj)
      have HB := Lib.hid S.bel
      clear S
      go_wp2_with fail
      go_ret
      exact ⟨by rw [HE.out]; rfl, HB.out⟩
end Go.Proofs.YtnaafefcijgpkaaGreatDoor
/- Chapter 10, the reference: checkMember. -/
namespace Go.Proofs.YtnaafefcijgpkaaGreatDoor
open Go.RowKit Go.Mem Go.Sheet Go.Adj
def MemOk (u : UI) (i : Nat) : Prop := nameB (mbAt u.ms i).name = true ∧ (∀ j, j < i → (mbAt u.ms j).name ≠ (mbAt u.ms i).name) ∧ (∃ j, j < u.nc ∧ sAt u.cl j = (mbAt u.ms i).club) ∧ -99 ≤ (mbAt u.ms i).co ∧ (mbAt u.ms i).co ≤ 99
theorem memI_self {ms : List MbI} {i : Nat} (hi : i < ms.length) (h : ¬ memI ms (mbAt ms i).name < (i : Int)) : ∀ j, j < i → (mbAt ms j).name ≠ (mbAt ms i).name := by
  intro j hj e
  have hP := fstI_inv (fun j => decide ((mbAt ms j).name = (mbAt ms i).name)) ms.length
  unfold memI at h
  rcases hP with ⟨e1, h1⟩ | ⟨k, hk, e1, h1, h2⟩
  · have := h1 i hi; simp at this
  · rw [e1] at h
    have : j < k := by omega
    have := h2 j this
    rw [decide_eq_true e] at this
    cases this
theorem isW_of {P : Prop} {e : Ending} (h : IsW P e) : (e = .returned (.bool true) ∧ P) ∨ (e = .returned (.bool false) ∧ ¬ P) := by
  obtain ⟨b, rfl, h⟩ := h
  cases b
  · exact .inr ⟨rfl, fun hp => by have := h.2 hp; cases this⟩
  · exact .inl ⟨rfl, h.1 rfl⟩
set_option maxRecDepth 100000 in
set_option maxHeartbeats 4000000 in
theorem refCheckMember_any (W : World) (u : UI) (i : Nat) (hi : i < u.nm) (h : RdU W (· < W.heap.size) u) :
    Calls Tryz.prog 46 #[u.val, .int .i64 i] W fun e w' => IsE (MemOk u i) e ∧ Below W.heap.size W w' := by
  have hn := h.m.le
  have hlen : u.nm = u.ms.length := h.m.count (f := MbI.cells) (size := 3) (fun _ => rfl) (by decide)
  have HGU := Lib.hid h
  have HOK : Hid (∀ x, x = mbAt u.ms i → nameB x.name = true → ¬ memI u.ms x.name < (i : Int) → (∃ j, j < u.nc ∧ sAt u.cl j = x.club) → -99 ≤ x.co → x.co ≤ 99 → MemOk u i) := fun x hx a b c d e => by
    subst hx
    exact ⟨a, memI_self (by omega) b, c, d, e⟩
  generalize hP : MemOk u i = P at HOK ⊢
  clear hP
  have hso := h.so.2.1
  have hc := h.c
  have hm := h.m
  clear h
  have HMB : Hid (∀ s w, Below W.heap.size W w → Calls Tryz.prog 10 #[u.val, .string s] w fun e w' => e = .returned (.int .i64 (memI u.ms s)) ∧ Below w.heap.size w w') := fun s w hb => refMember_any w u s (HGU.out.later hb)
  clear HGU
  obtain ⟨vc, nc, cl, vm, nm, ms, vh, nh, hs, vk, nk, ks, vs, ns, sg, vp, np, ps⟩ := u
  simp only [UI.val] at *
  obtain ⟨A, c, rfl, _, _, _⟩ := hm.open_
  obtain ⟨b, o, rfl, hx0, c0, c1, c2⟩ := rd_mb hm hi
  have hsx := hso _ (List.mem_of_getElem? hx0)
  obtain ⟨x, hx⟩ : ∃ x, x = mbAt ms i := ⟨_, rfl⟩
  rw [← hx] at c0 c1 c2 hsx
  have HOK2 := Lib.hid (HOK.out x hx)
  clear HOK hso hx hx0
  have S0 := (St.refl W).blk_new #[vc, .slice (some ⟨b, o, none⟩) nm c, vh, vk, vs, vp] 34
  simp only [List.nil_append] at S0
  have HC := Lib.hid (fun w (hb : Below W.heap.size W w) s => refHas_any w _ vc nc s cl (hc.later hb))
  obtain ⟨gc, hgc⟩ : ∃ g, g = W.heap.size := ⟨_, rfl⟩
  rw [← hgc] at S0
  have HS0 := Lib.hid S0
  have c0' := c0
  have c1' := c1
  have c2' := c2
  have hs1 : (W.alloc (.cells #[vc, .slice (some ⟨b, o, none⟩) nm c, vh, vk, vs, vp] 34)).heap.size = gc + 1 := by rw [hgc]; simp
  clear S0 hm hlen hc c0 c1 c2
  have S1 := HS0.out.blk_new #[.string x.name, .string x.club, .int .i64 x.co] 83
  simp only [List.cons_append, List.nil_append] at S1
  rw [hs1] at S1
  have HS1 := Lib.hid S1
  have l0 := World.block_lt_of_cell? _ _ c0'
  have k0 := (HS0.out.bel.cell (p := ⟨b, o + i * 3, none⟩) l0).trans c0'
  have k1 := (HS0.out.bel.cell (p := ⟨b, o + i * 3 + 1, none⟩) l0).trans c1'
  have k2 := (HS0.out.bel.cell (p := ⟨b, o + i * 3 + 2, none⟩) l0).trans c2'
  have d1 := HS0.out.blk_cell (i := 0) rfl 1
  clear S1 c0' c1' c2' l0
  go_enter Tryz.func46, Tryz.ntmps46
  go_wp2_with fail
  rw [← hgc]
  generalize W.alloc (.cells #[vc, .slice (some ⟨b, o, none⟩) nm c, vh, vk, vs, vp] 34) = w1 at *
  clear hgc hs1
  obtain ⟨xn, xc, xo⟩ := x
  simp only [] at k0 k1 k2 hsx HOK2 HS1
  clear k0 k1 k2 d1 HS0
  have d0 := HS1.out.blk_cell (i := 0) rfl 0
  have d1 := HS1.out.blk_cell (i := 0) rfl 1
  have d2 := HS1.out.blk_cell (i := 0) rfl 2
  have d3 := HS1.out.blk_cell (i := 0) rfl 3
  have d4 := HS1.out.blk_cell (i := 0) rfl 4
  have d5 := HS1.out.blk_cell (i := 0) rfl 5
  have e0 := HS1.out.blk_cell (i := 1) rfl 0
  have e1 := HS1.out.blk_cell (i := 1) rfl 1
  have e2 := HS1.out.blk_cell (i := 1) rfl 2
  generalize w1.alloc (.cells #[.string xn, .string xc, .int .i64 xo] 83) = w2 at *
  generalize gc + 1 = gd at *
  have HNM := Lib.hid (refIsName_any xn w2 hsx.1)
  cases hnb : nameB xn with
  | false =>
    rw [hnb] at HNM
    go_wp2_with (go_at_call 44; refine HNM.out.mono ?_; rintro e w' ⟨rfl, rfl⟩)
    go_ret
    exact ⟨isE_ne (by decide), HS1.out.bel⟩
  | true =>
  rw [hnb] at HNM
  have HM1 := Lib.hid (HMB.out xn w2 HS1.out.bel)
  obtain ⟨mi, hmi⟩ : ∃ z, z = memI ms xn := ⟨_, rfl⟩
  rw [← hmi] at HM1 HOK2
  clear hmi HMB
  by_cases hlt : mi < (i : Int)
  · have t1 : decide (mi < (i : Int)) = true := decide_eq_true hlt
    clear hlt
    go_wp2_with (first | (go_at_call 44; refine HNM.out.mono ?_; rintro e w' ⟨rfl, rfl⟩) | (go_at_call 10; refine HM1.out.mono ?_; rintro e w' ⟨rfl, hb⟩; have HB := Lib.hid hb; clear hb))
    go_ret
    exact ⟨isE_ne (by decide), (HS1.out.ext HB.out).bel⟩
  have t1 : decide (mi < (i : Int)) = false := decide_eq_false hlt
  have HLT := Lib.hid hlt
  clear hlt
  go_wp2_with fail
  go_at_call 44
  refine HNM.out.mono ?_
  rintro e w' ⟨rfl, rfl⟩
  go_wp2_with fail
  go_at_call 10
  refine HM1.out.mono ?_
  rintro e w3 ⟨rfl, hb⟩
  have S3 := HS1.out.ext hb
  have HS3 := Lib.hid S3
  clear hb S3 HS1 d0 d1 d2 d3 d4 d5 e0 e1 e2
  have d0 := HS3.out.blk_cell (i := 0) rfl 0
  have e1 := HS3.out.blk_cell (i := 1) rfl 1
  have e2 := HS3.out.blk_cell (i := 1) rfl 2
  have HHA := Lib.hid (HC.out w3 HS3.out.bel xc)
  clear HC HM1 HNM
  go_wp2_with fail
  go_at_call 45
  refine HHA.out.mono ?_
  rintro e w' ⟨hb, rfl⟩
  rcases isW_of hb with ⟨rfl, hc⟩ | ⟨rfl, hc⟩
  case inr =>
    clear hb hc
    go_wp2_with fail
    go_ret
    exact ⟨isE_ne (by decide), HS3.out.bel⟩
  have HCC := Lib.hid hc
  clear hb hc
  by_cases h1 : xo < -99
  · have t1 : decide (xo < -99) = true := decide_eq_true h1
    clear h1
    go_wp2_with fail
    go_ret
    exact ⟨isE_ne (by decide), HS3.out.bel⟩
  have t2 : decide (xo < -99) = false := decide_eq_false h1
  by_cases h2 : 99 < xo
  · have t3 : decide (99 < xo) = true := decide_eq_true h2
    clear h1 h2
    go_wp2_with fail
    go_ret
    exact ⟨isE_ne (by decide), HS3.out.bel⟩
  have t3 : decide (99 < xo) = false := decide_eq_false h2
  have HF := Lib.hid (HOK2.out hnb HLT.out HCC.out (by omega) (by omega))
  clear h1 h2
  go_wp2_with fail
  go_ret
  exact ⟨isE_ok HF.out, HS3.out.bel⟩
end Go.Proofs.YtnaafefcijgpkaaGreatDoor
/- Chapter 10, the reference: checkMark. -/
namespace Go.Proofs.YtnaafefcijgpkaaGreatDoor
open Go.RowKit Go.Mem Go.Sheet Go.Adj
def MarkOk (u : UI) (i : Nat) : Prop := (∃ j, j < u.nm ∧ (mbAt u.ms j).name = (mkAt u.ks i).pl) ∧ (∃ j, j < u.nm ∧ (mbAt u.ms j).name = (mkAt u.ks i).by_) ∧ 1 ≤ (mkAt u.ks i).h ∧ (mkAt u.ks i).h ≤ u.nh ∧ GoodE (mkAt u.ks i).e ∧
  ∀ j, j < i → keyK (mkAt u.ks j) (mkAt u.ks i).pl (mkAt u.ks i).h (ownK (mkAt u.ks i)) = false
theorem mkI_self {ks : List MkI} {i : Nat} (hi : i < ks.length) (h : ¬ mkI ks (mkAt ks i).pl (mkAt ks i).h (ownK (mkAt ks i)) < (i : Int)) : ∀ j, j < i → keyK (mkAt ks j) (mkAt ks i).pl (mkAt ks i).h (ownK (mkAt ks i)) = false := by
  intro j hj
  have hP := fstI_inv (fun j => keyK (mkAt ks j) (mkAt ks i).pl (mkAt ks i).h (ownK (mkAt ks i))) ks.length
  unfold mkI at h
  rcases hP with ⟨e1, h1⟩ | ⟨k, hk, e1, h1, h2⟩
  · exact h1 j (by omega)
  · rw [e1] at h
    exact h2 j (by omega)
theorem memI_has {ms : List MbI} {s : ByteArray} (h : ¬ memI ms s < 0) : ∃ j, j < ms.length ∧ (mbAt ms j).name = s := by
  rcases fstI_inv (fun j => decide ((mbAt ms j).name = s)) ms.length with ⟨e1, h1⟩ | ⟨k, hk, e1, h1, h2⟩
  · unfold memI at h; rw [e1] at h; exact absurd (by decide) h
  · exact ⟨k, hk, of_decide_eq_true h1⟩
set_option maxRecDepth 100000 in
set_option maxHeartbeats 4000000 in
theorem refCheckMark_any (W : World) (u : UI) (i : Nat) (hi : i < u.nk) (h : RdU W (· < W.heap.size) u) :
    Calls Tryz.prog 48 #[u.val, .int .i64 i] W fun e w' => IsE (MarkOk u i) e ∧ Below W.heap.size W w' := by
  have hn := h.k.le
  have hnm := h.m.le
  have hnh := h.h.le
  have hlen : u.nk = u.ks.length := h.k.count (f := MkI.cells) (size := 5) (fun _ => rfl) (by decide)
  have hlem : u.nm = u.ms.length := h.m.count (f := MbI.cells) (size := 3) (fun _ => rfl) (by decide)
  have HGU := Lib.hid h
  have HOK : Hid (∀ x, x = mkAt u.ks i → ¬ memI u.ms x.pl < 0 → ¬ memI u.ms x.by_ < 0 → 1 ≤ x.h → x.h ≤ u.nh → GoodE x.e → ¬ mkI u.ks x.pl x.h (ownK x) < (i : Int) → MarkOk u i) := fun x hx a b c d e f => by
    subst hx
    refine ⟨?_, ?_, c, d, e, mkI_self (by omega) f⟩
    · rw [hlem]; exact memI_has a
    · rw [hlem]; exact memI_has b
  generalize hP : MarkOk u i = P at HOK ⊢
  clear hP
  have hm := h.k
  have hhh := h.h
  clear h
  have HMB : Hid (∀ s w, Below W.heap.size W w → Calls Tryz.prog 10 #[u.val, .string s] w fun e w' => e = .returned (.int .i64 (memI u.ms s)) ∧ Below w.heap.size w w') := fun s w hb => refMember_any w u s (HGU.out.later hb)
  have HMK : Hid (∀ s hh own w, Below W.heap.size W w → Calls Tryz.prog 75 #[u.val, .string s, .int .i64 hh, .bool own] w fun e w' => e = .returned (.int .i64 (mkI u.ks s hh own)) ∧ Below w.heap.size w w') := fun s hh own w hb => refMark_any w u s hh own (HGU.out.later hb)
  clear HGU
  obtain ⟨vc, nc, cl, vm, nm, ms, vh, nh, hs, vk, nk, ks, vs, ns, sg, vp, np, ps⟩ := u
  simp only [UI.val] at *
  obtain ⟨A, c, rfl, _, _, _⟩ := hm.open_
  obtain ⟨Ah, ch, rfl, _, _, _⟩ := hhh.open_
  obtain ⟨b, o, rfl, hx0, c0, c1, c2, c3, c4⟩ := rd_mk hm hi
  obtain ⟨x, hx⟩ : ∃ x, x = mkAt ks i := ⟨_, rfl⟩
  rw [← hx] at c0 c1 c2 c3 c4
  have HOK2 := Lib.hid (HOK.out x hx)
  clear HOK hx hx0
  have S0 := (St.refl W).blk_new #[vc, vm, .slice Ah nh ch, .slice (some ⟨b, o, none⟩) nk c, vs, vp] 34
  simp only [List.nil_append] at S0
  obtain ⟨gc, hgc⟩ : ∃ g, g = W.heap.size := ⟨_, rfl⟩
  rw [← hgc] at S0
  have HS0 := Lib.hid S0
  have hs1 : (W.alloc (.cells #[vc, vm, .slice Ah nh ch, .slice (some ⟨b, o, none⟩) nk c, vs, vp] 34)).heap.size = gc + 1 := by rw [hgc]; simp
  have S1 := HS0.out.blk_new #[.string x.pl, .string x.by_, .int .i64 x.h, .int .i64 x.s, .string x.m] 84
  simp only [List.cons_append, List.nil_append] at S1
  rw [hs1] at S1
  have HS1 := Lib.hid S1
  have l0 := World.block_lt_of_cell? _ _ c0
  have k0 := (HS0.out.bel.cell (p := ⟨b, o + i * 5, none⟩) l0).trans c0
  have k1 := (HS0.out.bel.cell (p := ⟨b, o + i * 5 + 1, none⟩) l0).trans c1
  have k2 := (HS0.out.bel.cell (p := ⟨b, o + i * 5 + 2, none⟩) l0).trans c2
  have k3 := (HS0.out.bel.cell (p := ⟨b, o + i * 5 + 3, none⟩) l0).trans c3
  have k4 := (HS0.out.bel.cell (p := ⟨b, o + i * 5 + 4, none⟩) l0).trans c4
  have d3 := HS0.out.blk_cell (i := 0) rfl 3
  clear S0 S1 c0 c1 c2 c3 c4 l0 hm hhh hlen hlem
  go_enter Tryz.func48, Tryz.ntmps48
  go_wp2_with fail
  rw [← hgc]
  generalize W.alloc (.cells #[vc, vm, .slice Ah nh ch, .slice (some ⟨b, o, none⟩) nk c, vs, vp] 34) = w1 at *
  clear hgc hs1
  obtain ⟨xp, xb, xh, xs, xm⟩ := x
  simp only [MkI.e, ownK] at HOK2 HS1
  simp only [] at k0 k1 k2 k3 k4
  go_wp2_with fail
  clear k0 k1 k2 k3 k4 d3 HS0
  have d0 := HS1.out.blk_cell (i := 0) rfl 0
  have d1 := HS1.out.blk_cell (i := 0) rfl 1
  have d2 := HS1.out.blk_cell (i := 0) rfl 2
  have d3 := HS1.out.blk_cell (i := 0) rfl 3
  have d4 := HS1.out.blk_cell (i := 0) rfl 4
  have d5 := HS1.out.blk_cell (i := 0) rfl 5
  have e0 := HS1.out.blk_cell (i := 1) rfl 0
  generalize w1.alloc (.cells #[.string xp, .string xb, .int .i64 xh, .int .i64 xs, .string xm] 84) = w2 at *
  generalize gc + 1 = gd at *
  have HM1 := Lib.hid (HMB.out xp w2 HS1.out.bel)
  obtain ⟨mi, hmi⟩ : ∃ z, z = memI ms xp := ⟨_, rfl⟩
  obtain ⟨mj, hmj⟩ : ∃ z, z = memI ms xb := ⟨_, rfl⟩
  rw [← hmi] at HM1 HOK2
  rw [← hmj] at HOK2
  have HMJ := Lib.hid hmj
  clear hmi hmj
  by_cases h1 : mi < 0
  · have t1 : decide (mi < 0) = true := decide_eq_true h1
    clear h1
    go_at_call 10
    refine HM1.out.mono ?_
    rintro e w3 ⟨rfl, hb⟩
    have HB := Lib.hid (HS1.out.ext hb).bel
    clear hb
    go_wp2_with fail
    go_ret
    exact ⟨isE_ne (by decide), HB.out⟩
  have t1 : decide (mi < 0) = false := decide_eq_false h1
  have HM0 := Lib.hid h1
  clear h1
  go_at_call 10
  refine HM1.out.mono ?_
  rintro e w3 ⟨rfl, hb⟩
  have HS3 := Lib.hid (HS1.out.ext hb)
  clear hb d0 d1 d2 d3 d4 d5 e0 HS1 HM1
  have d0 := HS3.out.blk_cell (i := 0) rfl 0
  have d1 := HS3.out.blk_cell (i := 0) rfl 1
  have d2 := HS3.out.blk_cell (i := 0) rfl 2
  have d3 := HS3.out.blk_cell (i := 0) rfl 3
  have d4 := HS3.out.blk_cell (i := 0) rfl 4
  have d5 := HS3.out.blk_cell (i := 0) rfl 5
  have e1 := HS3.out.blk_cell (i := 1) rfl 1
  have HM2 := Lib.hid (HMB.out xb w3 HS3.out.bel)
  rw [← HMJ.out] at HM2
  clear HMJ HMB
  go_wp2_with fail
  by_cases h1 : mj < 0
  · have t2 : decide (mj < 0) = true := decide_eq_true h1
    clear h1
    go_at_call 10
    refine HM2.out.mono ?_
    rintro e w4 ⟨rfl, hb⟩
    have HB := Lib.hid (HS3.out.ext hb).bel
    clear hb
    go_wp2_with fail
    go_ret
    exact ⟨isE_ne (by decide), HB.out⟩
  have t2 : decide (mj < 0) = false := decide_eq_false h1
  have HM0b := Lib.hid h1
  clear h1
  go_at_call 10
  refine HM2.out.mono ?_
  rintro e w4 ⟨rfl, hb⟩
  have HS4 := Lib.hid (HS3.out.ext hb)
  clear hb d0 d1 d2 d3 d4 d5 e1 HS3 HM2
  have d2 := HS4.out.blk_cell (i := 0) rfl 2
  have e2 := HS4.out.blk_cell (i := 1) rfl 2
  have e3 := HS4.out.blk_cell (i := 1) rfl 3
  have e4 := HS4.out.blk_cell (i := 1) rfl 4
  by_cases h3 : xh < 1
  · have t3 : decide (xh < 1) = true := decide_eq_true h3
    clear h3
    go_wp2_with fail
    go_ret
    exact ⟨isE_ne (by decide), HS4.out.bel⟩
  have t3 : decide (xh < 1) = false := decide_eq_false h3
  by_cases h4 : (nh : Int) < xh
  · have t4 : decide ((nh : Int) < xh) = true := decide_eq_true h4
    clear h3 h4
    go_wp2_with fail
    go_ret
    exact ⟨isE_ne (by decide), HS4.out.bel⟩
  have t4 : decide ((nh : Int) < xh) = false := decide_eq_false h4
  have HHH : Hid (1 ≤ xh ∧ xh ≤ nh) := ⟨by omega, by omega⟩
  clear h3 h4
  have HCE := Lib.hid (refCheckEntry_any w4 xs xm)
  go_wp2_with fail
  go_at_call 74
  refine HCE.out.mono ?_
  rintro e w5 ⟨⟨ec, rfl, hg⟩, hb⟩
  have HG := Lib.hid hg
  have HS5 := Lib.hid (HS4.out.ext hb)
  clear hg hb HCE d2 e2 e3 e4 HS4
  by_cases h0 : ec = 0
  case neg =>
    have z0 : (ec == 0) = false := by simp [h0]
    have H0 := Lib.hid h0
    clear h0
    go_wp2_with fail
    go_ret
    exact ⟨isE_ne H0.out, HS5.out.bel⟩
  subst h0
  have HG2 := Lib.hid (HG.out rfl)
  have d0 := HS5.out.blk_cell (i := 0) rfl 0
  have d1 := HS5.out.blk_cell (i := 0) rfl 1
  have d2 := HS5.out.blk_cell (i := 0) rfl 2
  have d3 := HS5.out.blk_cell (i := 0) rfl 3
  have d4 := HS5.out.blk_cell (i := 0) rfl 4
  have d5 := HS5.out.blk_cell (i := 0) rfl 5
  have e0 := HS5.out.blk_cell (i := 1) rfl 0
  have e1 := HS5.out.blk_cell (i := 1) rfl 1
  have e2 := HS5.out.blk_cell (i := 1) rfl 2
  obtain ⟨ow, how⟩ : ∃ z, z = decide (xb = xp) := ⟨_, rfl⟩
  have q1 : (xb.toList == xp.toList) = ow := by
    rw [how]
    by_cases h : xb = xp
    · rw [decide_eq_true h, h]; simp
    · rw [decide_eq_false h]; exact bytes_neU h
  rw [← how] at HOK2
  have HMC := Lib.hid (HMK.out xp xh ow w5 HS5.out.bel)
  clear how HMK HG
  generalize mkI ks xp xh ow = mk at *
  go_wp2_with fail
  by_cases h1 : mk < (i : Int)
  · have t5 : decide (mk < (i : Int)) = true := decide_eq_true h1
    clear h1
    go_at_call 75
    refine HMC.out.mono ?_
    rintro e w6 ⟨rfl, hb⟩
    have HB := Lib.hid (HS5.out.ext hb).bel
    clear hb
    go_wp2_with fail
    go_ret
    exact ⟨isE_ne (by decide), HB.out⟩
  have t5 : decide (mk < (i : Int)) = false := decide_eq_false h1
  have HF := Lib.hid (HOK2.out (by have := HM0.out; omega) (by have := HM0b.out; omega) HHH.out.1 HHH.out.2 HG2.out (by omega))
  clear h1
  go_at_call 75
  refine HMC.out.mono ?_
  rintro e w6 ⟨rfl, hb⟩
  have HB := Lib.hid (HS5.out.ext hb).bel
  clear hb
  go_wp2_with fail
  go_ret
  exact ⟨isE_ok HF.out, HB.out⟩
end Go.Proofs.YtnaafefcijgpkaaGreatDoor
/- Chapter 10, the reference: Round, checkKept. -/
namespace Go.Proofs.YtnaafefcijgpkaaGreatDoor
open Go.RowKit Go.Mem Go.Sheet Go.Adj
theorem rd_kp {w : World} {S : Nat → Prop} {n : Nat} {A : Option Addr} {m c k : Nat} {l : List KpI} (h : Rd w S 3 (.slice A m c) n (l.flatMap KpI.cells)) (hk : k < n) :
    ∃ b o, A = some ⟨b, o, none⟩ ∧ l[k]? = some (kpAt l k) ∧ w.cell? ⟨b, o + k * 3, none⟩ = some (.string (kpAt l k).name) ∧ w.cell? ⟨b, o + k * 3 + 1, none⟩ = some (.slice (kpAt l k).ha (kpAt l k).hn (kpAt l k).hc) ∧ w.cell? ⟨b, o + k * 3 + 2, none⟩ = some (.slice (kpAt l k).ca (kpAt l k).cn (kpAt l k).cc) := by
  obtain ⟨b, o, x, e, hx, c0, c1, c2⟩ := h.elem3 (fun s : KpI => .string s.name) (fun s : KpI => .slice s.ha s.hn s.hc) (fun s : KpI => .slice s.ca s.cn s.cc) (fun _ => rfl) hk
  rw [kpAt_eq hx]
  exact ⟨b, o, e, hx, c0, c1, c2⟩
theorem rd_cd {w : World} {S : Nat → Prop} {n : Nat} {A : Option Addr} {m c k : Nat} {l : List CdI} (h : Rd w S 2 (.slice A m c) n (l.flatMap CdI.cells)) (hk : k < n) :
    ∃ b o, A = some ⟨b, o, none⟩ ∧ l[k]? = some (cdAt l k) ∧ w.cell? ⟨b, o + k * 2, none⟩ = some (.string (cdAt l k).name) ∧ w.cell? ⟨b, o + k * 2 + 1, none⟩ = some (.slice (cdAt l k).a (cdAt l k).m (cdAt l k).c) := by
  obtain ⟨b, o, x, e, hx, c0, c1⟩ := h.elem2 (fun s : CdI => .string s.name) (fun s : CdI => .slice s.a s.m s.c) (fun _ => rfl) hk
  rw [cdAt_eq hx]
  exact ⟨b, o, e, hx, c0, c1⟩
set_option maxRecDepth 100000 in
set_option maxHeartbeats 4000000 in
theorem refRound_any (W : World) (u : UI) (s : ByteArray) (h : RdU W (· < W.heap.size) u) :
    Calls Tryz.prog 78 #[u.val, .string s] W fun e w' => e = .returned (.int .i64 (rdI u.ps s)) ∧ Below W.heap.size W w' := by
  have hn := h.p.1.le
  have hlen : u.np = u.ps.length := h.p.1.count (f := KpI.cells) (size := 3) (fun _ => rfl) (by decide)
  have hm := h.p.1
  clear h
  obtain ⟨vc, nc, cl, vm, nm, ms, vh, nh, hs, vk, nk, ks, vs, ns, sg, vp, np, ps⟩ := u
  simp only [UI.val] at *
  obtain ⟨A, c, rfl, _, _, _⟩ := hm.open_
  have S0 := (St.refl W).blk_new #[vc, vm, vh, vk, vs, .slice A np c] 34
  simp only [List.nil_append] at S0
  have H := Lib.hid hm
  obtain ⟨gc, hgc⟩ : ∃ g, g = W.heap.size := ⟨_, rfl⟩
  have d5 := S0.blk_cell (i := 0) rfl 5
  rw [← hgc] at S0 d5
  have HB := Lib.hid S0.bel
  have HM := Lib.hid (hm.later S0.bel)
  have HLN := Lib.hid hlen
  clear S0 hm hlen
  go_enter Tryz.func78, Tryz.ntmps78
  go_wp2_with fail
  rw [← hgc]
  generalize W.alloc (.cells #[vc, vm, vh, vk, vs, .slice A np c] 34) = w1 at *
  clear hgc
  go_loop [5] (fun i => ∃ k : Nat, k ≤ np ∧ i = .int .i64 k ∧ Hid (∀ j, j < k → (kpAt ps j).name ≠ s)) (fun i => np - (intOf i).toNat)
  case atStart => exact ⟨0, Nat.zero_le _, rfl, fun j hj => absurd hj (Nat.not_lt_zero _)⟩
  case round =>
    obtain ⟨k, hk, rfl, hin⟩ := hrel
    by_cases hlt : k < np
    · obtain ⟨b, o, rfl, hy, c0, _, _⟩ := rd_kp HM.out hlt
      obtain ⟨y, hye⟩ : ∃ y, y = (kpAt ps k).name := ⟨_, rfl⟩
      rw [← hye] at c0
      have HY := Lib.hid hye
      clear hy hye
      by_cases he : y = s
      · have q1 : (y.toList == s.toList) = true := by rw [he]; simp
        have HE : Hid (rdI ps s = (k : Int)) := by
          show fstI _ _ = _
          refine fstI_at (decide_eq_true (by rw [← HY.out]; exact he)) (fun j hj => decide_eq_false (hin.out j hj)) (by rw [← HLN.out]; exact hlt)
        clear he
        go_wp2
        go_ret
        exact ⟨by rw [HE.out]; rfl, HB.out⟩
      · have q1 : (y.toList == s.toList) = false := bytes_neU he
        have HN : Hid (∀ j, j < k + 1 → (kpAt ps j).name ≠ s) := fun j hj => by
          rcases Nat.lt_or_ge j k with h1 | h1
          · exact hin.out j h1
          · rw [show j = k by omega, ← HY.out]; exact he
        clear he
        go_wp2
        go_round
        case rel => exact ⟨k + 1, by omega, by go_num, HN⟩
        case measure => simp [intOf]; omega
    · obtain rfl : np = k := by omega
      have HE : Hid (rdI ps s = -1) := by
        show fstI _ _ = _
        refine fstI_none fun j hj => decide_eq_false (hin.out j (by rw [HLN.out]; exact hj))
      go_wp2
      go_ret
      exact ⟨by rw [HE.out]; rfl, HB.out⟩
end Go.Proofs.YtnaafefcijgpkaaGreatDoor
/- Chapter 10, the reference: Open. -/
namespace Go.Proofs.YtnaafefcijgpkaaGreatDoor
open Go.RowKit Go.Mem Go.Sheet Go.Adj
set_option maxRecDepth 100000 in
set_option maxHeartbeats 4000000 in
theorem refOpen_any (W : World) (u : UI) (s : ByteArray) (hnh : u.nh ≤ 36) (h : RdU W (· < W.heap.size) u) :
    Calls Tryz.prog 76 #[u.val, .string s] W fun e w' => (∃ (A : Option Addr) (n c : Nat), e = .returned (.slice A n c) ∧ Hid (n = 0 → ∀ t : Nat, 1 ≤ t → t ≤ u.nh → 0 ≤ mkI u.ks s t false ∧ 0 ≤ mkI u.ks s t true)) ∧ Below W.heap.size W w' := by
  have hhh := h.h
  have HMK : Hid (∀ hh own w, Below W.heap.size W w → Calls Tryz.prog 75 #[u.val, .string s, .int .i64 hh, .bool own] w fun e w' => e = .returned (.int .i64 (mkI u.ks s hh own)) ∧ Below w.heap.size w w') := fun hh own w hb => refMark_any w u s hh own (h.later hb)
  clear h
  obtain ⟨vc, nc, cl, vm, nm, ms, vh, nh, hs, vk, nk, ks, vs, ns, sg, vp, np, ps⟩ := u
  simp only [UI.val] at *
  obtain ⟨Ah, ch, rfl, _, _, _⟩ := hhh.open_
  have S0 := ((St.refl W).blk_new #[vc, vm, .slice Ah nh ch, vk, vs, vp] 34).row_nil 3 1
  simp only [List.cons_append, List.nil_append] at S0
  obtain ⟨gc, hgc⟩ : ∃ g, g = W.heap.size := ⟨_, rfl⟩
  rw [← hgc] at S0
  have HS0 := Lib.hid S0
  have d2 := S0.blk_cell (i := 0) rfl 2
  clear S0 hhh
  go_enter Tryz.func76, Tryz.ntmps76
  go_wp2_with fail
  rw [← hgc]
  generalize W.alloc (.cells #[vc, vm, .slice Ah nh ch, vk, vs, vp] 34) = w1 at *
  clear hgc d2
  go_loopw [6, 5] (fun i lv w' => ∃ (k m : Nat) (xs : List Int), 1 ≤ k ∧ k ≤ nh + 1 ∧ m < k ∧ i = .int .i64 k ∧ Hid (m = 0 → ∀ t : Nat, 1 ≤ t → t < k → 0 ≤ mkI ks s t false ∧ 0 ≤ mkI ks s t true) ∧ St W w' [blk gc 34 #[vc, vm, .slice Ah nh ch, vk, vs, vp], row 3 1 lv m (xs.map (Value.int .i64))]) (fun i _ _ => nh + 1 - (intOf i).toNat)
  case atStart => exact ⟨1, 0, [], Nat.le_refl _, by omega, by omega, rfl, fun _ t h1 h2 => by omega, HS0.out⟩
  case round =>
    obtain ⟨k, m, xs, hk1, hk, hmk, rfl, hin, S⟩ := hrel
    clear HS0
    have d0 := S.blk_cell (i := 0) rfl 0
    have d1 := S.blk_cell (i := 0) rfl 1
    have d2 := S.blk_cell (i := 0) rfl 2
    have d3 := S.blk_cell (i := 0) rfl 3
    have d4 := S.blk_cell (i := 0) rfl 4
    have d5 := S.blk_cell (i := 0) rfl 5
    obtain ⟨Al, cl', rfl, _, _, _⟩ := (S.row_rd (i := 1) rfl).open_
    by_cases hlt : k ≤ nh
    · have t0 : decide ((k : Int) ≤ (nh : Int)) = true := decide_eq_true (by omega)
      have t0' : decide (k ≤ nh) = true := decide_eq_true hlt
      have HS := Lib.hid S
      have HM1 := Lib.hid (HMK.out (k : Int) false wr S.bel)
      have HIN : Hid (¬ mkI ks s k false < 0 → ¬ mkI ks s k true < 0 → m = 0 → ∀ t : Nat, 1 ≤ t → t < k + 1 → 0 ≤ mkI ks s t false ∧ 0 ≤ mkI ks s t true) := fun a b hm t h1 h2 => by
        rcases Nat.lt_or_ge t k with h3 | h3
        · exact hin.out hm t h1 h3
        · rw [show t = k by omega]; exact ⟨by omega, by omega⟩
      obtain ⟨ma, hma⟩ : ∃ z, z = mkI ks s k false := ⟨_, rfl⟩
      rw [← hma] at HM1 HIN
      clear S hma
      go_wp2_with fail
      go_at_call 75
      refine HM1.out.mono ?_
      rintro e w2 ⟨rfl, hb⟩
      have HS2 := Lib.hid (HS.out.ext hb)
      clear hb HS HM1 d0 d1 d2 d3 d4 d5
      have HM2 := Lib.hid (HMK.out (k : Int) true w2 HS2.out.bel)
      obtain ⟨mb, hmb⟩ : ∃ z, z = mkI ks s k true := ⟨_, rfl⟩
      rw [← hmb] at HM2 HIN
      clear hmb
      by_cases h1 : ma < 0
      · have t1 : decide (ma < 0) = true := decide_eq_true h1
        clear h1
        go_wp2_with (at_builtin; refine wpList_append_st eltI rfl _ _ rfl rfl (HS2.out.alloc _) (k := 1) rfl rfl (rd_one (by simp)) (one_int _ _) (by omega) (by omega) ?_; intro v' w' S' _; simp only [List.set_cons_zero, List.set_cons_succ] at S'; have HS' := Lib.hid S'; clear S')
        go_roundw
        case rel => exact ⟨k + 1, m + 1, xs ++ [(k : Int)], by omega, by omega, by omega, by go_num, fun h => by omega, by rw [List.map_append]; exact HS'.out⟩
        case measure => simp [intOf]; omega
      have t1 : decide (ma < 0) = false := decide_eq_false h1
      have d0 := HS2.out.blk_cell (i := 0) rfl 0
      have d1 := HS2.out.blk_cell (i := 0) rfl 1
      have d2 := HS2.out.blk_cell (i := 0) rfl 2
      have d3 := HS2.out.blk_cell (i := 0) rfl 3
      have d4 := HS2.out.blk_cell (i := 0) rfl 4
      have d5 := HS2.out.blk_cell (i := 0) rfl 5
      go_wp2_with fail
      go_at_call 75
      refine HM2.out.mono ?_
      rintro e w3 ⟨rfl, hb⟩
      have HS3 := Lib.hid (HS2.out.ext hb)
      clear hb HS2 HM2 d0 d1 d2 d3 d4 d5
      by_cases h2 : mb < 0
      · have t2 : decide (mb < 0) = true := decide_eq_true h2
        clear h1 h2
        go_wp2_with (at_builtin; refine wpList_append_st eltI rfl _ _ rfl rfl (HS3.out.alloc _) (k := 1) rfl rfl (rd_one (by simp)) (one_int _ _) (by omega) (by omega) ?_; intro v' w' S' _; simp only [List.set_cons_zero, List.set_cons_succ] at S'; have HS' := Lib.hid S'; clear S')
        go_roundw
        case rel => exact ⟨k + 1, m + 1, xs ++ [(k : Int)], by omega, by omega, by omega, by go_num, fun h => by omega, by rw [List.map_append]; exact HS'.out⟩
        case measure => simp [intOf]; omega
      have t2 : decide (mb < 0) = false := decide_eq_false h2
      have HN := Lib.hid (HIN.out (by omega) (by omega))
      clear h1 h2
      go_wp2_with fail
      go_roundw
      case rel => exact ⟨k + 1, m, xs, by omega, by omega, by omega, by go_num, HN, HS3.out⟩
      case measure => simp [intOf]; omega
    · have t0 : decide ((k : Int) ≤ (nh : Int)) = false := decide_eq_false (by omega)
      have t0' : decide (k ≤ nh) = false := decide_eq_false hlt
      have HF : Hid (m = 0 → ∀ t : Nat, 1 ≤ t → t ≤ nh → 0 ≤ mkI ks s t false ∧ 0 ≤ mkI ks s t true) := fun hm t h1 h2 => hin.out hm t h1 (by omega)
      have HB := Lib.hid S.bel
      clear S
      go_wp2_with fail
      go_ret
      exact ⟨⟨_, _, _, rfl, HF⟩, HB.out⟩
end Go.Proofs.YtnaafefcijgpkaaGreatDoor
/- Chapter 10, the reference: fits. -/
namespace Go.Proofs.YtnaafefcijgpkaaGreatDoor
open Go.RowKit Go.Mem Go.Sheet Go.Adj
theorem refFits_any (w : World) (k n most : Nat) (hm : most ≤ 1000000) : Calls Tryz.prog 42 #[.int .i64 k, .int .i64 n, .int .i64 most] w fun e w' => IsBo (k ≤ n ∨ most < k) e ∧ w = w' := by
  have HN : Hid (k ≤ n → k ≤ n ∨ most < k) := fun h => .inl h
  have HM : Hid (most < k → k ≤ n ∨ most < k) := fun h => .inr h
  generalize (k ≤ n ∨ most < k) = P at *
  have hw : IntKind.i64.wrap ((most : Int) + 3) = (most : Int) + 3 := IntWalk.i64_in _ (by omega)
  go_enter Tryz.func42, Tryz.ntmps42
  by_cases h1 : k ≤ n
  · have t1 : decide ((k : Int) ≤ (n : Int)) = true := decide_eq_true (by omega)
    have t1' : decide (k ≤ n) = true := decide_eq_true h1
    have HP := Lib.hid (HN.out h1)
    clear h1
    go_wp2_with fail
    go_ret
    exact ⟨isBo_yes HP.out, rfl⟩
  have t1 : decide ((k : Int) ≤ (n : Int)) = false := decide_eq_false (by omega)
  have t1' : decide (k ≤ n) = false := decide_eq_false h1
  by_cases h2 : most < k
  · have t2 : decide ((most : Int) < (k : Int)) = true := decide_eq_true (by omega)
    have t2' : decide (most < k) = true := decide_eq_true h2
    have HP := Lib.hid (HM.out h2)
    by_cases h3 : (k : Int) ≤ (most : Int) + 3
    · have t3 : decide ((k : Int) ≤ (most : Int) + 3) = true := decide_eq_true h3
      clear h1 h2 h3
      go_wp2_with fail
      go_ret
      exact ⟨isBo_yes HP.out, rfl⟩
    · have t3 : decide ((k : Int) ≤ (most : Int) + 3) = false := decide_eq_false h3
      clear h1 h2 h3
      go_wp2_with fail
      go_ret
      exact ⟨isBo_no, rfl⟩
  · have t2 : decide ((most : Int) < (k : Int)) = false := decide_eq_false (by omega)
    have t2' : decide (most < k) = false := decide_eq_false h2
    clear h1 h2
    go_wp2_with fail
    go_ret
    exact ⟨isBo_no, rfl⟩
end Go.Proofs.YtnaafefcijgpkaaGreatDoor
/- Chapter 10, the reference: shortKept. -/
namespace Go.Proofs.YtnaafefcijgpkaaGreatDoor
open Go.RowKit Go.Mem Go.Sheet Go.Adj
set_option maxRecDepth 100000 in
set_option maxHeartbeats 4000000 in
theorem refShortKept_any (W : World) (p : KpI) (hh : Rd W (· < W.heap.size) 2 (.slice p.ha p.hn p.hc) p.hn (p.hs.flatMap HI.cells)) (hc : RdCd W (· < W.heap.size) (.slice p.ca p.cn p.cc) p.cn p.cs) (hs : StrOk p.name) :
    Calls Tryz.prog 43 #[.agg #[.string p.name, .slice p.ha p.hn p.hc, .slice p.ca p.cn p.cc]] W fun e w' => IsBo True e ∧ Below W.heap.size W w' := by
  have hnh := hh.le
  have hnc := hc.1.le
  obtain ⟨name, ha, hn, hcap, hl, ca, cn, cc, cs⟩ := p
  simp only [StrOk] at *
  have S0 := (St.refl W).blk_new #[.string name, .slice ha hn hcap, .slice ca cn cc] 88
  simp only [List.nil_append] at S0
  obtain ⟨gc, hgc⟩ : ∃ g, g = W.heap.size := ⟨_, rfl⟩
  rw [← hgc] at S0
  have HS0 := Lib.hid S0
  have d0 := S0.blk_cell (i := 0) rfl 0
  have d1 := S0.blk_cell (i := 0) rfl 1
  have d2 := S0.blk_cell (i := 0) rfl 2
  have HC := Lib.hid hc
  have HFT : Hid (∀ w, Calls Tryz.prog 42 #[.int .i64 cn, .int .i64 5, .int .i64 200] w fun e w' => IsBo (cn ≤ 5 ∨ 200 < cn) e ∧ w = w') := fun w => refFits_any w cn 5 200 (by omega)
  clear S0 hh hc
  go_enter Tryz.func43, Tryz.ntmps43
  by_cases h1 : 60 < (name.size : Int)
  · have t1 : decide (60 < (name.size : Int)) = true := decide_eq_true h1
    clear h1
    go_wp2_with fail
    go_ret
    exact ⟨isBo_no, HS0.out.bel⟩
  have t1 : decide (60 < (name.size : Int)) = false := decide_eq_false h1
  by_cases h2 : 39 < (hn : Int)
  · have t2 : decide (39 < (hn : Int)) = true := decide_eq_true h2
    have t2' : decide (39 < hn) = true := decide_eq_true (by omega)
    clear h1 h2
    go_wp2_with fail
    go_ret
    exact ⟨isBo_no, HS0.out.bel⟩
  have t2 : decide (39 < (hn : Int)) = false := decide_eq_false h2
  have t2' : decide (39 < hn) = false := decide_eq_false (by omega)
  clear h1 h2
  go_wp2_with fail
  rw [← hgc]
  generalize W.alloc (.cells #[.string name, .slice ha hn hcap, .slice ca cn cc] 88) = w1 at *
  clear hgc
  go_at_call 42
  refine (HFT.out w1).mono ?_
  rintro e w' ⟨⟨bo, rfl, _⟩, rfl⟩
  cases bo
  · go_wp2_with fail
    go_ret
    exact ⟨isBo_no, HS0.out.bel⟩
  clear HFT
  go_wp2_with fail
  go_loopw [3] (fun i w' => ∃ k : Nat, k ≤ cn ∧ i = .int .i64 k ∧ St W w' [blk gc 88 #[.string name, .slice ha hn hcap, .slice ca cn cc]]) (fun i _ => cn - (intOf i).toNat)
  case atStart => exact ⟨0, Nat.zero_le _, rfl, HS0.out⟩
  case round =>
    obtain ⟨k, hk, rfl, S⟩ := hrel
    clear HS0 d0 d1 d2
    have d2 := S.blk_cell (i := 0) rfl 2
    by_cases hlt : k < cn
    · have hcl := HC.out.later S.bel
      obtain ⟨b, o, rfl, hx, c0, c1⟩ := rd_cd hcl.1 hlt
      have HSP := Lib.hid (shortPlayer_any wr (cdAt cs k).name (cdAt cs k).a (cdAt cs k).m (cdAt cs k).c (cdAt cs k).es 0 (hcl.2 _ (List.mem_of_getElem? hx)).1)
      have HS := Lib.hid S
      clear S hcl hx
      generalize cdAt cs k = x at *
      obtain ⟨xn, xa, xm, xc, xe⟩ := x
      go_wp2_with fail
      go_at_call 73
      refine HSP.out.mono ?_
      rintro e w3 ⟨⟨bo, rfl, _⟩, hb⟩
      have HS3 := Lib.hid (HS.out.ext hb)
      clear hb HS HSP
      cases bo
      · go_wp2_with fail
        go_ret
        exact ⟨isBo_no, HS3.out.bel⟩
      · go_wp2_with fail
        go_roundw
        case rel => exact ⟨k + 1, by omega, by go_num, HS3.out⟩
        case measure => simp [intOf]; omega
    · obtain rfl : cn = k := by omega
      have HB := Lib.hid S.bel
      clear S
      go_wp2_with fail
      go_ret
      exact ⟨isBo_yes trivial, HB.out⟩
end Go.Proofs.YtnaafefcijgpkaaGreatDoor
/- Chapter 10, the reference: Short. -/
namespace Go.Proofs.YtnaafefcijgpkaaGreatDoor
open Go.RowKit Go.Mem Go.Sheet Go.Adj
def ShortU (u : UI) : Prop := (u.nc ≤ 6 ∨ 256 < u.nc) ∧ (u.nm ≤ 6 ∨ 200 < u.nm) ∧ u.nh ≤ 39 ∧ (u.nk ≤ 30 ∨ 1000 < u.nk) ∧ (u.ns ≤ 8 ∨ 200 < u.ns) ∧ (u.np ≤ 4 ∨ 256 < u.np)
set_option maxRecDepth 100000 in
set_option maxHeartbeats 8000000 in
theorem refShort_any (W : World) (u : UI) (h : RdU W (· < W.heap.size) u) :
    Calls Tryz.prog 18 #[u.val] W fun e w' => IsBo (ShortU u) e ∧ Below W.heap.size W w' := by
  have HSH : Hid ((u.nc ≤ 6 ∨ 256 < u.nc) → (u.nm ≤ 6 ∨ 200 < u.nm) → u.nh ≤ 39 → (u.nk ≤ 30 ∨ 1000 < u.nk) → (u.ns ≤ 8 ∨ 200 < u.ns) → (u.np ≤ 4 ∨ 256 < u.np) → ShortU u) := fun a b c d e f => ⟨a, b, c, d, e, f⟩
  generalize ShortU u = P at *
  have hc := h.c
  have hm := h.m
  have hh := h.h
  have hk := h.k
  have hs := h.s
  have hp := h.p
  clear h
  obtain ⟨vc, nc, cl, vm, nm, ms, vh, nh, hs0, vk, nk, ks, vs, ns, sg, vp, np, ps⟩ := u
  simp only [UI.val] at *
  have l1 := hc.le
  have l2 := hm.le
  have l3 := hh.le
  have l4 := hk.le
  have l5 := hs.le
  have l6 := hp.1.le
  obtain ⟨Ac, cc, rfl, _, _, _⟩ := hc.open_
  obtain ⟨Am, cm, rfl, _, _, _⟩ := hm.open_
  obtain ⟨Ah, ch, rfl, _, _, _⟩ := hh.open_
  obtain ⟨Ak, ck, rfl, _, _, _⟩ := hk.open_
  obtain ⟨As, cs, rfl, _, _, _⟩ := hs.open_
  obtain ⟨Ap, cp, rfl, _, _, _⟩ := hp.1.open_
  have F1 : Hid (∀ w, Calls Tryz.prog 42 #[.int .i64 nc, .int .i64 6, .int .i64 256] w fun e w' => IsBo (nc ≤ 6 ∨ 256 < nc) e ∧ w = w') := fun w => refFits_any w nc 6 256 (by omega)
  have F2 : Hid (∀ w, Calls Tryz.prog 42 #[.int .i64 nm, .int .i64 6, .int .i64 200] w fun e w' => IsBo (nm ≤ 6 ∨ 200 < nm) e ∧ w = w') := fun w => refFits_any w nm 6 200 (by omega)
  have F4 : Hid (∀ w, Calls Tryz.prog 42 #[.int .i64 nk, .int .i64 30, .int .i64 1000] w fun e w' => IsBo (nk ≤ 30 ∨ 1000 < nk) e ∧ w = w') := fun w => refFits_any w nk 30 1000 (by omega)
  have F5 : Hid (∀ w, Calls Tryz.prog 42 #[.int .i64 ns, .int .i64 8, .int .i64 200] w fun e w' => IsBo (ns ≤ 8 ∨ 200 < ns) e ∧ w = w') := fun w => refFits_any w ns 8 200 (by omega)
  have F6 : Hid (∀ w, Calls Tryz.prog 42 #[.int .i64 np, .int .i64 4, .int .i64 256] w fun e w' => IsBo (np ≤ 4 ∨ 256 < np) e ∧ w = w') := fun w => refFits_any w np 4 256 (by omega)
  have S0 := (St.refl W).blk_new #[.slice Ac nc cc, .slice Am nm cm, .slice Ah nh ch, .slice Ak nk ck, .slice As ns cs, .slice Ap np cp] 34
  simp only [List.nil_append] at S0
  obtain ⟨gc, hgc⟩ : ∃ g, g = W.heap.size := ⟨_, rfl⟩
  rw [← hgc] at S0
  have HS0 := Lib.hid S0
  have d0 := S0.blk_cell (i := 0) rfl 0
  have d1 := S0.blk_cell (i := 0) rfl 1
  have d2 := S0.blk_cell (i := 0) rfl 2
  have d3 := S0.blk_cell (i := 0) rfl 3
  have d4 := S0.blk_cell (i := 0) rfl 4
  have d5 := S0.blk_cell (i := 0) rfl 5
  have HC := Lib.hid (hc.later S0.bel)
  have HM := Lib.hid (hm.later S0.bel)
  have HK := Lib.hid (hk.later S0.bel)
  have HG := Lib.hid (hs.later S0.bel)
  have HPW : Hid (∀ w', Below W.heap.size W w' → RdKp w' (· < w'.heap.size) (.slice Ap np cp) np ps) := fun w' hb => hp.later hb
  have HB := Lib.hid S0.bel
  clear S0 hc hm hh hk hs hp
  go_enter Tryz.func18, Tryz.ntmps18
  go_wp2_with fail
  rw [← hgc]
  generalize W.alloc (.cells #[.slice Ac nc cc, .slice Am nm cm, .slice Ah nh ch, .slice Ak nk ck, .slice As ns cs, .slice Ap np cp] 34) = w1 at *
  clear hgc
  go_at_call 42
  refine (F1.out w1).mono ?_
  rintro e w' ⟨⟨bo, rfl, g1⟩, rfl⟩
  cases bo
  · clear g1
    go_wp2_with fail
    go_ret
    exact ⟨isBo_no, HB.out⟩
  have G1 := Lib.hid (g1 rfl)
  clear g1 F1
  go_wp2_with fail
  go_at_call 42
  refine (F2.out w1).mono ?_
  rintro e w' ⟨⟨bo, rfl, g2⟩, rfl⟩
  cases bo
  · clear g2
    go_wp2_with fail
    go_ret
    exact ⟨isBo_no, HB.out⟩
  have G2 := Lib.hid (g2 rfl)
  clear g2 F2
  by_cases h3 : 39 < (nh : Int)
  · have t2 : decide (39 < (nh : Int)) = true := decide_eq_true h3
    have t2' : decide (39 < nh) = true := decide_eq_true (by omega)
    clear h3
    go_wp2_with fail
    go_ret
    exact ⟨isBo_no, HB.out⟩
  have t2 : decide (39 < (nh : Int)) = false := decide_eq_false h3
  have t2' : decide (39 < nh) = false := decide_eq_false (by omega)
  have G3 : Hid (nh ≤ 39) := by show _ ≤ _; omega
  clear h3
  go_wp2_with fail
  go_at_call 42
  refine (F4.out w1).mono ?_
  rintro e w' ⟨⟨bo, rfl, g4⟩, rfl⟩
  cases bo
  · clear g4
    go_wp2_with fail
    go_ret
    exact ⟨isBo_no, HB.out⟩
  have G4 := Lib.hid (g4 rfl)
  clear g4 F4
  go_wp2_with fail
  go_at_call 42
  refine (F5.out w1).mono ?_
  rintro e w' ⟨⟨bo, rfl, g5⟩, rfl⟩
  cases bo
  · clear g5
    go_wp2_with fail
    go_ret
    exact ⟨isBo_no, HB.out⟩
  have G5 := Lib.hid (g5 rfl)
  clear g5 F5
  go_wp2_with fail
  go_at_call 42
  refine (F6.out w1).mono ?_
  rintro e w' ⟨⟨bo, rfl, g6⟩, rfl⟩
  cases bo
  · clear g6
    go_wp2_with fail
    go_ret
    exact ⟨isBo_no, HB.out⟩
  have G6 := Lib.hid (g6 rfl)
  clear g6 F6
  go_wp2_with fail
  have HF := Lib.hid (HSH.out G1.out G2.out G3.out G4.out G5.out G6.out)
  clear HSH G1 G2 G3 G4 G5 G6
  go_loop [3] (fun i => ∃ k : Nat, k ≤ nc ∧ i = .int .i64 k) (fun i => nc - (intOf i).toNat)
  case atStart => exact ⟨0, Nat.zero_le _, rfl⟩
  case round =>
    obtain ⟨k, hk, rfl⟩ := hrel
    by_cases hlt : k < nc
    · obtain ⟨b, o, rfl, _, c0⟩ := rd_str HC.out hlt
      generalize sAt cl k = s1 at *
      by_cases h_s1 : 60 < (s1.size : Int)
      · have t_s1 : decide (60 < (s1.size : Int)) = true := decide_eq_true h_s1
        clear h_s1
        go_wp2_with fail
        go_ret
        exact ⟨isBo_no, HB.out⟩
      have t_s1 : decide (60 < (s1.size : Int)) = false := decide_eq_false h_s1
      clear h_s1
      go_wp2_with fail
      go_round
      case rel => exact ⟨k + 1, by omega, by go_num⟩
      case measure => simp [intOf]; omega
    obtain rfl : nc = k := by omega
    clear hlt hk
    go_wp2_with fail
    go_loop [4] (fun i => ∃ k : Nat, k ≤ nm ∧ i = .int .i64 k) (fun i => nm - (intOf i).toNat)
    case atStart => exact ⟨0, Nat.zero_le _, rfl⟩
    case round =>
      obtain ⟨k, hk, rfl⟩ := hrel
      by_cases hlt : k < nm
      · obtain ⟨b, o, rfl, _, c0, c1, _⟩ := rd_mb HM.out hlt
        generalize (mbAt ms k).name = s1 at *
        generalize (mbAt ms k).club = s2 at *
        by_cases h_s1 : 60 < (s1.size : Int)
        · have t_s1 : decide (60 < (s1.size : Int)) = true := decide_eq_true h_s1
          clear h_s1
          go_wp2_with fail
          go_ret
          exact ⟨isBo_no, HB.out⟩
        have t_s1 : decide (60 < (s1.size : Int)) = false := decide_eq_false h_s1
        clear h_s1
        by_cases h_s2 : 60 < (s2.size : Int)
        · have t_s2 : decide (60 < (s2.size : Int)) = true := decide_eq_true h_s2
          clear h_s2
          go_wp2_with fail
          go_ret
          exact ⟨isBo_no, HB.out⟩
        have t_s2 : decide (60 < (s2.size : Int)) = false := decide_eq_false h_s2
        clear h_s2
        go_wp2_with fail
        go_round
        case rel => exact ⟨k + 1, by omega, by go_num⟩
        case measure => simp [intOf]; omega
      obtain rfl : nm = k := by omega
      clear hlt hk
      go_wp2_with fail
      go_loop [5] (fun i => ∃ k : Nat, k ≤ nk ∧ i = .int .i64 k) (fun i => nk - (intOf i).toNat)
      case atStart => exact ⟨0, Nat.zero_le _, rfl⟩
      case round =>
        obtain ⟨k, hk, rfl⟩ := hrel
        by_cases hlt : k < nk
        · obtain ⟨b, o, rfl, _, c0, c1, _, _, c4⟩ := rd_mk HK.out hlt
          generalize (mkAt ks k).pl = s1 at *
          generalize (mkAt ks k).by_ = s2 at *
          generalize (mkAt ks k).m = s3 at *
          by_cases h_s1 : 60 < (s1.size : Int)
          · have t_s1 : decide (60 < (s1.size : Int)) = true := decide_eq_true h_s1
            clear h_s1
            go_wp2_with fail
            go_ret
            exact ⟨isBo_no, HB.out⟩
          have t_s1 : decide (60 < (s1.size : Int)) = false := decide_eq_false h_s1
          clear h_s1
          by_cases h_s2 : 60 < (s2.size : Int)
          · have t_s2 : decide (60 < (s2.size : Int)) = true := decide_eq_true h_s2
            clear h_s2
            go_wp2_with fail
            go_ret
            exact ⟨isBo_no, HB.out⟩
          have t_s2 : decide (60 < (s2.size : Int)) = false := decide_eq_false h_s2
          clear h_s2
          by_cases h_s3 : 60 < (s3.size : Int)
          · have t_s3 : decide (60 < (s3.size : Int)) = true := decide_eq_true h_s3
            clear h_s3
            go_wp2_with fail
            go_ret
            exact ⟨isBo_no, HB.out⟩
          have t_s3 : decide (60 < (s3.size : Int)) = false := decide_eq_false h_s3
          clear h_s3
          go_wp2_with fail
          go_round
          case rel => exact ⟨k + 1, by omega, by go_num⟩
          case measure => simp [intOf]; omega
        obtain rfl : nk = k := by omega
        clear hlt hk
        go_wp2_with fail
        go_loop [6] (fun i => ∃ k : Nat, k ≤ ns ∧ i = .int .i64 k) (fun i => ns - (intOf i).toNat)
        case atStart => exact ⟨0, Nat.zero_le _, rfl⟩
        case round =>
          obtain ⟨k, hk, rfl⟩ := hrel
          by_cases hlt : k < ns
          · obtain ⟨b, o, rfl, _, c0⟩ := rd_str HG.out hlt
            generalize sAt sg k = s1 at *
            by_cases h_s1 : 60 < (s1.size : Int)
            · have t_s1 : decide (60 < (s1.size : Int)) = true := decide_eq_true h_s1
              clear h_s1
              go_wp2_with fail
              go_ret
              exact ⟨isBo_no, HB.out⟩
            have t_s1 : decide (60 < (s1.size : Int)) = false := decide_eq_false h_s1
            clear h_s1
            go_wp2_with fail
            go_round
            case rel => exact ⟨k + 1, by omega, by go_num⟩
            case measure => simp [intOf]; omega
          obtain rfl : ns = k := by omega
          clear hlt hk
          go_wp2_with fail
          go_loopw [7] (fun i w' => ∃ k : Nat, k ≤ np ∧ i = .int .i64 k ∧ St W w' [blk gc 34 #[.slice Ac nc cc, .slice Am nm cm, .slice Ah nh ch, .slice Ak nk ck, .slice As ns cs, .slice Ap np cp]]) (fun i _ => np - (intOf i).toNat)
          case atStart => exact ⟨0, Nat.zero_le _, rfl, HS0.out⟩
          case round =>
            obtain ⟨k, hk, rfl, S⟩ := hrel
            clear d0 d1 d2 d3 d4 d5 HS0
            have d5 := S.blk_cell (i := 0) rfl 5
            by_cases hlt : k < np
            · have hpl : RdKp wr (· < wr.heap.size) (.slice Ap np cp) np ps := HPW.out wr S.bel
              obtain ⟨b, o, rfl, hx, c0, c1, c2⟩ := rd_kp hpl.1 hlt
              have hpx := hpl.2 _ (List.mem_of_getElem? hx)
              have HSK := Lib.hid (refShortKept_any wr (kpAt ps k) hpx.1 hpx.2.1 hpx.2.2)
              have HS := Lib.hid S
              clear S hpl hx hpx
              generalize kpAt ps k = x at *
              obtain ⟨xn, xha, xhn, xhc, xhs, xca, xcn, xcc, xcs⟩ := x
              go_wp2_with fail
              go_at_call 43
              refine HSK.out.mono ?_
              rintro e w3 ⟨⟨bo, rfl, _⟩, hb⟩
              have HS3 := Lib.hid (HS.out.ext hb)
              clear hb HS HSK
              cases bo
              · go_wp2_with fail
                go_ret
                exact ⟨isBo_no, HS3.out.bel⟩
              · go_wp2_with fail
                go_roundw
                case rel => exact ⟨k + 1, by omega, by go_num, HS3.out⟩
                case measure => simp [intOf]; omega
            · obtain rfl : np = k := by omega
              have HB2 := Lib.hid S.bel
              clear S
              go_wp2_with fail
              go_ret
              exact ⟨isBo_yes HF.out, HB2.out⟩
end Go.Proofs.YtnaafefcijgpkaaGreatDoor
/- Chapter 10, the reference: checkKept. -/
namespace Go.Proofs.YtnaafefcijgpkaaGreatDoor
open Go.RowKit Go.Mem Go.Sheet Go.Adj
def KeptOk (u : UI) (i : Nat) : Prop := GoodKp (kpAt u.ps i) ∧ ∀ j, j < i → (kpAt u.ps j).name ≠ (kpAt u.ps i).name
theorem rdI_self {ps : List KpI} {i : Nat} (hi : i < ps.length) (h : ¬ rdI ps (kpAt ps i).name < (i : Int)) : ∀ j, j < i → (kpAt ps j).name ≠ (kpAt ps i).name := by
  intro j hj e
  have hP := fstI_inv (fun j => decide ((kpAt ps j).name = (kpAt ps i).name)) ps.length
  unfold rdI at h
  rcases hP with ⟨e1, h1⟩ | ⟨k, hk, e1, h1, h2⟩
  · have := h1 i hi; simp at this
  · rw [e1] at h
    have := h2 j (by omega)
    rw [decide_eq_true e] at this
    cases this
set_option maxRecDepth 100000 in
set_option maxHeartbeats 4000000 in
theorem refCheckKept_any (W : World) (u : UI) (i : Nat) (hi : i < u.np) (h : RdU W (· < W.heap.size) u) :
    Calls Tryz.prog 50 #[u.val, .int .i64 i] W fun e w' => IsE (KeptOk u i) e ∧ Below W.heap.size W w' := by
  have hn := h.p.1.le
  have hlen : u.np = u.ps.length := h.p.1.count (f := KpI.cells) (size := 3) (fun _ => rfl) (by decide)
  have HGU := Lib.hid h
  have HOK : Hid (∀ x, x = kpAt u.ps i → GoodKp x → ¬ rdI u.ps x.name < (i : Int) → KeptOk u i) := fun x hx a b => by
    subst hx
    exact ⟨a, rdI_self (by omega) b⟩
  generalize hP : KeptOk u i = P at HOK ⊢
  clear hP
  have hp := h.p
  clear h
  have HRD : Hid (∀ s w, Below W.heap.size W w → Calls Tryz.prog 78 #[u.val, .string s] w fun e w' => e = .returned (.int .i64 (rdI u.ps s)) ∧ Below w.heap.size w w') := fun s w hb => refRound_any w u s (HGU.out.later hb)
  clear HGU
  obtain ⟨vc, nc, cl, vm, nm, ms, vh, nh, hs, vk, nk, ks, vs, ns, sg, vp, np, ps⟩ := u
  simp only [UI.val] at *
  obtain ⟨A, c, rfl, _, _, _⟩ := hp.1.open_
  obtain ⟨b, o, rfl, hx0, c0, c1, c2⟩ := rd_kp hp.1 hi
  obtain ⟨hph, hpc, hpn⟩ := hp.2 _ (List.mem_of_getElem? hx0)
  obtain ⟨x, hx⟩ : ∃ x, x = kpAt ps i := ⟨_, rfl⟩
  rw [← hx] at c0 c1 c2 hph hpc hpn
  have HOK2 := Lib.hid (HOK.out x hx)
  have HPH := Lib.hid hph
  have HPC := Lib.hid hpc
  have hcn := hpc.1.le
  clear HOK hx hx0 hph hpc hp hlen
  have S0 := (St.refl W).blk_new #[vc, vm, vh, vk, vs, .slice (some ⟨b, o, none⟩) np c] 34
  simp only [List.nil_append] at S0
  obtain ⟨gc, hgc⟩ : ∃ g, g = W.heap.size := ⟨_, rfl⟩
  rw [← hgc] at S0
  have HS0 := Lib.hid S0
  have hs1 : (W.alloc (.cells #[vc, vm, vh, vk, vs, .slice (some ⟨b, o, none⟩) np c] 34)).heap.size = gc + 1 := by rw [hgc]; simp
  obtain ⟨xn, xha, xhn, xhc, xhs, xca, xcn, xcc, xcs⟩ := x
  simp only [StrOk] at *
  have S1 := HS0.out.blk_new #[.string xn, .slice xha xhn xhc, .slice xca xcn xcc] 88
  simp only [List.cons_append, List.nil_append] at S1
  rw [hs1] at S1
  have HS1 := Lib.hid S1
  have l0 := World.block_lt_of_cell? _ _ c0
  have k0 := (HS0.out.bel.cell (p := ⟨b, o + i * 3, none⟩) l0).trans c0
  have k1 := (HS0.out.bel.cell (p := ⟨b, o + i * 3 + 1, none⟩) l0).trans c1
  have k2 := (HS0.out.bel.cell (p := ⟨b, o + i * 3 + 2, none⟩) l0).trans c2
  have d5 := HS0.out.blk_cell (i := 0) rfl 5
  clear S0 S1 c0 c1 c2 l0
  go_enter Tryz.func50, Tryz.ntmps50
  go_wp2_with fail
  rw [← hgc]
  generalize W.alloc (.cells #[vc, vm, vh, vk, vs, .slice (some ⟨b, o, none⟩) np c] 34) = w1 at *
  clear hgc hs1
  go_wp2_with fail
  clear k0 k1 k2 d5 HS0
  have d0 := HS1.out.blk_cell (i := 0) rfl 0
  have d1 := HS1.out.blk_cell (i := 0) rfl 1
  have d2 := HS1.out.blk_cell (i := 0) rfl 2
  have d3 := HS1.out.blk_cell (i := 0) rfl 3
  have d4 := HS1.out.blk_cell (i := 0) rfl 4
  have d5 := HS1.out.blk_cell (i := 0) rfl 5
  have e0 := HS1.out.blk_cell (i := 1) rfl 0
  generalize w1.alloc (.cells #[.string xn, .slice xha xhn xhc, .slice xca xcn xcc] 88) = w2 at *
  generalize gc + 1 = gd at *
  have HNM := Lib.hid (refIsName_any xn w2 hpn)
  go_at_call 44
  refine HNM.out.mono ?_
  rintro e w' ⟨rfl, rfl⟩
  cases hnb : nameB xn with
  | false =>
    go_wp2_with fail
    go_ret
    exact ⟨isE_ne (by decide), HS1.out.bel⟩
  | true =>
  have HM1 := Lib.hid (HRD.out xn w2 HS1.out.bel)
  obtain ⟨mi, hmi⟩ : ∃ z, z = rdI ps xn := ⟨_, rfl⟩
  rw [← hmi] at HM1 HOK2
  clear hmi HRD HNM
  go_wp2_with fail
  go_at_call 78
  refine HM1.out.mono ?_
  rintro e w3 ⟨rfl, hb⟩
  have HS3 := Lib.hid (HS1.out.ext hb)
  clear hb HS1 HM1 d0 d1 d2 d3 d4 d5 e0
  by_cases hlt : mi < (i : Int)
  · have t1 : decide (mi < (i : Int)) = true := decide_eq_true hlt
    clear hlt
    go_wp2_with fail
    go_ret
    exact ⟨isE_ne (by decide), HS3.out.bel⟩
  have t1 : decide (mi < (i : Int)) = false := decide_eq_false hlt
  have HLT := Lib.hid hlt
  have e1 := HS3.out.blk_cell (i := 1) rfl 1
  have HCH := Lib.hid (refCheckHoles_any w3 _ xhn xhs (HPH.out.later HS3.out.bel))
  clear hlt
  go_wp2_with fail
  go_at_call 47
  refine HCH.out.mono ?_
  rintro e w4 ⟨⟨ec, rfl, hg⟩, q, rfl⟩
  have HG := Lib.hid hg
  have HS4 := Lib.hid (HS3.out.drewN q)
  clear hg HCH e1 HS3
  generalize w3.drewN q = w4 at *
  have e2 := HS4.out.blk_cell (i := 1) rfl 2
  have HEND : Hid (∀ ec : Int, (ec = 0 → GoodH xhs ∧ xcn ≤ 200 ∧ ∀ j, j < xcn → GoodC xhs (cdAt xcs j).name (cdAt xcs j).m (cdAt xcs j).es) → ec = 0 → P) := fun ec h h0 => HOK2.out ⟨hnb, (h h0).1, (h h0).2.1, (h h0).2.2⟩ (by have := HLT.out; omega)
  clear HOK2 HLT
  by_cases h0 : ec = 0
  case neg =>
    have z0 : (ec == 0) = false := by simp [h0]
    have H0 := Lib.hid h0
    clear h0
    go_wp2_with fail
    go_loopw [6, 7] (fun ev iv w' => ev = .int .i64 ec ∧ iv = .int .i64 0 ∧ w' = w4) (fun _ _ _ => 0)
    case atStart => exact ⟨rfl, rfl, rfl⟩
    case round =>
      obtain ⟨rfl, rfl, rfl⟩ := hrel
      by_cases hc0 : 0 < xcn
      · have t5 : decide ((0 : Int) < (xcn : Int)) = true := decide_eq_true (by omega)
        have t5' : decide (0 < xcn) = true := decide_eq_true hc0
        clear hc0
        go_wp2_with fail
        go_ret
        exact ⟨isE_ne H0.out, HS4.out.bel⟩
      · have t5 : decide ((0 : Int) < (xcn : Int)) = false := decide_eq_false (by omega)
        have t5' : decide (0 < xcn) = false := decide_eq_false hc0
        clear hc0
        go_wp2_with fail
        go_ret
        exact ⟨isE_ne H0.out, HS4.out.bel⟩
  subst h0
  have HG2 := Lib.hid (HG.out rfl)
  clear HG
  by_cases h2 : 200 < xcn
  · have t3 : decide (200 < (xcn : Int)) = true := decide_eq_true (by omega)
    have t3' : decide (200 < xcn) = true := decide_eq_true h2
    have t5 : decide ((0 : Int) < (xcn : Int)) = true := decide_eq_true (by omega)
    have t5' : decide (0 < xcn) = true := decide_eq_true (by omega)
    clear h2
    go_wp2_with fail
    go_loopw [6, 7] (fun ev iv w' => ev = .int .i64 5 ∧ iv = .int .i64 0 ∧ w' = w4) (fun _ _ _ => 0)
    case atStart => exact ⟨rfl, rfl, rfl⟩
    case round =>
      obtain ⟨rfl, rfl, rfl⟩ := hrel
      go_wp2_with fail
      go_ret
      exact ⟨isE_ne (by decide), HS4.out.bel⟩
  have t3 : decide (200 < (xcn : Int)) = false := decide_eq_false (by omega)
  have t3' : decide (200 < xcn) = false := decide_eq_false h2
  have H200 : Hid (xcn ≤ 200) := by show _ ≤ _; omega
  clear h2
  go_wp2_with fail
  go_loopw [6, 7] (fun ev iv w' => ∃ (k : Nat) (ec : Int), k ≤ xcn ∧ ev = .int .i64 ec ∧ iv = .int .i64 k ∧ Hid (ec = 0 → ∀ j, j < k → GoodC xhs (cdAt xcs j).name (cdAt xcs j).m (cdAt xcs j).es) ∧ St W w' [blk gc 34 #[vc, vm, vh, vk, vs, .slice (some ⟨b, o, none⟩) np c], blk gd 88 #[.string xn, .slice xha xhn xhc, .slice xca xcn xcc]]) (fun _ iv _ => xcn - (intOf iv).toNat)
  case atStart => exact ⟨0, 0, Nat.zero_le _, rfl, rfl, fun _ j hj => absurd hj (Nat.not_lt_zero _), HS4.out⟩
  case round =>
    obtain ⟨k, ec, hk, rfl, rfl, hin, S⟩ := hrel
    clear HS4 e2
    have e1 := S.blk_cell (i := 1) rfl 1
    have e2 := S.blk_cell (i := 1) rfl 2
    by_cases h0 : ec = 0
    case neg =>
      have z0 : (ec == 0) = false := by simp [h0]
      have H0 := Lib.hid h0
      have HB := Lib.hid S.bel
      clear h0 S
      by_cases hc0 : k < xcn
      · have t5 : decide ((k : Int) < (xcn : Int)) = true := decide_eq_true (by omega)
        have t5' : decide (k < xcn) = true := decide_eq_true hc0
        clear hc0
        go_wp2_with fail
        go_ret
        exact ⟨isE_ne H0.out, HB.out⟩
      · have t5 : decide ((k : Int) < (xcn : Int)) = false := decide_eq_false (by omega)
        have t5' : decide (k < xcn) = false := decide_eq_false hc0
        clear hc0
        go_wp2_with fail
        go_ret
        exact ⟨isE_ne H0.out, HB.out⟩
    subst h0
    by_cases hlt : k < xcn
    · have HS := Lib.hid S
      have HIN := Lib.hid (hin.out rfl)
      clear S hin
      have hcl := HPC.out.later HS.out.bel
      obtain ⟨b2, o2, rfl, hx2, c0, c1⟩ := rd_cd hcl.1 hlt
      have HXC := Lib.hid (hcl.2 _ (List.mem_of_getElem? hx2))
      have HX2 := Lib.hid (List.mem_of_getElem? hx2)
      have l0 := World.block_lt_of_cell? _ _ c0
      clear hcl hx2
      go_wp2_with fail
      refine wp_cls 7 (fun w' => ∃ n, w' = wr.drewN n) (by kernel_rfl) (by kernel_rfl) ⟨1, rfl⟩ ?_
      simp only [List.take_succ_cons, List.take_zero, List.drop_succ_cons, List.drop_zero]
      generalize hK : (fun w' => ∃ n, w' = wr.drewN n) = K
      intro hne
      have kw : ∀ y : Wd K, ∃ n, y.w = wr.drewN n := by subst hK; exact fun y => y.h
      have k1 : ∀ y : Wd K, y.w.cell? ⟨gd, 1, none⟩ = some (.slice xha xhn xhc) := fun y => by obtain ⟨n, e⟩ := kw y; rw [e]; exact e1
      have k2 : ∀ y : Wd K, y.w.cell? ⟨gd, 2, none⟩ = some (.slice (some ⟨b2, o2, none⟩) xcn xcc) := fun y => by obtain ⟨n, e⟩ := kw y; rw [e]; exact e2
      have k3 : ∀ y : Wd K, y.w.cell? ⟨b2, o2 + k * 2, none⟩ = some (.string (cdAt xcs k).name) := fun y => by obtain ⟨n, e⟩ := kw y; rw [e]; exact c0
      have k4 : ∀ y : Wd K, y.w.cell? ⟨b2, o2 + k * 2 + 1, none⟩ = some (.slice (cdAt xcs k).a (cdAt xcs k).m (cdAt xcs k).c) := fun y => by obtain ⟨n, e⟩ := kw y; rw [e]; exact c1
      clear hK e1 e2 c0 c1
      repeat (go_big_quiet_step ((fail)))
      refine wpQuiet_nil ?_
      intro y
      obtain ⟨nn, hyn⟩ := kw y
      have HSY := Lib.hid (HS.out.drewN nn)
      rw [← hyn] at HSY
      clear kw k1 k2 k3 k4 hyn hne
      have HCC := Lib.hid (refCheckCard_any y.w _ _ xhn (cdAt xcs k).m xhs (cdAt xcs k).es (cdAt xcs k).name HXC.out.2 (HPH.out.later HSY.out.bel) ((HPC.out.later HSY.out.bel).2 _ HX2.out).1)
      go_wp2_with fail
      go_at_call 79
      refine HCC.out.mono ?_
      rintro e w5 ⟨⟨ec, rfl, hg⟩, hb⟩
      have HG5 := Lib.hid hg
      have HS5 := Lib.hid (HSY.out.ext hb)
      clear hg hb HSY HCC
      go_wp2_with fail
      go_roundw
      case rel =>
        refine ⟨k + 1, ec, by omega, rfl, by go_num, fun h0 j hj => ?_, HS5.out⟩
        rcases Nat.lt_or_ge j k with h1 | h1
        · exact HIN.out j h1
        · rw [show j = k by omega]; exact HG5.out h0
      case measure => simp [intOf]; omega
    · obtain rfl : xcn = k := by omega
      have HF := Lib.hid (HEND.out 0 (fun _ => ⟨HG2.out, H200.out, hin.out rfl⟩) rfl)
      have HB := Lib.hid S.bel
      clear S hin
      go_wp2_with fail
      go_ret
      exact ⟨isE_ok HF.out, HB.out⟩
end Go.Proofs.YtnaafefcijgpkaaGreatDoor
