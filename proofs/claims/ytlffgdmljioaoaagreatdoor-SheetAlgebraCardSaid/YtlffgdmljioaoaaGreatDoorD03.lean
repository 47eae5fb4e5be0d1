/- Part 3 of the walks of the golf union's program: QK5, QK6, QK7, QK8. -/
import Derived.Test.YtlffgdmljioaoaaGreatDoorD02
set_option linter.unusedVariables false
set_option linter.unusedSimpArgs false
set_option linter.unusedSectionVars false
set_option linter.constructorNameAsVariable false
/- The search in depth (tightF) finds a tight cycle where there is one: plain. -/
namespace Go.Sheet
theorem idxF_memQ {l : List Int} {x : Int} (h : x ∈ l) : ∀ k : Nat, ∃ j, j < l.length ∧ l[j]? = some x ∧ idxF (fun y => x == y) k l = ((k + j : Nat) : Int) := by
  induction l with
  | nil => cases h
  | cons y l ih =>
    intro k
    rw [idxF]
    by_cases e : x = y
    · subst e
      exact ⟨0, by simp, by simp, by rw [if_pos (by simp)]; simp⟩
    · rw [if_neg (by simpa using e)]
      rcases List.mem_cons.1 h with h | h
      · exact absurd h e
      · obtain ⟨j, h1, h2, h3⟩ := ih h (k + 1)
        exact ⟨j + 1, by simpa using h1, by simpa using h2, by rw [h3]; congr 1; omega⟩
section
variable {n : Nat} {L : IMat} {T : List Int}
abbrev AccT (L : IMat) (n : Nat) (T : List Int) (x : Nat) : Prop := Acc (fun k i => Tgt L n T i k) x
def wAt (l : List Int) (j : Nat) : Nat := (l.getD j 0).toNat
structure TP (L : IMat) (n : Nat) (T : List Int) (s : TS) : Prop where
  val : ∀ k : Nat, s.st.getD k 0 = 0 ∨ s.st.getD k 0 = 1 ∨ s.st.getD k 0 = 2
  acc : ∀ k : Nat, s.st.getD k 0 = 2 → AccT L n T k
  mem : ∀ x ∈ s.way, ∃ k : Nat, x = (k : Int) ∧ k < n ∧ s.st.getD k 0 = 1
  nd : s.way.Nodup
  ch : ∀ j, j + 1 < s.way.length → Tgt L n T (wAt s.way j) (wAt s.way (j + 1))
/-- a tight cycle, from row to column -/
structure OutOk (L : IMat) (n : Nat) (T : List Int) (o : List Int) : Prop where
  ne : 0 < o.length
  nd : o.Nodup
  mem : ∀ x ∈ o, ∃ k : Nat, x = (k : Int) ∧ k < n
  ch : ∀ j, j + 1 < o.length → Tgt L n T (wAt o j) (wAt o (j + 1))
  close : Tgt L n T (wAt o (o.length - 1)) (wAt o 0)
theorem wAt_app1 {a b : List Int} {j : Nat} (h : j < a.length) : wAt (a ++ b) j = wAt a j := by
  unfold wAt
  rw [List.getD_eq_getElem?_getD, List.getElem?_append_left h, List.getD_eq_getElem?_getD]
theorem wAt_last {a : List Int} {x : Int} : wAt (a ++ [x]) a.length = x.toNat := by
  unfold wAt
  rw [List.getD_eq_getElem?_getD, List.getElem?_append_right (Nat.le_refl _)]
  simp
theorem TP.push {s : TS} {i : Nat} (h : TP L n T s) (hi : i < n) (hn : n ≤ 24) (hl : s.st.length = 24) (h0 : s.st.getD i 0 = 0) (hw : s.way = [] ∨ Tgt L n T (wAt s.way (s.way.length - 1)) i) : TP L n T ⟨s.st.set i 1, s.way ++ [(i : Int)], s.out⟩ := by
  have hs : ∀ j : Nat, (s.st.set i 1).getD j 0 = if i = j then 1 else s.st.getD j 0 := fun j => by
    rw [getD_setT]
    by_cases e : i = j
    · rw [if_pos ⟨e, by omega⟩, if_pos e]
    · rw [if_neg (fun h => e h.1), if_neg e]
  refine ⟨fun k => ?_, fun k hk => ?_, fun x hx => ?_, ?_, fun j hj => ?_⟩
  · show (s.st.set i 1).getD k 0 = 0 ∨ _
    rw [hs]
    split
    · exact .inr (.inl rfl)
    · exact h.val k
  · have hk' : (s.st.set i 1).getD k 0 = 2 := hk
    rw [hs] at hk'
    split at hk'
    · cases hk'
    · exact h.acc k hk'
  · have hx' : x ∈ s.way ++ [(i : Int)] := hx
    show ∃ k : Nat, x = (k : Int) ∧ k < n ∧ (s.st.set i 1).getD k 0 = 1
    rcases List.mem_append.1 hx' with hx | hx
    · obtain ⟨k, h1, h2, h3⟩ := h.mem x hx
      exact ⟨k, h1, h2, by rw [hs]; split <;> simp_all⟩
    · exact ⟨i, List.mem_singleton.1 hx, hi, by rw [hs, if_pos rfl]⟩
  · show (s.way ++ [(i : Int)]).Nodup
    refine List.nodup_append.2 ⟨h.nd, by simp, fun a ha b hb e => ?_⟩
    rw [List.mem_singleton.1 hb] at e
    obtain ⟨k, h1, _, h3⟩ := h.mem a ha
    have : k = i := by omega
    subst this
    rw [h0] at h3
    cases h3
  · have hj' : j + 1 < (s.way ++ [(i : Int)]).length := hj
    simp only [List.length_append, List.length_singleton] at hj'
    show Tgt L n T (wAt (s.way ++ [(i : Int)]) j) (wAt (s.way ++ [(i : Int)]) (j + 1))
    rw [wAt_app1 (show j < s.way.length by omega)]
    by_cases e : j + 1 = s.way.length
    · rw [e, wAt_last, Int.toNat_natCast]
      rcases hw with hw | hw
      · rw [hw] at e; simp at e
      · rw [show j = s.way.length - 1 by omega]; exact hw
    · rw [wAt_app1 (show j + 1 < s.way.length by omega)]
      exact h.ch j (by omega)
theorem TP.pop {s : TS} {i : Nat} {w : List Int} (h : TP L n T s) (_hi : i < n) (hn : i < 24) (hl : s.st.length = 24) (hw : s.way = w ++ [(i : Int)]) (ha : AccT L n T i) : TP L n T ⟨s.st.set i 2, s.way.dropLast, s.out⟩ := by
  have hs : ∀ j : Nat, (s.st.set i 2).getD j 0 = if i = j then 2 else s.st.getD j 0 := fun j => by
    rw [getD_setT]
    by_cases e : i = j
    · rw [if_pos ⟨e, by omega⟩, if_pos e]
    · rw [if_neg (fun h => e h.1), if_neg e]
  have hd : s.way.dropLast = w := by rw [hw, List.dropLast_concat]
  have hnd := h.nd
  rw [hw] at hnd
  obtain ⟨n1, _, n3⟩ := List.nodup_append.1 hnd
  refine ⟨fun k => ?_, fun k hk => ?_, fun x hx => ?_, ?_, fun j hj => ?_⟩
  · show (s.st.set i 2).getD k 0 = 0 ∨ _
    rw [hs]
    split
    · exact .inr (.inr rfl)
    · exact h.val k
  · have hk' : (s.st.set i 2).getD k 0 = 2 := hk
    rw [hs] at hk'
    split at hk'
    · rename_i e; subst e; exact ha
    · exact h.acc k hk'
  · have hx' : x ∈ s.way.dropLast := hx
    rw [hd] at hx'
    obtain ⟨k, h1, h2, h3⟩ := h.mem x (by rw [hw]; exact List.mem_append_left _ hx')
    refine ⟨k, h1, h2, ?_⟩
    show (s.st.set i 2).getD k 0 = 1
    rw [hs, if_neg]
    · exact h3
    · intro e
      subst e
      exact n3 x hx' _ (by simp) h1
  · show s.way.dropLast.Nodup
    rw [hd]; exact n1
  · have hj' : j + 1 < s.way.dropLast.length := hj
    show Tgt L n T (wAt s.way.dropLast j) (wAt s.way.dropLast (j + 1))
    rw [hd] at hj' ⊢
    have := h.ch j (by rw [hw]; simp; omega)
    rw [hw, wAt_app1 (by omega), wAt_app1 hj'] at this
    exact this
/-- the cycle that is found -/
theorem TP.found {s : TS} {i k : Nat} {w : List Int} (h : TP L n T s) (hw : s.way = w ++ [(i : Int)]) (hk : (k : Int) ∈ s.way) (ht : Tgt L n T i k) : OutOk L n T (s.way.drop (idxF (fun y => (k : Int) == y) 0 s.way).toNat) := by
  obtain ⟨j, hj, hjk, e⟩ := idxF_memQ hk 0
  rw [e, Nat.zero_add, Int.toNat_natCast]
  have hat : ∀ a, wAt (s.way.drop j) a = wAt s.way (j + a) := fun a => by
    unfold wAt
    rw [List.getD_eq_getElem?_getD, List.getElem?_drop, List.getD_eq_getElem?_getD]
  have hlen : (s.way.drop j).length = s.way.length - j := List.length_drop
  refine ⟨by rw [hlen]; omega, h.nd.sublist (List.drop_sublist _ _), fun x hx => ?_, fun a ha => ?_, ?_⟩
  · obtain ⟨c, h1, h2, _⟩ := h.mem x (List.mem_of_mem_drop hx)
    exact ⟨c, h1, h2⟩
  · rw [hlen] at ha
    rw [hat, hat]
    exact h.ch (j + a) (by omega)
  · rw [hlen, hat, hat, Nat.add_zero]
    have h1 : wAt s.way (j + (s.way.length - j - 1)) = i := by
      rw [show j + (s.way.length - j - 1) = w.length by rw [hw] at hj ⊢; simp at hj ⊢; omega, hw, wAt_last, Int.toNat_natCast]
    have h2 : wAt s.way j = k := by
      unfold wAt
      rw [List.getD_eq_getElem?_getD, hjk]
      simp
    rw [h1, h2]
    exact ht
theorem tLoop_ok (hn : n ≤ 24) {rec : Nat → TS → TS × Bool} {i f : Nat} {w : List Int} (hi : i < n)
    (hrl : ∀ (k : Nat) (s : TS), k < 24 → TInv s → zeros s.st ≤ f → s.st.getD k 0 = 0 → (rec k s).2 = false → Leaves s (rec k s).1)
    (hrec : ∀ (k : Nat) (s : TS), k < n → TInv s → TP L n T s → zeros s.st ≤ f → s.st.getD k 0 = 0 → (s.way = [] ∨ Tgt L n T (wAt s.way (s.way.length - 1)) k) →
      ((rec k s).2 = true → OutOk L n T (rec k s).1.out) ∧ ((rec k s).2 = false → TP L n T (rec k s).1 ∧ (rec k s).1.st.getD k 0 = 2 ∧ ∀ j : Nat, s.st.getD j 0 = 2 → (rec k s).1.st.getD j 0 = 2)) :
    ∀ (row : List Int) (k : Nat) (s : TS), k + row.length = n → (∀ j, row.getD j 0 = at2 L i (k + j)) → TInv s → TP L n T s → zeros s.st ≤ f → s.way = w ++ [(i : Int)] → (∀ j, j < k → Tgt L n T i j → s.st.getD j 0 = 2) →
      ((tLoop rec T i k row s).2 = true → OutOk L n T (tLoop rec T i k row s).1.out) ∧
      ((tLoop rec T i k row s).2 = false → TP L n T (tLoop rec T i k row s).1 ∧ (tLoop rec T i k row s).1.st.getD i 0 = 2 ∧ ∀ j : Nat, s.st.getD j 0 = 2 → (tLoop rec T i k row s).1.st.getD j 0 = 2)
  | [], k, s, hk, _, hv, hp, _, hw, hd => by
    simp only [List.length_nil, Nat.add_zero] at hk
    subst hk
    simp only [tLoop]
    refine ⟨(fun h => by cases h), fun _ => ⟨hp.pop hi (by omega) hv.len hw (Acc.intro i fun j hj => hp.acc j (hd j hj.2.1 hj)), ?_, fun j hj => ?_⟩⟩
    · rw [getD_setT, if_pos ⟨rfl, by rw [hv.len]; omega⟩]
    · rw [getD_setT]
      split
      · rfl
      · exact hj
  | x :: row, k, s, hk, hr, hv, hp, hz, hw, hd => by
    simp only [List.length_cons] at hk
    have hx : x = at2 L i k := by have := hr 0; simpa using this
    have hr2 : ∀ j, row.getD j 0 = at2 L i (k + 1 + j) := fun j => by
      have := hr (j + 1)
      simp only [List.getD_cons_succ] at this
      rw [this]; congr 1; omega
    rw [tLoop]
    split
    · rename_i hc
      refine tLoop_ok hn hi hrl hrec row (k + 1) s (by omega) hr2 hv hp hz hw fun j hj ht => ?_
      by_cases e : j = k
      · subst e
        rw [hx] at hc
        rcases hc with hc | hc
        · exact absurd hc ht.2.2.1
        · exact absurd ht.2.2.2 hc
      · exact hd j (by omega) ht
    · rename_i hc
      rw [hx] at hc
      have ht : Tgt L n T i k := ⟨hi, by omega, fun e => hc (.inl e), by
        rcases Classical.em (T.getD k 0 + at2 L i k = T.getD i 0) with h | h
        · exact h
        · exact absurd (.inr h) hc⟩
      split
      · rename_i h1
        exact ⟨fun _ => hp.found hw (hv.one k h1) ht, (fun h => by cases h)⟩
      · rename_i h1
        have hlast : s.way = [] ∨ Tgt L n T (wAt s.way (s.way.length - 1)) k := by
          right
          rw [hw, show (w ++ [(i : Int)]).length - 1 = w.length by simp, wAt_last, Int.toNat_natCast]
          exact ht
        split
        · rename_i h0
          obtain ⟨r1, r2⟩ := hrec k s (by omega) hv hp hz h0 hlast
          split
          · rename_i hrt
            exact ⟨fun _ => r1 hrt, (fun h => by rw [hrt] at h; cases h)⟩
          · rename_i hrt
            have hrf : (rec k s).2 = false := by simpa using hrt
            obtain ⟨p1, p2, p3⟩ := r2 hrf
            obtain ⟨g1, g2, g3, g4⟩ := hrl k s (by omega) hv hz h0 hrf
            obtain ⟨q1, q2⟩ := tLoop_ok hn hi hrl hrec row (k + 1) (rec k s).1 (by omega) hr2 g1 p1 (by omega) (g2.trans hw) fun j hj htj => by
              by_cases e : j = k
              · subst e; exact p2
              · exact p3 j (hd j (by omega) htj)
            exact ⟨q1, fun h => ⟨(q2 h).1, (q2 h).2.1, fun j hj => (q2 h).2.2 j (p3 j hj)⟩⟩
        · rename_i h0
          refine tLoop_ok hn hi hrl hrec row (k + 1) s (by omega) hr2 hv hp hz hw fun j hj htj => ?_
          by_cases e : j = k
          · subst e
            rcases hp.val j with h | h | h
            · exact absurd h h0
            · exact absurd h h1
            · exact h
          · exact hd j (by omega) htj
theorem tWalk_ok {B : Int} (hL : SqOk n B L) (hn : n ≤ 24) : ∀ (f i : Nat) (s : TS), i < n → TInv s → TP L n T s → zeros s.st ≤ f → s.st.getD i 0 = 0 → (s.way = [] ∨ Tgt L n T (wAt s.way (s.way.length - 1)) i) →
    ((tWalk L T f i s).2 = true → OutOk L n T (tWalk L T f i s).1.out) ∧ ((tWalk L T f i s).2 = false → TP L n T (tWalk L T f i s).1 ∧ (tWalk L T f i s).1.st.getD i 0 = 2 ∧ ∀ j : Nat, s.st.getD j 0 = 2 → (tWalk L T f i s).1.st.getD j 0 = 2)
  | 0, i, s, hi, h, _, hz, h0, _ => by
    have := zeros_set (l := s.st) (x := 1) (by rw [h.len]; omega) h0 (by decide)
    omega
  | f + 1, i, s, hi, h, hp, hz, h0, hw => by
    have hz1 := zeros_set (l := s.st) (x := 1) (by rw [h.len]; omega) h0 (by decide)
    have hm : ∀ r ∈ L, r.length ≤ 24 := fun r hr => by rw [hL.len r hr]; exact hn
    rw [tWalk]
    obtain ⟨a1, a2⟩ := tLoop_ok hn (rec := tWalk L T f) (f := f) (w := s.way) hi (fun k s hk => tWalk_inv hm f k s hk) (fun k s hk h1 h2 h3 h4 h5 => tWalk_ok hL hn f k s hk h1 h2 h3 h4 h5) (L.getD i []) 0 ⟨s.st.set i 1, s.way ++ [(i : Int)], s.out⟩ (by rw [Nat.zero_add]; exact (hL.row hi).1) (fun j => by rw [Nat.zero_add]; rfl) (h.push (by omega) h0) (hp.push hi hn h.len h0 hw) (by show zeros (s.st.set i 1) ≤ f; omega) rfl (fun j hj => absurd hj (by omega))
    refine ⟨a1, fun hf => ⟨(a2 hf).1, (a2 hf).2.1, fun j hj => (a2 hf).2.2 j ?_⟩⟩
    show (s.st.set i 1).getD j 0 = 2
    rw [getD_setT, if_neg]
    · exact hj
    · rintro ⟨e, _⟩
      subst e
      rw [h0] at hj
      cases hj
theorem tOuter_ok {B : Int} (hL : SqOk n B L) (hn : n ≤ 24) : ∀ (is : List Nat) (s : TS), (∀ i ∈ is, i < n) → TInv s → TP L n T s → s.way = [] → OutOk L n T (tOuter L T is s).out ∨
    ((∀ i ∈ is, AccT L n T i) ∧ ∀ j : Nat, s.st.getD j 0 = 2 → (tOuter L T is s).st.getD j 0 = 2)
  | [], s, _, _, _, _ => .inr ⟨(fun i h => by cases h), fun j hj => hj⟩
  | i :: is, s, his, hv, hp, hw => by
    have hi := his i (List.mem_cons_self ..)
    have hm : ∀ r ∈ L, r.length ≤ 24 := fun r hr => by rw [hL.len r hr]; exact hn
    have hz : zeros s.st ≤ 24 := by have := hv.cnt; omega
    rw [tOuter]
    split
    · rename_i h0
      obtain ⟨a1, a2⟩ := tWalk_ok hL hn 24 i s hi hv hp hz h0 (.inl hw)
      split
      · rename_i ht
        exact .inl (a1 ht)
      · rename_i ht
        have hf : (tWalk L T 24 i s).2 = false := by simpa using ht
        obtain ⟨b1, b2, b3⟩ := a2 hf
        obtain ⟨g1, g2, _, _⟩ := tWalk_inv hm 24 i s (by omega) hv hz h0 hf
        rcases tOuter_ok hL hn is _ (fun j hj => his j (List.mem_cons_of_mem _ hj)) g1 b1 (g2.trans hw) with h | ⟨h1, h2⟩
        · exact .inl h
        · refine .inr ⟨fun j hj => ?_, fun j hj => h2 j (b3 j hj)⟩
          rcases List.mem_cons.1 hj with rfl | hj
          · exact b1.acc j b2
          · exact h1 j hj
    · rename_i h0
      have h2 : s.st.getD i 0 = 2 := by
        rcases hp.val i with h | h | h
        · exact absurd h h0
        · have := hv.one i h
          rw [hw] at this
          cases this
        · exact h
      rcases tOuter_ok hL hn is s (fun j hj => his j (List.mem_cons_of_mem _ hj)) hv hp hw with h | ⟨h3, h4⟩
      · exact .inl h
      · refine .inr ⟨fun j hj => ?_, h4⟩
        rcases List.mem_cons.1 hj with rfl | hj
        · exact hp.acc j h2
        · exact h3 j hj
theorem tight0_TP : TP L n T tight0 := by
  have hz : ∀ k : Nat, tight0.st.getD k 0 = 0 := fun k => by
    rw [tight0, List.getD_eq_getElem?_getD, List.getElem?_replicate]
    by_cases h : k < 24
    · rw [if_pos h]; rfl
    · rw [if_neg h]; rfl
  refine ⟨fun k => .inl (hz k), ?_, ?_, List.nodup_nil, ?_⟩
  · intro k hk
    rw [hz] at hk
    cases hk
  · intro x hx
    cases hx
  · intro j hj
    have : j + 1 < 0 := hj
    omega
/-- where there is a tight cycle, one is found -/
theorem tight_found {B : Int} (hL : SqOk n B L) (hn : n ≤ 24) {c : Nat} {f : Nat → Nat} (hc : 1 ≤ c) (he : f c = f 0) (h : ∀ t, t < c → Tgt L n T (f (t + 1)) (f t)) : ∃ o, tightF L T = o.reverse ∧ OutOk L n T o := by
  refine ⟨(tOuter L T (List.range L.length) tight0).out, rfl, ?_⟩
  rcases tOuter_ok hL hn (List.range L.length) tight0 (fun i hi => by rw [← hL.n_eq]; exact List.mem_range.1 hi) tight0_inv (tight0_TP (L := L) (n := n) (T := T)) rfl with g | ⟨g, _⟩
  · exact g
  · have h0 : f 0 < n := (h 0 (by omega)).2.1
    have ha := g (f 0) (List.mem_range.2 (by rw [hL.n_eq]; exact h0))
    exact absurd rfl (tight_acc hc he h ha 0 (by omega))
end
end Go.Sheet
/- Cycles as lists; their means: plain. -/
namespace Go.Sheet
def natL (l : List Nat) : List Int := l.map fun k : Nat => (k : Int)
theorem natL_len (l : List Nat) : (natL l).length = l.length := by simp [natL]
theorem natL_getD (l : List Nat) (i : Nat) : (natL l).getD i 0 = ((l.getD i 0 : Nat) : Int) := by
  unfold natL
  rw [List.getD_eq_getElem?_getD, List.getElem?_map, List.getD_eq_getElem?_getD]
  cases l[i]? <;> rfl
/-- the number before the i-th of a cycle -/
def cyP (cy : List Int) (i : Nat) : Int := cy.getD ((i + cy.length - 1) % cy.length) 0
def cyA (m : IMat) (cy : List Int) (i : Nat) : Int := at2 m (cy.getD i 0).toNat (cyP cy i).toNat
def cyE1 (n : Nat) (cy : List Int) : Int := eachF (fun i k => fst [whenE (decide (k < 0 ∨ (n : Int) ≤ k)) 10, whenE (decide (k ∈ cy.take i)) 9]) 0 cy
def cyE2 (m : IMat) (cy : List Int) : Int := eachF (fun i _ => whenE (decide (cyA m cy i = NONE)) 7) 0 cy
/-- the error of a cycle -/
def cycE (n : Nat) (m : IMat) (cy : List Int) : Int := if cy.length = 0 then 12 else if cyE1 n cy ≠ 0 then cyE1 n cy else cyE2 m cy
def cySum (m : IMat) (cy : List Int) : Nat → Int
  | 0 => 0
  | i + 1 => cySum m cy i + cyA m cy i
def cycS (m : IMat) (cy : List Int) : Int := cySum m cy cy.length
structure CycOk (n : Nat) (m : IMat) (cy : List Int) : Prop where
  ne : 0 < cy.length
  lt : ∀ i, i < cy.length → 0 ≤ cy.getD i 0 ∧ cy.getD i 0 < (n : Int)
  two : ∀ i j, j < i → i < cy.length → cy.getD j 0 ≠ cy.getD i 0
  ed : ∀ i, i < cy.length → cyA m cy i ≠ NONE
theorem cycE_zero (n : Nat) (m : IMat) (cy : List Int) : cycE n m cy = 0 ↔ CycOk n m cy := by
  have hg : ∀ i x, cy[i]? = some x → i < cy.length ∧ cy.getD i 0 = x := fun i x h => ⟨(List.getElem?_eq_some_iff.1 h).1, by rw [List.getD_eq_getElem?_getD, h]; rfl⟩
  have hs : ∀ i, i < cy.length → cy[i]? = some (cy.getD i 0) := fun i h => by rw [List.getD_eq_getElem?_getD, List.getElem?_eq_getElem h]; rfl
  have ht : ∀ (i : Nat) (x : Int), x ∈ cy.take i ↔ ∃ j, j < i ∧ j < cy.length ∧ cy.getD j 0 = x := fun i x => by
    rw [List.mem_take_iff_getElem]
    constructor
    · rintro ⟨j, hj, e⟩
      refine ⟨j, by omega, by omega, ?_⟩
      rw [List.getD_eq_getElem?_getD, List.getElem?_eq_getElem (by omega)]
      exact e
    · rintro ⟨j, h1, h2, e⟩
      refine ⟨j, by omega, ?_⟩
      rw [List.getD_eq_getElem?_getD, List.getElem?_eq_getElem h2] at e
      exact e
  have e1 : cyE1 n cy = 0 ↔ ∀ i, i < cy.length → (0 ≤ cy.getD i 0 ∧ cy.getD i 0 < (n : Int)) ∧ ∀ j, j < i → cy.getD j 0 ≠ cy.getD i 0 := by
    unfold cyE1
    rw [eachF_zero]
    constructor
    · intro h i hi
      have := h i _ (hs i hi)
      rw [Nat.zero_add, fst_zero] at this
      simp only [List.mem_cons, List.not_mem_nil, or_false, forall_eq_or_imp, forall_eq, whenE_zero _ _ (show (10 : Int) ≠ 0 by decide), whenE_zero _ _ (show (9 : Int) ≠ 0 by decide), decide_eq_false_iff_not, ht] at this
      refine ⟨by omega, fun j hj e => this.2 ⟨j, hj, by omega, e⟩⟩
    · intro h i x hx
      obtain ⟨hi, rfl⟩ := hg i x hx
      obtain ⟨h1, h2⟩ := h i hi
      rw [Nat.zero_add, fst_zero]
      simp only [List.mem_cons, List.not_mem_nil, or_false, forall_eq_or_imp, forall_eq, whenE_zero _ _ (show (10 : Int) ≠ 0 by decide), whenE_zero _ _ (show (9 : Int) ≠ 0 by decide), decide_eq_false_iff_not, ht]
      exact ⟨by omega, fun ⟨j, hj, _, e⟩ => h2 j hj e⟩
  have e2 : cyE2 m cy = 0 ↔ ∀ i, i < cy.length → cyA m cy i ≠ NONE := by
    unfold cyE2
    rw [eachF_zero]
    constructor
    · intro h i hi
      have := h i _ (hs i hi)
      rw [Nat.zero_add, whenE_zero _ _ (by decide)] at this
      simpa using this
    · intro h i x hx
      obtain ⟨hi, _⟩ := hg i x hx
      rw [Nat.zero_add, whenE_zero _ _ (by decide)]
      simpa using h i hi
  unfold cycE
  constructor
  · intro h
    by_cases h0 : cy.length = 0
    · rw [if_pos h0] at h; cases h
    · rw [if_neg h0] at h
      by_cases h1 : cyE1 n cy ≠ 0
      · rw [if_pos h1] at h; exact absurd h h1
      · rw [if_neg h1] at h
        have h1' := e1.1 (Classical.not_not.1 h1)
        exact ⟨by omega, fun i hi => (h1' i hi).1, fun i j hj hi => (h1' i hi).2 j hj, e2.1 h⟩
  · rintro ⟨h0, h1, h2, h3⟩
    rw [if_neg (by omega), if_neg (Classical.not_not.2 (e1.2 fun i hi => ⟨h1 i hi, fun j hj => h2 i j hj hi⟩))]
    exact e2.2 h3
section
variable {n : Nat} {m : IMat}
/-- a matrix without an error -/
structure MatOk (n : Nat) (m : IMat) : Prop where
  len : m.length = n
  row : ∀ r ∈ m, r.length = n
  bd : ∀ i k, i < n → k < n → at2 m i k = NONE ∨ -999999999 ≤ at2 m i k ∧ at2 m i k ≤ 999999999
theorem MatOk.row_at (h : MatOk n m) {i : Nat} (hi : i < n) : (m.getD i []).length = n := by
  have hl : i < m.length := by rw [h.len]; exact hi
  rw [List.getD_eq_getElem?_getD, List.getElem?_eq_getElem hl]
  exact h.row _ (List.getElem_mem hl)
theorem inside_at (h : MatOk n m) {i k : Nat} (hi : i < n) (hk : k < n) : at2 (insideM m) i k = innerX (at2 m i k) := by
  have hl : i < m.length := by rw [h.len]; exact hi
  have hr := h.row_at hi
  have e1 : m.getD i [] = m[i] := by rw [List.getD_eq_getElem?_getD, List.getElem?_eq_getElem hl]; rfl
  have e2 : (insideM m).getD i [] = innerL m[i] := by
    unfold insideM
    rw [List.getD_eq_getElem?_getD, List.getElem?_map, List.getElem?_eq_getElem hl]; rfl
  unfold at2
  rw [e1] at hr ⊢
  rw [e2]
  generalize m[i] = r at *
  unfold innerL
  rw [List.getD_eq_getElem?_getD (l := r.map innerX), List.getElem?_map, List.getD_eq_getElem?_getD (l := r), List.getElem?_eq_getElem (show k < r.length by omega)]
  rfl
theorem inside_edge (h : MatOk n m) {i k : Nat} (hi : i < n) (hk : k < n) : (at2 (insideM m) i k ≠ noth ↔ at2 m i k ≠ NONE) ∧ (at2 m i k ≠ NONE → at2 (insideM m) i k = at2 m i k) := by
  rw [inside_at h hi hk]
  have hb := h.bd i k hi hk
  unfold innerX
  by_cases e : at2 m i k = NONE
  · rw [if_pos e]
    exact ⟨⟨fun h => absurd rfl h, fun h => absurd e h⟩, fun h => absurd e h⟩
  · rw [if_neg e]
    refine ⟨⟨fun _ => e, fun _ => ?_⟩, fun _ => rfl⟩
    rcases hb with hb | hb
    · exact absurd hb e
    · unfold noth; omega
theorem MatOk.sq (h : MatOk n m) : SqOk n 999999999 (insideM m) := by
  have hl : (insideM m).length = n := by unfold insideM; rw [List.length_map, h.len]
  refine ⟨hl, fun r hr => ?_, fun r hr x hx => ?_⟩
  · unfold insideM at hr
    obtain ⟨s, hs, rfl⟩ := List.mem_map.1 hr
    unfold innerL
    rw [List.length_map]
    exact h.row s hs
  · obtain ⟨i, hi, e⟩ := List.getElem_of_mem hr
    obtain ⟨k, hk, e2⟩ := List.getElem_of_mem hx
    have hrl : r.length = n := by
      unfold insideM at hr
      obtain ⟨s, hs, rfl⟩ := List.mem_map.1 hr
      unfold innerL
      rw [List.length_map]
      exact h.row s hs
    have hin : i < n := by omega
    have hkn : k < n := by omega
    have hx2 : x = at2 (insideM m) i k := by
      unfold at2
      rw [show (insideM m).getD i [] = r by rw [List.getD_eq_getElem?_getD, List.getElem?_eq_getElem hi, e]; rfl, List.getD_eq_getElem?_getD, List.getElem?_eq_getElem hk, e2]; rfl
    rw [hx2, inside_at h hin hkn]
    have hb := h.bd i k hin hkn
    unfold innerX XB
    by_cases e : at2 m i k = NONE
    · rw [if_pos e]; exact .inl rfl
    · rw [if_neg e]
      rcases hb with hb | hb
      · exact absurd hb e
      · exact .inr hb
theorem cyP_succ {cy : List Int} {i : Nat} (hi : i + 1 < cy.length) : cyP cy (i + 1) = cy.getD i 0 := by
  unfold cyP
  rw [show i + 1 + cy.length - 1 = i + cy.length by omega, Nat.add_mod_right, Nat.mod_eq_of_lt (by omega)]
theorem cyP_zero {cy : List Int} (h : 0 < cy.length) : cyP cy 0 = cy.getD (cy.length - 1) 0 := by
  unfold cyP
  rw [Nat.zero_add, Nat.mod_eq_of_lt (by omega)]
/-- a list without an error is a cycle -/
theorem cyc_of_list (h : MatOk n m) {cy : List Int} (hc : CycOk n m cy) : Cyc (insideM m) n cy.length (fun t => (cy.getD (t % cy.length) 0).toNat) (cycS m cy) := by
  have hne := hc.ne
  have hlt : ∀ i, i < cy.length → (cy.getD i 0).toNat < n ∧ ((cy.getD i 0).toNat : Int) = cy.getD i 0 := fun i hi => by
    have := hc.lt i hi
    omega
  have hA : ∀ i, i < cy.length → at2 (insideM m) (cy.getD i 0).toNat (cyP cy i).toNat ≠ noth ∧ at2 (insideM m) (cy.getD i 0).toNat (cyP cy i).toNat = cyA m cy i := fun i hi => by
    have hp : (cyP cy i).toNat < n := by
      unfold cyP
      exact (hlt _ (Nat.mod_lt _ hne)).1
    obtain ⟨e1, e2⟩ := inside_edge h (hlt i hi).1 hp
    exact ⟨e1.2 (hc.ed i hi), e2 (hc.ed i hi)⟩
  refine ⟨hne, fun i j hi hj e => ?_, fun t => if t = cy.length then cycS m cy else cySum m cy (t + 1) - cyA m cy 0, ⟨fun t _ => (hlt _ (Nat.mod_lt _ hne)).1, fun t ht => ?_⟩, ?_, ?_, if_pos rfl⟩
  · simp only [Nat.mod_eq_of_lt hi, Nat.mod_eq_of_lt hj] at e
    have e' : cy.getD i 0 = cy.getD j 0 := by rw [← (hlt i hi).2, ← (hlt j hj).2, e]
    rcases Nat.lt_trichotomy i j with g | g | g
    · exact absurd e' (hc.two j i g hj)
    · exact g
    · exact absurd e'.symm (hc.two i j g hi)
  · show at2 (insideM m) (cy.getD ((t + 1) % cy.length) 0).toNat (cy.getD (t % cy.length) 0).toNat ≠ noth ∧ (if t + 1 = cy.length then cycS m cy else cySum m cy (t + 1 + 1) - cyA m cy 0) = (if t = cy.length then cycS m cy else cySum m cy (t + 1) - cyA m cy 0) + at2 (insideM m) (cy.getD ((t + 1) % cy.length) 0).toNat (cy.getD (t % cy.length) 0).toNat
    rw [if_neg (by omega : ¬ t = cy.length), Nat.mod_eq_of_lt ht]
    by_cases e : t + 1 = cy.length
    · rw [if_pos e, e, Nat.mod_self]
      have h0 := hA 0 hne
      rw [cyP_zero hne, show cy.length - 1 = t by omega] at h0
      refine ⟨h0.1, ?_⟩
      rw [h0.2]
      unfold cycS
      omega
    · rw [if_neg e, Nat.mod_eq_of_lt (show t + 1 < cy.length by omega)]
      have h0 := hA (t + 1) (by omega)
      rw [cyP_succ (by omega)] at h0
      refine ⟨h0.1, ?_⟩
      rw [h0.2]
      show cySum m cy (t + 1) + cyA m cy (t + 1) - cyA m cy 0 = _
      omega
  · simp only [Nat.mod_self, Nat.zero_mod]
  · show (if 0 = cy.length then cycS m cy else cySum m cy 1 - cyA m cy 0) = 0
    rw [if_neg (by omega)]
    show 0 + cyA m cy 0 - cyA m cy 0 = 0
    omega
end
end Go.Sheet
/- A simple cycle as a list that begins with its least row; the cycle that is found; all cycles tried: plain. -/
namespace Go.Sheet
section
variable {n : Nat} {m : IMat}
/-- the least place -/
theorem least_at (f : Nat → Nat) : ∀ c : Nat, 1 ≤ c → ∃ t, t < c ∧ ∀ j, j < c → f t ≤ f j
  | 1, _ => ⟨0, by omega, fun j hj => by rw [show j = 0 by omega]; exact Nat.le_refl _⟩
  | c + 2, _ => by
    obtain ⟨t, ht, h⟩ := least_at f (c + 1) (by omega)
    rcases Nat.le_total (f t) (f (c + 1)) with g | g
    · exact ⟨t, by omega, fun j hj => by
        by_cases e : j = c + 1
        · subst e; exact g
        · exact h j (by omega)⟩
    · exact ⟨c + 1, by omega, fun j hj => by
        by_cases e : j = c + 1
        · subst e; exact Nat.le_refl _
        · exact Nat.le_trans g (h j (by omega))⟩
/-- a cycle may begin anywhere -/
theorem Cyc.turn {I : IMat} {c : Nat} {f : Nat → Nat} {s : Int} (h : Cyc I n c f s) {t0 : Nat} (ht : t0 < c) : Cyc I n c (fun t => if t0 + t ≤ c then f (t0 + t) else f (t0 + t - c)) s := by
  obtain ⟨h1, hi, S, hS, he, h0, hs⟩ := h
  have hfin : ∀ t, t < c → ∃ j, j < c ∧ (if t0 + t ≤ c then f (t0 + t) else f (t0 + t - c)) = f j ∧ (t0 + t = j ∨ t0 + t = j + c) := fun t ht2 => by
    by_cases e : t0 + t < c
    · exact ⟨t0 + t, e, by rw [if_pos (by omega)], .inl rfl⟩
    · by_cases e2 : t0 + t = c
      · exact ⟨0, by omega, by rw [if_pos (by omega), e2, he], .inr (by omega)⟩
      · exact ⟨t0 + t - c, by omega, by rw [if_neg (by omega)], .inr (by omega)⟩
  refine ⟨h1, fun i j hi2 hj2 e => ?_, fun t => if t0 + t ≤ c then S (t0 + t) - S t0 else S (t0 + t - c) + S c - S t0, ⟨fun t htc => ?_, fun t htc => ?_⟩, ?_, ?_, ?_⟩
  · obtain ⟨a, ha, e1, o1⟩ := hfin i hi2
    obtain ⟨b, hb, e2, o2⟩ := hfin j hj2
    have e3 : f a = f b := by rw [← e1, ← e2]; exact e
    have := hi a b ha hb e3
    omega
  · show (if t0 + t ≤ c then f (t0 + t) else f (t0 + t - c)) < n
    split
    · exact hS.lt _ (by omega)
    · exact hS.lt _ (by omega)
  · show at2 I (if t0 + (t + 1) ≤ c then f (t0 + (t + 1)) else f (t0 + (t + 1) - c)) (if t0 + t ≤ c then f (t0 + t) else f (t0 + t - c)) ≠ noth ∧
      (if t0 + (t + 1) ≤ c then S (t0 + (t + 1)) - S t0 else S (t0 + (t + 1) - c) + S c - S t0) = (if t0 + t ≤ c then S (t0 + t) - S t0 else S (t0 + t - c) + S c - S t0) + at2 I (if t0 + (t + 1) ≤ c then f (t0 + (t + 1)) else f (t0 + (t + 1) - c)) (if t0 + t ≤ c then f (t0 + t) else f (t0 + t - c))
    by_cases e : t0 + t < c
    · rw [if_pos (by omega : t0 + (t + 1) ≤ c), if_pos (by omega : t0 + t ≤ c), if_pos (by omega : t0 + (t + 1) ≤ c), if_pos (by omega : t0 + t ≤ c)]
      obtain ⟨a, b⟩ := hS.ed (t0 + t) e
      rw [show t0 + (t + 1) = t0 + t + 1 by omega]
      exact ⟨a, by omega⟩
    · by_cases e2 : t0 + t = c
      · rw [if_neg (by omega : ¬ t0 + (t + 1) ≤ c), if_pos (by omega : t0 + t ≤ c), if_neg (by omega : ¬ t0 + (t + 1) ≤ c), if_pos (by omega : t0 + t ≤ c)]
        obtain ⟨a, b⟩ := hS.ed 0 (by omega)
        rw [show t0 + (t + 1) - c = 0 + 1 by omega, e2, he]
        exact ⟨a, by omega⟩
      · rw [if_neg (by omega : ¬ t0 + (t + 1) ≤ c), if_neg (by omega : ¬ t0 + t ≤ c), if_neg (by omega : ¬ t0 + (t + 1) ≤ c), if_neg (by omega : ¬ t0 + t ≤ c)]
        obtain ⟨a, b⟩ := hS.ed (t0 + t - c) (by omega)
        rw [show t0 + (t + 1) - c = t0 + t - c + 1 by omega]
        exact ⟨a, by omega⟩
  · show (if t0 + c ≤ c then f (t0 + c) else f (t0 + c - c)) = (if t0 + 0 ≤ c then f (t0 + 0) else f (t0 + 0 - c))
    rw [if_pos (by omega : t0 + 0 ≤ c), Nat.add_zero]
    split
    · rw [show t0 = 0 by omega, Nat.zero_add, he]
    · rw [show t0 + c - c = t0 by omega]
  · show (if t0 + 0 ≤ c then S (t0 + 0) - S t0 else S (t0 + 0 - c) + S c - S t0) = 0
    rw [if_pos (by omega), Nat.add_zero]; omega
  · show (if t0 + c ≤ c then S (t0 + c) - S t0 else S (t0 + c - c) + S c - S t0) = s
    split
    · rw [show t0 = 0 by omega, Nat.zero_add, h0, hs]; omega
    · rw [show t0 + c - c = t0 by omega, hs]; omega
/-- the numbers of a cycle, as a list without an error -/
theorem list_of_cyc (h : MatOk n m) {c : Nat} {f : Nat → Nat} {s : Int} (hc : Cyc (insideM m) n c f s) : CycOk n m (natL ((List.range c).map f)) ∧ (natL ((List.range c).map f)).length = c ∧ cycS m (natL ((List.range c).map f)) = s := by
  obtain ⟨h1, hi, S, hS, he, h0, hs⟩ := hc
  have hl : (natL ((List.range c).map f)).length = c := by rw [natL_len]; simp
  have hat : ∀ i, i < c → (natL ((List.range c).map f)).getD i 0 = (f i : Int) := fun i hi2 => by
    rw [natL_getD, List.getD_eq_getElem?_getD, List.getElem?_map, List.getElem?_range hi2]; rfl
  have hA : ∀ i, i < c → cyA m (natL ((List.range c).map f)) i = at2 m (f i) (if i = 0 then f (c - 1) else f (i - 1)) := fun i hi2 => by
    unfold cyA
    rw [hat i hi2, Int.toNat_natCast]
    by_cases e : i = 0
    · subst e
      rw [if_pos rfl, cyP_zero (by omega), hl, hat _ (by omega), Int.toNat_natCast]
    · rw [if_neg e]
      obtain ⟨j, rfl⟩ : ∃ j, i = j + 1 := ⟨i - 1, by omega⟩
      rw [cyP_succ (by omega), hat _ (by omega), Int.toNat_natCast]; rfl
  have hE : ∀ i, i < c → at2 m (f i) (if i = 0 then f (c - 1) else f (i - 1)) ≠ NONE ∧ at2 m (f i) (if i = 0 then f (c - 1) else f (i - 1)) = (if i = 0 then S c - S (c - 1) else S i - S (i - 1)) := fun i hi2 => by
    by_cases e : i = 0
    · subst e
      rw [if_pos rfl, if_pos rfl, ← he]
      obtain ⟨a, b⟩ := hS.ed (c - 1) (by omega)
      rw [show c - 1 + 1 = c by omega] at a b
      obtain ⟨e1, e2⟩ := inside_edge h (hS.lt c (by omega)) (hS.lt (c - 1) (by omega))
      have e3 := e1.1 a
      rw [e2 e3] at b
      exact ⟨e3, by omega⟩
    · rw [if_neg e, if_neg e]
      obtain ⟨a, b⟩ := hS.ed (i - 1) (by omega)
      rw [show i - 1 + 1 = i by omega] at a b
      obtain ⟨e1, e2⟩ := inside_edge h (hS.lt i (by omega)) (hS.lt (i - 1) (by omega))
      have e3 := e1.1 a
      rw [e2 e3] at b
      exact ⟨e3, by omega⟩
  refine ⟨⟨by omega, fun i hi2 => ?_, fun i j hj hi2 e => ?_, fun i hi2 => ?_⟩, hl, ?_⟩
  · rw [hl] at hi2
    rw [hat i hi2]
    have := hS.lt i (by omega)
    omega
  · rw [hl] at hi2
    rw [hat i hi2, hat j (by omega)] at e
    have := hi j i (by omega) hi2 (by omega)
    omega
  · rw [hl] at hi2
    rw [hA i hi2]
    exact (hE i hi2).1
  · have hsum : ∀ i, i ≤ c → cySum m (natL ((List.range c).map f)) i = if i = 0 then 0 else S c - S (c - 1) + S (i - 1) := by
      intro i
      induction i with
      | zero => intro _; rfl
      | succ i ih =>
        intro hi2
        rw [cySum, ih (by omega), hA i (by omega), (hE i (by omega)).2, if_neg (by omega : ¬ i + 1 = 0), show i + 1 - 1 = i by omega]
        by_cases e : i = 0
        · subst e
          rw [if_pos rfl, if_pos rfl, h0]; omega
        · rw [if_neg e, if_neg e]; omega
    unfold cycS
    rw [hl, hsum c (Nat.le_refl _), if_neg (by omega), hs]
    omega
/-- each cycle is one that begins with its least row -/
theorem cyc_least (h : MatOk n m) {c : Nat} {f : Nat → Nat} {s : Int} (hc : Cyc (insideM m) n c f s) : ∃ p : List Nat, CycOk n m (natL p) ∧ p.length = c ∧ cycS m (natL p) = s ∧ ∀ i, 0 < i → i < c → p.getD 0 0 < p.getD i 0 := by
  obtain ⟨t0, ht, hl⟩ := least_at f c hc.1
  have h2 := hc.turn ht
  obtain ⟨g, hg⟩ : ∃ g : Nat → Nat, g = fun t => if t0 + t ≤ c then f (t0 + t) else f (t0 + t - c) := ⟨_, rfl⟩
  rw [← hg] at h2
  obtain ⟨a1, a2, a3⟩ := list_of_cyc h h2
  rw [natL_len] at a2
  refine ⟨(List.range c).map g, a1, a2, a3, fun i h0 hi => ?_⟩
  have hat : ∀ i, i < c → ((List.range c).map g).getD i 0 = g i := fun i hi2 => by
    rw [List.getD_eq_getElem?_getD, List.getElem?_map, List.getElem?_range hi2]; rfl
  rw [hat 0 (by omega), hat i hi]
  have hne : g 0 ≠ g i := fun e => by
    have := h2.2.1 0 i (by omega) hi e
    omega
  have hle : g 0 ≤ g i := by
    have e0 : g 0 = f t0 := by rw [hg]; show (if t0 + 0 ≤ c then f (t0 + 0) else f (t0 + 0 - c)) = f t0; rw [if_pos (by omega), Nat.add_zero]
    rw [e0, hg]
    show f t0 ≤ if t0 + i ≤ c then f (t0 + i) else f (t0 + i - c)
    split
    · by_cases e : t0 + i = c
      · obtain ⟨_, _, S, hS, he, _⟩ := hc
        rw [e, he]
        exact hl 0 (by omega)
      · exact hl _ (by omega)
    · exact hl _ (by omega)
  omega
/-- the cycle that is found: no error, and its mean is the fraction -/
theorem own_ok (h : MatOk n m) {g : Best3} (hg : B3Ok g) {T o : List Int} (ho : OutOk (lessM m g) n T o) : CycOk n m o.reverse ∧ cycS m o.reverse * g.den = g.num * (o.reverse.length : Int) := by
  have hl : o.reverse.length = o.length := List.length_reverse
  have hne := ho.ne
  have hnn : ∀ i, i < o.length → ∃ k : Nat, o.getD i 0 = (k : Int) ∧ k < n := fun i hi => by
    refine ho.mem _ ?_
    rw [List.getD_eq_getElem?_getD, List.getElem?_eq_getElem hi]
    exact List.getElem_mem _
  have hat : ∀ i, i < o.length → o.reverse.getD i 0 = o.getD (o.length - 1 - i) 0 := fun i hi => by
    rw [List.getD_eq_getElem?_getD, List.getElem?_reverse hi, List.getD_eq_getElem?_getD]
  have hT : ∀ i, i < o.length → Tgt (lessM m g) n T (o.reverse.getD i 0).toNat (cyP o.reverse i).toNat := fun i hi => by
    by_cases e : i = 0
    · subst e
      rw [cyP_zero (by omega), hl, hat 0 (by omega), hat _ (by omega), show o.length - 1 - 0 = o.length - 1 by omega, show o.length - 1 - (o.length - 1) = 0 by omega]
      exact ho.close
    · obtain ⟨j, rfl⟩ : ∃ j, i = j + 1 := ⟨i - 1, by omega⟩
      rw [cyP_succ (by omega), hat _ hi, hat _ (by omega)]
      have := ho.ch (o.length - 1 - (j + 1)) (by omega)
      unfold wAt at this
      rw [show o.length - 1 - (j + 1) + 1 = o.length - 1 - j by omega] at this
      exact this
  have hV : ∀ i, i < o.length → cyA m o.reverse i ≠ NONE ∧ cyA m o.reverse i * g.den = g.num + (T.getD (o.reverse.getD i 0).toNat 0 - T.getD (cyP o.reverse i).toNat 0) := fun i hi => by
    obtain ⟨t1, t2, t3, t4⟩ := hT i hi
    obtain ⟨e1, e2⟩ := less_edge h.sq hg t1 t2
    have e3 := e1.1 t3
    obtain ⟨e4, e5⟩ := inside_edge h t1 t2
    have e6 := e4.1 e3
    rw [e2 e3, e5 e6] at t4
    exact ⟨e6, by unfold cyA; omega⟩
  refine ⟨⟨by omega, fun i hi => ?_, fun i j hj hi e => ?_, fun i hi => (hV i (by omega)).1⟩, ?_⟩
  · rw [hl] at hi
    rw [hat i hi]
    obtain ⟨k, h1, h2⟩ := hnn (o.length - 1 - i) (by omega)
    omega
  · rw [hl] at hi
    rw [hat i hi, hat j (by omega)] at e
    have hnd := List.pairwise_iff_getElem.1 ho.nd (o.length - 1 - i) (o.length - 1 - j) (by omega) (by omega) (by omega)
    rw [List.getD_eq_getElem?_getD, List.getElem?_eq_getElem (by omega), List.getD_eq_getElem?_getD, List.getElem?_eq_getElem (by omega)] at e
    exact hnd e.symm
  · have hsum : ∀ i, i ≤ o.length → cySum m o.reverse i * g.den = g.num * i + (if i = 0 then 0 else T.getD (o.reverse.getD (i - 1) 0).toNat 0 - T.getD (o.reverse.getD (o.length - 1) 0).toNat 0) := by
      intro i
      induction i with
      | zero => intro _; simp [cySum]
      | succ i ih =>
        intro hi
        have e1 := (hV i (by omega)).2
        have e2 : g.num * ((i + 1 : Nat) : Int) = g.num * i + g.num := by rw [Int.natCast_add, Int.mul_add]; omega
        rw [cySum, Int.add_mul, ih (by omega), e1, e2, if_neg (by omega : ¬ i + 1 = 0), show i + 1 - 1 = i by omega]
        by_cases e : i = 0
        · subst e
          rw [if_pos rfl, cyP_zero (by omega), hl]; omega
        · obtain ⟨j, rfl⟩ : ∃ j, i = j + 1 := ⟨i - 1, by omega⟩
          rw [if_neg e, cyP_succ (by omega), show j + 1 - 1 = j by omega]; omega
    unfold cycS
    rw [hl, hsum o.length (Nat.le_refl _), if_neg (by omega)]
    omega
end
end Go.Sheet
/- All cycles tried (the reference's Mean) against the greatest mean that is computed: plain. -/
namespace Go.Sheet
abbrev BO := Option (Int × Int)
def upB (b : BO) (x : Int × Int) : BO := match b with | none => some x | some y => if y.1 * x.2 < x.1 * y.2 then some x else some y
def upC (n : Nat) (m : IMat) (p : List Nat) (b : BO) : BO := if cycE n m (natL p) = 0 then upB b (cycS m (natL p), (p.length : Int)) else b
def pathsF (n : Nat) (m : IMat) : Nat → List Nat → BO → BO
  | 0, p, b => upC n m p b
  | f + 1, p, b => (List.range' (p.getD 0 0 + 1) (n - (p.getD 0 0 + 1))).foldl (fun b k => if at2 m k (p.getD (p.length - 1) 0) = NONE ∨ k ∈ p then b else pathsF n m f (p ++ [k]) b) (upC n m p b)
def refMeanF (n : Nat) (m : IMat) : BO := (List.range n).foldl (fun b i => pathsF n m n [i] b) none
section
variable {n : Nat} {m : IMat}
def GoodB (n : Nat) (m : IMat) (b : BO) : Prop := ∀ y, b = some y → ∃ cy, CycOk n m cy ∧ y = (cycS m cy, (cy.length : Int))
def CovB (m : IMat) (b : BO) (cy : List Int) : Prop := ∃ y, b = some y ∧ cycS m cy * y.2 ≤ y.1 * (cy.length : Int)
theorem GoodB.pos {b : BO} (h : GoodB n m b) {y : Int × Int} (e : b = some y) : 0 < y.2 := by
  obtain ⟨cy, h1, rfl⟩ := h y e
  have := h1.ne
  show (0 : Int) < (cy.length : Int)
  omega
theorem upC_inv (p : List Nat) {b : BO} (hb : GoodB n m b) : GoodB n m (upC n m p b) ∧ ∀ cy, CovB m b cy → CovB m (upC n m p b) cy := by
  unfold upC
  by_cases hc : cycE n m (natL p) = 0
  · rw [if_pos hc]
    have hx : ∃ cy, CycOk n m cy ∧ (cycS m (natL p), (p.length : Int)) = (cycS m cy, (cy.length : Int)) := ⟨natL p, (cycE_zero n m _).1 hc, by rw [natL_len]⟩
    cases b with
    | none =>
      refine ⟨fun y e => ?_, fun cy h => ?_⟩
      · cases e; exact hx
      · obtain ⟨y, e, _⟩ := h; cases e
    | some z =>
      unfold upB
      simp only
      split
      · rename_i hlt
        refine ⟨fun y e => ?_, fun cy h => ?_⟩
        · cases e; exact hx
        · obtain ⟨y, e, h2⟩ := h
          have hy := hb.pos e
          cases e
          exact ⟨_, rfl, frac_trans hy (by omega) (by show (0 : Int) ≤ (p.length : Int); omega) h2 (Int.le_of_lt hlt)⟩
      · exact ⟨hb, fun cy h => h⟩
  · rw [if_neg hc]
    exact ⟨hb, fun cy h => h⟩
theorem upC_cov {p : List Nat} {b : BO} (hc : CycOk n m (natL p)) : CovB m (upC n m p b) (natL p) := by
  unfold upC
  rw [if_pos ((cycE_zero n m _).2 hc)]
  unfold upB
  cases b with
  | none => exact ⟨_, rfl, by rw [natL_len]; exact Int.le_refl _⟩
  | some z =>
    simp only
    split
    · exact ⟨_, rfl, by rw [natL_len]; exact Int.le_refl _⟩
    · rename_i hlt
      exact ⟨z, rfl, by rw [natL_len]; exact Int.not_lt.1 hlt⟩
theorem fold_inv {α : Type} {g : BO → α → BO} (hg : ∀ b k, GoodB n m b → GoodB n m (g b k) ∧ ∀ cy, CovB m b cy → CovB m (g b k) cy) : ∀ (l : List α) (b : BO), GoodB n m b → GoodB n m (l.foldl g b) ∧ ∀ cy, CovB m b cy → CovB m (l.foldl g b) cy
  | [], b, hb => ⟨hb, fun _ h => h⟩
  | x :: l, b, hb => by
    obtain ⟨h1, h2⟩ := hg b x hb
    obtain ⟨h3, h4⟩ := fold_inv hg l (g b x) h1
    exact ⟨h3, fun cy h => h4 cy (h2 cy h)⟩
theorem pathsF_inv : ∀ (f : Nat) (p : List Nat) (b : BO), GoodB n m b → GoodB n m (pathsF n m f p b) ∧ ∀ cy, CovB m b cy → CovB m (pathsF n m f p b) cy
  | 0, p, b, hb => upC_inv p hb
  | f + 1, p, b, hb => by
    obtain ⟨h1, h2⟩ := upC_inv p hb
    rw [pathsF]
    obtain ⟨h3, h4⟩ := fold_inv (n := n) (m := m) (g := fun b k => if at2 m k (p.getD (p.length - 1) 0) = NONE ∨ k ∈ p then b else pathsF n m f (p ++ [k]) b) (fun b k hb => by
      split
      · exact ⟨hb, fun _ h => h⟩
      · exact pathsF_inv f (p ++ [k]) b hb) (List.range' (p.getD 0 0 + 1) (n - (p.getD 0 0 + 1))) _ h1
    exact ⟨h3, fun cy h => h4 cy (h2 cy h)⟩
theorem pathsF_cov (h : MatOk n m) : ∀ (f : Nat) (p ext : List Nat) (b : BO), GoodB n m b → 0 < p.length → n ≤ p.length + f → CycOk n m (natL (p ++ ext)) → (∀ x ∈ ext, p.getD 0 0 < x) → CovB m (pathsF n m f p b) (natL (p ++ ext))
  | f, p, [], b, hb, _, _, hc, _ => by
    rw [List.append_nil] at hc ⊢
    cases f with
    | zero => exact upC_cov hc
    | succ f =>
      rw [pathsF]
      refine (fold_inv (n := n) (m := m) (g := fun b k => if at2 m k (p.getD (p.length - 1) 0) = NONE ∨ k ∈ p then b else pathsF n m f (p ++ [k]) b) (fun b k hb => ?_) _ _ (upC_inv p hb).1).2 _ (upC_cov hc)
      split
      · exact ⟨hb, fun _ h => h⟩
      · exact pathsF_inv f (p ++ [k]) b hb
  | 0, p, k :: ext, b, hb, hp, hn, hc, hx => by
    have := (cyc_of_list h hc).le
    rw [natL_len, List.length_append, List.length_cons] at this
    omega
  | f + 1, p, k :: ext, b, hb, hp, hn, hc, hx => by
    have hlen : (natL (p ++ k :: ext)).length = p.length + (ext.length + 1) := by rw [natL_len, List.length_append, List.length_cons]
    have hk : (natL (p ++ k :: ext)).getD p.length 0 = (k : Int) := by
      rw [natL_getD, List.getD_eq_getElem?_getD, List.getElem?_append_right (Nat.le_refl _), Nat.sub_self]; rfl
    have hpj : ∀ j, j < p.length → (natL (p ++ k :: ext)).getD j 0 = ((p.getD j 0 : Nat) : Int) := fun j hj => by
      rw [natL_getD, List.getD_eq_getElem?_getD, List.getElem?_append_left hj, List.getD_eq_getElem?_getD]
    have hkn : k < n := by
      have := (hc.lt p.length (by omega)).2
      rw [hk] at this
      omega
    have hed : at2 m k (p.getD (p.length - 1) 0) ≠ NONE := by
      have := hc.ed p.length (by omega)
      unfold cyA at this
      rw [hk, Int.toNat_natCast] at this
      obtain ⟨j, hj⟩ : ∃ j, p.length = j + 1 := ⟨p.length - 1, by omega⟩
      rw [hj, cyP_succ (by omega), hpj j (by omega), Int.toNat_natCast] at this
      rw [show p.length - 1 = j by omega]
      exact this
    have hnp : k ∉ p := fun hm => by
      obtain ⟨j, hj, e⟩ := List.getElem_of_mem hm
      have := hc.two p.length j hj (by omega)
      rw [hk, hpj j hj, List.getD_eq_getElem?_getD, List.getElem?_eq_getElem hj, e] at this
      exact this rfl
    have hlt := hx k (List.mem_cons_self ..)
    have hmem : k ∈ List.range' (p.getD 0 0 + 1) (n - (p.getD 0 0 + 1)) := List.mem_range'_1.2 (by omega)
    obtain ⟨l1, l2, hl⟩ := List.append_of_mem hmem
    rw [pathsF, hl, List.foldl_append, List.foldl_cons]
    have hg : ∀ (b : BO) (k : Nat), GoodB n m b → GoodB n m (if at2 m k (p.getD (p.length - 1) 0) = NONE ∨ k ∈ p then b else pathsF n m f (p ++ [k]) b) ∧ ∀ cy, CovB m b cy → CovB m (if at2 m k (p.getD (p.length - 1) 0) = NONE ∨ k ∈ p then b else pathsF n m f (p ++ [k]) b) cy := fun b k hb => by
      split
      · exact ⟨hb, fun _ h => h⟩
      · exact pathsF_inv f (p ++ [k]) b hb
    obtain ⟨g1, _⟩ := fold_inv (n := n) (m := m) hg l1 _ (upC_inv p hb).1
    have g2 := (hg _ k g1).1
    refine (fold_inv (n := n) (m := m) hg l2 _ g2).2 _ ?_
    rw [if_neg (fun e => e.elim hed hnp)]
    have he : p ++ k :: ext = (p ++ [k]) ++ ext := by simp
    rw [he] at hc ⊢
    refine pathsF_cov h f (p ++ [k]) ext _ g1 (by simp) (by rw [List.length_append, List.length_singleton]; omega) hc fun x hxm => ?_
    rw [List.getD_eq_getElem?_getD, List.getElem?_append_left hp, ← List.getD_eq_getElem?_getD]
    exact hx x (List.mem_cons_of_mem _ hxm)
theorem refMean_good : GoodB n m (refMeanF n m) :=
  (fold_inv (n := n) (m := m) (g := fun b i => pathsF n m n [i] b) (fun b i hb => pathsF_inv n [i] b hb) (List.range n) none (fun y e => by cases e)).1
theorem refMean_cov (h : MatOk n m) {p : List Nat} (hc : CycOk n m (natL p)) (hl : ∀ i, 0 < i → i < p.length → p.getD 0 0 < p.getD i 0) : CovB m (refMeanF n m) (natL p) := by
  have hne := hc.ne
  rw [natL_len] at hne
  cases p with
  | nil => simp at hne
  | cons i ext =>
    have hin : i < n := by
      have := (hc.lt 0 (by rw [natL_len]; exact hne)).2
      rw [natL_getD] at this
      simp only [List.getD_cons_zero] at this
      omega
    obtain ⟨l1, l2, hr⟩ := List.append_of_mem (List.mem_range.2 hin)
    unfold refMeanF
    rw [hr, List.foldl_append, List.foldl_cons]
    have hg : ∀ (b : BO) (i : Nat), GoodB n m b → GoodB n m (pathsF n m n [i] b) ∧ ∀ cy, CovB m b cy → CovB m (pathsF n m n [i] b) cy := fun b i hb => pathsF_inv n [i] b hb
    obtain ⟨g1, _⟩ := fold_inv (n := n) (m := m) hg l1 none (fun y e => by cases e)
    refine (fold_inv (n := n) (m := m) hg l2 _ (hg _ i g1).1).2 _ ?_
    refine pathsF_cov h n [i] ext _ g1 (by simp) (by simp) hc fun x hxm => ?_
    obtain ⟨j, hj, e⟩ := List.getElem_of_mem hxm
    have := hl (j + 1) (by omega) (by rw [List.length_cons]; omega)
    simp only [List.getD_cons_zero, List.getD_cons_succ] at this ⊢
    rw [List.getD_eq_getElem?_getD, List.getElem?_eq_getElem hj, e] at this
    exact this
/-- what Mean hands back: the greatest mean of all cycles, and a cycle that has it -/
theorem mean_law (h : MatOk n m) (hn : n ≤ 24) :
    (refMeanF n m = none ∧ (greatestF (insideM m)).found = false) ∨
    ∃ p q, refMeanF n m = some (p, q) ∧ (greatestF (insideM m)).found = true ∧ 0 < q ∧ 0 < (greatestF (insideM m)).den ∧ (greatestF (insideM m)).num * q = p * (greatestF (insideM m)).den ∧ (∃ cy, CycOk n m cy ∧ p = cycS m cy ∧ q = (cy.length : Int)) ∧
      CycOk n m (tightF (lessM m (greatestF (insideM m))) (topF (lessM m (greatestF (insideM m))) n)) ∧
      cycS m (tightF (lessM m (greatestF (insideM m))) (topF (lessM m (greatestF (insideM m))) n)) * (greatestF (insideM m)).den = (greatestF (insideM m)).num * ((tightF (lessM m (greatestF (insideM m))) (topF (lessM m (greatestF (insideM m))) n)).length : Int) := by
  have hsq := h.sq
  cases hr : refMeanF n m with
  | none =>
    left
    refine ⟨rfl, ?_⟩
    cases hf : (greatestF (insideM m)).found with
    | false => rfl
    | true =>
      obtain ⟨c, v, s, h1, h2⟩ := greatest_walk hsq hf
      obtain ⟨c', f', s', hc⟩ := cyc_of_walk c v s h1 h2
      obtain ⟨p, a1, a2, a3, a4⟩ := cyc_least h hc
      obtain ⟨y, e, _⟩ := refMean_cov h a1 (fun i h0 hi => a4 i h0 (by omega))
      rw [hr] at e
      cases e
  | some y =>
    right
    obtain ⟨p, q⟩ := y
    obtain ⟨cy, hcy, e⟩ := refMean_good _ hr
    have hq : 0 < q := refMean_good.pos hr
    cases e
    have hU : Up (insideM m) n (cycS m cy) (cy.length : Int) := up_of_cyc fun c f s hc => by
      obtain ⟨p', a1, a2, a3, a4⟩ := cyc_least h hc
      obtain ⟨y, e, h2⟩ := refMean_cov h a1 (fun i h0 hi => a4 i h0 (by omega))
      rw [hr] at e
      cases e
      rw [a3, natL_len, a2] at h2
      exact h2
    have hcyc := cyc_of_list h hcy
    obtain ⟨g1, g2, g3⟩ := greatest_eq hsq (by omega) (by omega) hn hU hq hcy.ne hcyc.walk rfl
    have hg := greatestF_bd hsq hn
    generalize greatestF (insideM m) = g at *
    have hU2 : Up (insideM m) n g.num g.den := fun c v s hc hw => frac_trans hq (by omega) (by omega) (hU c v s hc hw) (by rw [g3]; exact Int.le_refl _)
    have hL := lessM_sq (b := g) hsq hg
    obtain ⟨_, hT⟩ := topF_spec hL (less_up hsq hg hU2)
    have hc0 := less_cyc hsq hg hcyc g3.symm
    obtain ⟨o, ho, hok⟩ := tight_found hL hn hc0.1 (by obtain ⟨_, _, S, _, he, _⟩ := hc0; exact he) (cyc_tight hT hc0)
    obtain ⟨b1, b2⟩ := own_ok h hg hok
    rw [← ho] at b1 b2
    exact ⟨_, _, rfl, g1, hq, g2, g3, ⟨cy, hcy, rfl, rfl⟩, b1, b2⟩
end
end Go.Sheet
