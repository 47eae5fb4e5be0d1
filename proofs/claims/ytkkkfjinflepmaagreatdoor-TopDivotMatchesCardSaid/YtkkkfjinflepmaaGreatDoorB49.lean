/- Part 49 of the walks of the golf union's program: ArgA. -/
import Derived.Test.YtkkkfjinflepmaaGreatDoorB01
import Derived.Test.YtkkkfjinflepmaaGreatDoorB02
import Derived.Deep.Slices
import Derived.Deep.Strs
import Derived.ChangeMaps5
import Derived.ChangeSame
import Derived.WalkKit
import Derived.SizedLaws
set_option linter.unusedVariables false
set_option linter.unusedSimpArgs false
set_option linter.unusedSectionVars false
set_option linter.constructorNameAsVariable false
/- What the statement's arguments are: holes, entries, a card, opened from the row's data. -/
namespace Go.Mem
open Go.RowKit Go.Deep Go.Adj Go.ChangeShapes Go.WideShapes
section
variable {H : Type} {enc : TypeId × Value → H} {P : Program} {w : World} {base : Nat} {spare : Nat → Bool} {held : Bool}
theorem cell_spot {w : World} {a : Addr} {v : Value} (h : w.cell? a = some v) : a.spot = none := by
  unfold World.cell? at h
  split at h
  · cases hs : a.spot with
    | none => rfl
    | some x => rw [hs] at h; simp at h
  · cases h
theorem weights_all {e : TypeId} {u : Nat} {d : DataW H} : ∀ {l : List (DataW H)}, d ∈ l → u ∈ d.weights P e → u ∈ DataW.weightsAll P e l
  | [], h, _ => by cases h
  | x :: l, h, hu => by
    rw [DataW.weightsAll, List.mem_append]
    rcases List.mem_cons.1 h with rfl | h
    · exact .inl hu
    · exact .inr (weights_all h hu)
/-- a slice opened: what its elements are, by a function from data to cells -/
theorem rd_of_slice {α : Type} [Inhabited α] {f : α → List Value} {R : α → Prop} {size : Nat} (h0 : 0 < size) {t e : TypeId} {fuel : Nat} {v : Value} {x : DataW H × List MemPlace}
    (ht : P.underlying t = some (.slice e)) (hc : P.cellsOf e = size) (hs : ∀ z, (f z).length = size)
    (hf : ∀ n cs y, cs.length = size → DataW.trod enc P w base spare held n e cs = some y → (∀ u ∈ y.1.weights P e, u ≤ reachBytes) → ∃ z, cs = f z ∧ R z)
    (h : DataW.trod enc P w base spare held fuel t [v] = some x) (hw : ∀ u ∈ x.1.weights P t, u ≤ reachBytes) :
    ∃ (n : Nat) (l : List α), Rd w (· < w.heap.size) size v n (l.flatMap f) ∧ (∀ z ∈ l, R z) ∧ n * P.bytesOf e ≤ reachBytes := by
  rcases open_slice ht h with ⟨h1, _⟩ | ⟨a, len, cap, m, n, D, Pl, hv, hb, hl, hm, hmm, hxe, hx⟩
  · cases h1
    exact ⟨0, [], Rd.nil _ _ _, by simp, by rw [Nat.zero_mul]; exact Nat.zero_le _⟩
  · cases hv
    have hlm : len ≤ m := by rw [hmm]; split <;> omega
    subst hxe
    have hw2 : ∀ u, u ∈ DataW.weightsAll P e ((List.range len).map D) → u ≤ reachBytes := fun u hu => hw u (by
      simp only [DataW.weights, ht]
      rw [List.mem_cons, List.mem_append]
      exact .inr (.inl hu))
    have hw1 : len * P.bytesOf e ≤ reachBytes := by
      have := hw ((((List.range len).map D).length + ((List.range (m - len)).map fun j => D (len + j)).length) * P.bytesOf e) (by
        simp only [DataW.weights, ht]
        exact List.mem_cons_self ..)
      rw [List.length_map, List.length_map, List.length_range, List.length_range] at this
      exact Nat.le_trans (Nat.mul_le_mul_right _ (by omega)) this
    obtain ⟨Z, hZ⟩ := choose_lt (α := α) (n := len) (p := fun i z => R z ∧ ∀ j u, (f z)[j]? = some u → w.cell? (a.add (i * size + j)) = some u) (fun i hi => by
      obtain ⟨cs', h1, h2⟩ := hx i (by omega)
      rw [hc] at h1
      obtain ⟨_, hlen, hcell⟩ := World.cells?_some h1
      obtain ⟨z, rfl, hz⟩ := hf _ _ _ hlen h2 (fun u hu => hw2 u (weights_all (List.mem_map_of_mem (List.mem_range.2 hi)) hu))
      refine ⟨z, hz, fun j u hj => ?_⟩
      have hjl : j < size := by rw [← hs z]; exact (List.getElem?_eq_some_iff.1 hj).1
      rw [← add_of_add, hcell j hjl, hj])
    refine ⟨len, (List.range len).map Z, ⟨some a, cap, rfl, hl, hm, ?_, (fun h => by cases h), fun hn => ?_⟩, fun z hz => ?_, hw1⟩
    · rw [flatMap_len hs, List.length_map, List.length_range]
    · have hz0 : 0 < (f (Z 0)).length := by rw [hs]; exact h0
      have c0 := (hZ 0 hn).2 0 _ (List.getElem?_eq_getElem hz0)
      rw [Nat.zero_mul, Nat.add_zero] at c0
      have ha0 : a.add 0 = a := by unfold Addr.add; simp
      rw [ha0] at c0
      have hsp := cell_spot c0
      obtain ⟨b, o, sp⟩ := a
      simp only at hsp
      subst hsp
      refine ⟨b, o, rfl, ?_, World.block_lt_of_cell? w _ c0, fun j u hj => ?_⟩
      · exact World.block_lt_of_cell? w _ c0
      · have hjl := (List.getElem?_eq_some_iff.1 hj).1
        rw [flatMap_len hs, List.length_map, List.length_range] at hjl
        have hi : j / size < len := Nat.div_lt_of_lt_mul (by rw [Nat.mul_comm]; exact hjl)
        have hm2 : j % size < size := Nat.mod_lt _ h0
        have hzi : ((List.range len).map Z)[j / size]? = some (Z (j / size)) := by simp [List.getElem?_range hi]
        obtain ⟨u', hu'⟩ : ∃ u', (f (Z (j / size)))[j % size]? = some u' := ⟨_, List.getElem?_eq_getElem (by rw [hs]; exact hm2)⟩
        have h3 := flatMap_at (f := f) (s := size) (fun y _ => hs y) hzi hu'
        have hjj : j / size * size + j % size = j := by rw [Nat.mul_comm]; exact Nat.div_add_mod j size
        rw [hjj] at h3
        rw [hj] at h3
        cases h3
        have h4 := (hZ _ hi).2 _ _ hu'
        rw [hjj] at h4
        have : (⟨b, o, none⟩ : Addr).add j = ⟨b, o + j, none⟩ := by unfold Addr.add; split <;> simp_all
        rwa [this] at h4
    · obtain ⟨i, hi, rfl⟩ := List.mem_map.1 hz
      exact (hZ i (List.mem_range.1 hi)).1
theorem rd_of_holes {t e : TypeId} {f0 f1 : Field} {fuel : Nat} {v : Value} {x : DataW H × List MemPlace} (ht : P.underlying t = some (.slice e)) (he : P.underlying e = some (.struct #[f0, f1])) (hc : P.cellsOf e = 2)
    (ho : f0.offset = 0 ∧ f1.offset = 1) (hs : P.cellsOf f0.type = 1 ∧ P.cellsOf f1.type = 1) (hi : P.underlying f0.type = some (.int .i64) ∧ P.underlying f1.type = some (.int .i64))
    (h : DataW.trod enc P w base spare held fuel t [v] = some x) (hw : ∀ u ∈ x.1.weights P t, u ≤ reachBytes) :
    ∃ (n : Nat) (l : List HI), Rd w (· < w.heap.size) 2 v n (l.flatMap HI.cells) ∧ (∀ z ∈ l, (Lit.int .i64 z.par).wf = true ∧ (Lit.int .i64 z.idx).wf = true) ∧ n * P.bytesOf e ≤ reachBytes :=
  rd_of_slice (size := 2) (by omega) ht hc (fun _ => rfl) (fun n cs y hl hy _ => by
    obtain ⟨y0, y1, m, _, _, h0, h1⟩ := trod_struct2 he hy
    match cs, hl with
    | [a, b], _ =>
      rw [ho.1, hs.1] at h0
      rw [ho.2, hs.2] at h1
      obtain ⟨z0, e0, _, k0⟩ := DataW.trod_int hi.1 h0
      obtain ⟨z1, e1, _, k1⟩ := DataW.trod_int hi.2 h1
      simp at e0 e1
      subst e0 e1
      exact ⟨⟨z0, z1⟩, rfl, k0, k1⟩) h hw
theorem rd_of_entries {t e : TypeId} {f0 f1 : Field} {fuel : Nat} {v : Value} {x : DataW H × List MemPlace} (ht : P.underlying t = some (.slice e)) (he : P.underlying e = some (.struct #[f0, f1])) (hc : P.cellsOf e = 2)
    (ho : f0.offset = 0 ∧ f1.offset = 1) (hs : P.cellsOf f0.type = 1 ∧ P.cellsOf f1.type = 1) (hi : P.underlying f0.type = some (.int .i64) ∧ P.underlying f1.type = some .string)
    (h : DataW.trod enc P w base spare held fuel t [v] = some x) (hw : ∀ u ∈ x.1.weights P t, u ≤ reachBytes) :
    ∃ (n : Nat) (l : List EI), Rd w (· < w.heap.size) 2 v n (l.flatMap EI.cells) ∧ (∀ z ∈ l, (Lit.int .i64 z.s).wf = true ∧ z.m.size ≤ 9223372036854775807) ∧ n * P.bytesOf e ≤ reachBytes :=
  rd_of_slice (size := 2) (by omega) ht hc (fun _ => rfl) (fun n cs y hl hy _ => by
    obtain ⟨y0, y1, m, _, _, h0, h1⟩ := trod_struct2 he hy
    match cs, hl with
    | [a, b], _ =>
      rw [ho.1, hs.1] at h0
      rw [ho.2, hs.2] at h1
      obtain ⟨z0, e0, _, k0⟩ := DataW.trod_int hi.1 h0
      obtain ⟨z1, e1, _, k1⟩ := DataW.trod_string hi.2 h1
      simp at e0 e1
      subst e0 e1
      exact ⟨⟨z0, z1⟩, rfl, k0, by unfold maxLen at k1; omega⟩) h hw
theorem rd_of_card {t te e : TypeId} {f0 f1 g0 g1 : Field} {fuel : Nat} {cs : Array Value} {x : DataW H × List MemPlace} (ht : P.underlying t = some (.struct #[f0, f1])) (hct : P.cellsOf t = 2) (hsz : cs.size = P.cellsOf t)
    (ho : f0.offset = 0 ∧ f1.offset = 1) (hs : P.cellsOf f0.type = 1 ∧ P.cellsOf f1.type = 1) (hty : P.underlying f0.type = some .string ∧ f1.type = te)
    (hte : P.underlying te = some (.slice e)) (he : P.underlying e = some (.struct #[g0, g1])) (hc : P.cellsOf e = 2)
    (hog : g0.offset = 0 ∧ g1.offset = 1) (hsg : P.cellsOf g0.type = 1 ∧ P.cellsOf g1.type = 1) (hi : P.underlying g0.type = some (.int .i64) ∧ P.underlying g1.type = some .string)
    (h : DataW.trod enc P w base spare held fuel t cs.toList = some x) (hw : ∀ u ∈ x.1.weights P t, u ≤ reachBytes) :
    ∃ (s : ByteArray) (ve : Value) (n : Nat) (l : List EI), cs = #[.string s, ve] ∧ s.size ≤ 9223372036854775807 ∧ Rd w (· < w.heap.size) 2 ve n (l.flatMap EI.cells) ∧ (∀ z ∈ l, (Lit.int .i64 z.s).wf = true ∧ z.m.size ≤ 9223372036854775807) ∧ n * P.bytesOf e ≤ reachBytes := by
  obtain ⟨y0, y1, m, hye, _, h0, h1⟩ := trod_struct2 ht h
  have hwa : ∀ u, u ∈ y1.1.weights P te → u ≤ reachBytes := fun u hu => hw u (by
    rw [hye]
    simp only [DataW.weights, ht, List.map_cons, List.map_nil, DataW.weightsEach, hty.2]
    simp only [List.mem_append]
    exact .inr (.inl hu))
  rw [hct] at hsz
  match cs, hsz with
  | ⟨[a, b]⟩, _ =>
    simp only at h0 h1
    rw [ho.1, hs.1] at h0
    rw [ho.2, hs.2, hty.2] at h1
    obtain ⟨z0, e0, _, k0⟩ := DataW.trod_string hty.1 h0
    obtain ⟨n, l, r1, r2, r3⟩ := rd_of_entries hte he hc hog hsg hi (show DataW.trod enc P w base spare held m te [b] = some y1 from h1) hwa
    simp at e0
    subst e0
    exact ⟨z0, b, n, l, rfl, by unfold maxLen at k0; omega, r1, r2, r3⟩
end
end Go.Mem
