/- Part 31 of the walks of the golf union's program: ArgA, ArgU. -/
import Derived.Test.YtnaafefcijgpkaaGreatDoorB01
import Derived.Deep.Slices
import Derived.Deep.Strs
import Derived.ChangeMaps5
import Derived.ChangeSame
import Derived.WalkKit
import Derived.SizedLaws
import Derived.Test.YtnaafefcijgpkaaGreatDoorB02
set_option linter.unusedVariables false
set_option linter.unusedSimpArgs false
set_option linter.unusedSectionVars false
set_option linter.constructorNameAsVariable false
/- What the statement's arguments are: holes, entries, a card, opened from the row's data. -/
namespace Go.Mem
open Go.RowKit Go.Deep Go.Adj Go.ChangeShapes Go.WideShapes
section
variable {H : Type} {enc : TypeId × Value → H} {P : Program} {w : World} {base : Nat} {spare : Nat → Bool} {held : Bool}
theorem cell_spot {w : World} {a : Addr} {v : Value} (h : w.cell? a = some v) : a.spot = none := by
  unfold World.cell? at h
  split at h
  · cases hs : a.spot with
    | none => rfl
    | some x => rw [hs] at h; simp at h
  · cases h
theorem weights_all {e : TypeId} {u : Nat} {d : DataW H} : ∀ {l : List (DataW H)}, d ∈ l → u ∈ d.weights P e → u ∈ DataW.weightsAll P e l
  | [], h, _ => by cases h
  | x :: l, h, hu => by
    rw [DataW.weightsAll, List.mem_append]
    rcases List.mem_cons.1 h with rfl | h
    · exact .inl hu
    · exact .inr (weights_all h hu)
/-- a slice opened: what its elements are, by a function from data to cells -/
theorem rd_of_slice {α : Type} [Inhabited α] {f : α → List Value} {R : α → Prop} {size : Nat} (h0 : 0 < size) {t e : TypeId} {fuel : Nat} {v : Value} {x : DataW H × List MemPlace}
    (ht : P.underlying t = some (.slice e)) (hc : P.cellsOf e = size) (hs : ∀ z, (f z).length = size)
    (hf : ∀ n cs y, cs.length = size → DataW.trod enc P w base spare held n e cs = some y → (∀ u ∈ y.1.weights P e, u ≤ reachBytes) → ∃ z, cs = f z ∧ R z)
    (h : DataW.trod enc P w base spare held fuel t [v] = some x) (hw : ∀ u ∈ x.1.weights P t, u ≤ reachBytes) :
    ∃ (n : Nat) (l : List α), Rd w (· < w.heap.size) size v n (l.flatMap f) ∧ (∀ z ∈ l, R z) ∧ n * P.bytesOf e ≤ reachBytes := by
  rcases open_slice ht h with ⟨h1, _⟩ | ⟨a, len, cap, m, n, D, Pl, hv, hb, hl, hm, hmm, hxe, hx⟩
  · cases h1
    exact ⟨0, [], Rd.nil _ _ _, by simp, by rw [Nat.zero_mul]; exact Nat.zero_le _⟩
  · cases hv
    have hlm : len ≤ m := by rw [hmm]; split <;> omega
    subst hxe
    have hw2 : ∀ u, u ∈ DataW.weightsAll P e ((List.range len).map D) → u ≤ reachBytes := fun u hu => hw u (by
      simp only [DataW.weights, ht]
      rw [List.mem_cons, List.mem_append]
      exact .inr (.inl hu))
    have hw1 : len * P.bytesOf e ≤ reachBytes := by
      have := hw ((((List.range len).map D).length + ((List.range (m - len)).map fun j => D (len + j)).length) * P.bytesOf e) (by
        simp only [DataW.weights, ht]
        exact List.mem_cons_self ..)
      rw [List.length_map, List.length_map, List.length_range, List.length_range] at this
      exact Nat.le_trans (Nat.mul_le_mul_right _ (by omega)) this
    obtain ⟨Z, hZ⟩ := choose_lt (α := α) (n := len) (p := fun i z => R z ∧ ∀ j u, (f z)[j]? = some u → w.cell? (a.add (i * size + j)) = some u) (fun i hi => by
      obtain ⟨cs', h1, h2⟩ := hx i (by omega)
      rw [hc] at h1
      obtain ⟨_, hlen, hcell⟩ := World.cells?_some h1
      obtain ⟨z, rfl, hz⟩ := hf _ _ _ hlen h2 (fun u hu => hw2 u (weights_all (List.mem_map_of_mem (List.mem_range.2 hi)) hu))
      refine ⟨z, hz, fun j u hj => ?_⟩
      have hjl : j < size := by rw [← hs z]; exact (List.getElem?_eq_some_iff.1 hj).1
      rw [← add_of_add, hcell j hjl, hj])
    refine ⟨len, (List.range len).map Z, ⟨some a, cap, rfl, hl, hm, ?_, (fun h => by cases h), fun hn => ?_⟩, fun z hz => ?_, hw1⟩
    · rw [flatMap_len hs, List.length_map, List.length_range]
    · have hz0 : 0 < (f (Z 0)).length := by rw [hs]; exact h0
      have c0 := (hZ 0 hn).2 0 _ (List.getElem?_eq_getElem hz0)
      rw [Nat.zero_mul, Nat.add_zero] at c0
      have ha0 : a.add 0 = a := by unfold Addr.add; simp
      rw [ha0] at c0
      have hsp := cell_spot c0
      obtain ⟨b, o, sp⟩ := a
      simp only at hsp
      subst hsp
      refine ⟨b, o, rfl, ?_, World.block_lt_of_cell? w _ c0, fun j u hj => ?_⟩
      · exact World.block_lt_of_cell? w _ c0
      · have hjl := (List.getElem?_eq_some_iff.1 hj).1
        rw [flatMap_len hs, List.length_map, List.length_range] at hjl
        have hi : j / size < len := Nat.div_lt_of_lt_mul (by rw [Nat.mul_comm]; exact hjl)
        have hm2 : j % size < size := Nat.mod_lt _ h0
        have hzi : ((List.range len).map Z)[j / size]? = some (Z (j / size)) := by simp [List.getElem?_range hi]
        obtain ⟨u', hu'⟩ : ∃ u', (f (Z (j / size)))[j % size]? = some u' := ⟨_, List.getElem?_eq_getElem (by rw [hs]; exact hm2)⟩
        have h3 := flatMap_at (f := f) (s := size) (fun y _ => hs y) hzi hu'
        have hjj : j / size * size + j % size = j := by rw [Nat.mul_comm]; exact Nat.div_add_mod j size
        rw [hjj] at h3
        rw [hj] at h3
        cases h3
        have h4 := (hZ _ hi).2 _ _ hu'
        rw [hjj] at h4
        have : (⟨b, o, none⟩ : Addr).add j = ⟨b, o + j, none⟩ := by unfold Addr.add; split <;> simp_all
        rwa [this] at h4
    · obtain ⟨i, hi, rfl⟩ := List.mem_map.1 hz
      exact (hZ i (List.mem_range.1 hi)).1
theorem rd_of_holes {t e : TypeId} {f0 f1 : Field} {fuel : Nat} {v : Value} {x : DataW H × List MemPlace} (ht : P.underlying t = some (.slice e)) (he : P.underlying e = some (.struct #[f0, f1])) (hc : P.cellsOf e = 2)
    (ho : f0.offset = 0 ∧ f1.offset = 1) (hs : P.cellsOf f0.type = 1 ∧ P.cellsOf f1.type = 1) (hi : P.underlying f0.type = some (.int .i64) ∧ P.underlying f1.type = some (.int .i64))
    (h : DataW.trod enc P w base spare held fuel t [v] = some x) (hw : ∀ u ∈ x.1.weights P t, u ≤ reachBytes) :
    ∃ (n : Nat) (l : List HI), Rd w (· < w.heap.size) 2 v n (l.flatMap HI.cells) ∧ (∀ z ∈ l, (Lit.int .i64 z.par).wf = true ∧ (Lit.int .i64 z.idx).wf = true) ∧ n * P.bytesOf e ≤ reachBytes :=
  rd_of_slice (size := 2) (by omega) ht hc (fun _ => rfl) (fun n cs y hl hy _ => by
    obtain ⟨y0, y1, m, _, _, h0, h1⟩ := trod_struct2 he hy
    match cs, hl with
    | [a, b], _ =>
      rw [ho.1, hs.1] at h0
      rw [ho.2, hs.2] at h1
      obtain ⟨z0, e0, _, k0⟩ := DataW.trod_int hi.1 h0
      obtain ⟨z1, e1, _, k1⟩ := DataW.trod_int hi.2 h1
      simp at e0 e1
      subst e0 e1
      exact ⟨⟨z0, z1⟩, rfl, k0, k1⟩) h hw
theorem rd_of_entries {t e : TypeId} {f0 f1 : Field} {fuel : Nat} {v : Value} {x : DataW H × List MemPlace} (ht : P.underlying t = some (.slice e)) (he : P.underlying e = some (.struct #[f0, f1])) (hc : P.cellsOf e = 2)
    (ho : f0.offset = 0 ∧ f1.offset = 1) (hs : P.cellsOf f0.type = 1 ∧ P.cellsOf f1.type = 1) (hi : P.underlying f0.type = some (.int .i64) ∧ P.underlying f1.type = some .string)
    (h : DataW.trod enc P w base spare held fuel t [v] = some x) (hw : ∀ u ∈ x.1.weights P t, u ≤ reachBytes) :
    ∃ (n : Nat) (l : List EI), Rd w (· < w.heap.size) 2 v n (l.flatMap EI.cells) ∧ (∀ z ∈ l, (Lit.int .i64 z.s).wf = true ∧ z.m.size ≤ 9223372036854775807) ∧ n * P.bytesOf e ≤ reachBytes :=
  rd_of_slice (size := 2) (by omega) ht hc (fun _ => rfl) (fun n cs y hl hy _ => by
    obtain ⟨y0, y1, m, _, _, h0, h1⟩ := trod_struct2 he hy
    match cs, hl with
    | [a, b], _ =>
      rw [ho.1, hs.1] at h0
      rw [ho.2, hs.2] at h1
      obtain ⟨z0, e0, _, k0⟩ := DataW.trod_int hi.1 h0
      obtain ⟨z1, e1, _, k1⟩ := DataW.trod_string hi.2 h1
      simp at e0 e1
      subst e0 e1
      exact ⟨⟨z0, z1⟩, rfl, k0, by unfold maxLen at k1; omega⟩) h hw
theorem rd_of_card {t te e : TypeId} {f0 f1 g0 g1 : Field} {fuel : Nat} {cs : Array Value} {x : DataW H × List MemPlace} (ht : P.underlying t = some (.struct #[f0, f1])) (hct : P.cellsOf t = 2) (hsz : cs.size = P.cellsOf t)
    (ho : f0.offset = 0 ∧ f1.offset = 1) (hs : P.cellsOf f0.type = 1 ∧ P.cellsOf f1.type = 1) (hty : P.underlying f0.type = some .string ∧ f1.type = te)
    (hte : P.underlying te = some (.slice e)) (he : P.underlying e = some (.struct #[g0, g1])) (hc : P.cellsOf e = 2)
    (hog : g0.offset = 0 ∧ g1.offset = 1) (hsg : P.cellsOf g0.type = 1 ∧ P.cellsOf g1.type = 1) (hi : P.underlying g0.type = some (.int .i64) ∧ P.underlying g1.type = some .string)
    (h : DataW.trod enc P w base spare held fuel t cs.toList = some x) (hw : ∀ u ∈ x.1.weights P t, u ≤ reachBytes) :
    ∃ (s : ByteArray) (ve : Value) (n : Nat) (l : List EI), cs = #[.string s, ve] ∧ s.size ≤ 9223372036854775807 ∧ Rd w (· < w.heap.size) 2 ve n (l.flatMap EI.cells) ∧ (∀ z ∈ l, (Lit.int .i64 z.s).wf = true ∧ z.m.size ≤ 9223372036854775807) ∧ n * P.bytesOf e ≤ reachBytes := by
  obtain ⟨y0, y1, m, hye, _, h0, h1⟩ := trod_struct2 ht h
  have hwa : ∀ u, u ∈ y1.1.weights P te → u ≤ reachBytes := fun u hu => hw u (by
    rw [hye]
    simp only [DataW.weights, ht, List.map_cons, List.map_nil, DataW.weightsEach, hty.2]
    simp only [List.mem_append]
    exact .inr (.inl hu))
  rw [hct] at hsz
  match cs, hsz with
  | ⟨[a, b]⟩, _ =>
    simp only at h0 h1
    rw [ho.1, hs.1] at h0
    rw [ho.2, hs.2, hty.2] at h1
    obtain ⟨z0, e0, _, k0⟩ := DataW.trod_string hty.1 h0
    obtain ⟨n, l, r1, r2, r3⟩ := rd_of_entries hte he hc hog hsg hi (show DataW.trod enc P w base spare held m te [b] = some y1 from h1) hwa
    simp at e0
    subst e0
    exact ⟨z0, b, n, l, rfl, by unfold maxLen at k0; omega, r1, r2, r3⟩
end
end Go.Mem
/- What the statement's argument is: a union, opened from the row's data. -/
namespace Go.Mem
open Go.RowKit Go.Deep Go.Adj Go.ChangeShapes Go.WideShapes
section
variable {H : Type} {enc : TypeId × Value → H} {P : Program} {w : World} {base : Nat} {spare : Nat → Bool} {held : Bool}
theorem trod_struct4 {t : TypeId} {f0 f1 f2 f3 : Field} {fuel : Nat} {cs : List Value} {x : DataW H × List MemPlace} (ht : P.underlying t = some (.struct #[f0, f1, f2, f3])) (h : DataW.trod enc P w base spare held fuel t cs = some x) :
    ∃ y0 y1 y2 y3 n, x.1 = .agg [y0.1, y1.1, y2.1, y3.1] ∧ DataW.trod enc P w base spare held n f0.type ((cs.drop f0.offset).take (P.cellsOf f0.type)) = some y0 ∧ DataW.trod enc P w base spare held n f1.type ((cs.drop f1.offset).take (P.cellsOf f1.type)) = some y1 ∧
      DataW.trod enc P w base spare held n f2.type ((cs.drop f2.offset).take (P.cellsOf f2.type)) = some y2 ∧ DataW.trod enc P w base spare held n f3.type ((cs.drop f3.offset).take (P.cellsOf f3.type)) = some y3 := by
  obtain ⟨xs, n, _, rfl, hl, hlen, hf⟩ := DataW.trod_struct ht h
  match xs, hlen with
  | [y0, y1, y2, y3], _ => exact ⟨y0, y1, y2, y3, n, by simp, by simpa using hf 0 f0 rfl, by simpa using hf 1 f1 rfl, by simpa using hf 2 f2 rfl, by simpa using hf 3 f3 rfl⟩
theorem trod_struct6 {t : TypeId} {f0 f1 f2 f3 f4 f5 : Field} {fuel : Nat} {cs : List Value} {x : DataW H × List MemPlace} (ht : P.underlying t = some (.struct #[f0, f1, f2, f3, f4, f5])) (h : DataW.trod enc P w base spare held fuel t cs = some x) :
    ∃ y0 y1 y2 y3 y4 y5 n, x.1 = .agg [y0.1, y1.1, y2.1, y3.1, y4.1, y5.1] ∧ DataW.trod enc P w base spare held n f0.type ((cs.drop f0.offset).take (P.cellsOf f0.type)) = some y0 ∧ DataW.trod enc P w base spare held n f1.type ((cs.drop f1.offset).take (P.cellsOf f1.type)) = some y1 ∧
      DataW.trod enc P w base spare held n f2.type ((cs.drop f2.offset).take (P.cellsOf f2.type)) = some y2 ∧ DataW.trod enc P w base spare held n f3.type ((cs.drop f3.offset).take (P.cellsOf f3.type)) = some y3 ∧
      DataW.trod enc P w base spare held n f4.type ((cs.drop f4.offset).take (P.cellsOf f4.type)) = some y4 ∧ DataW.trod enc P w base spare held n f5.type ((cs.drop f5.offset).take (P.cellsOf f5.type)) = some y5 := by
  obtain ⟨xs, n, _, rfl, hl, hlen, hf⟩ := DataW.trod_struct ht h
  match xs, hlen with
  | [y0, y1, y2, y3, y4, y5], _ => exact ⟨y0, y1, y2, y3, y4, y5, n, by simp, by simpa using hf 0 f0 rfl, by simpa using hf 1 f1 rfl, by simpa using hf 2 f2 rfl, by simpa using hf 3 f3 rfl, by simpa using hf 4 f4 rfl, by simpa using hf 5 f5 rfl⟩
theorem flat_str : ∀ l : List ByteArray, l.flatMap (fun z => [Value.string z]) = l.map .string
  | [] => rfl
  | a :: l => by rw [List.flatMap_cons, flat_str l]; rfl
instance : Inhabited ByteArray := ⟨⟨#[]⟩⟩
theorem rd_of_strs {t e : TypeId} {fuel : Nat} {v : Value} {x : DataW H × List MemPlace} (ht : P.underlying t = some (.slice e)) (he : P.underlying e = some .string) (hc : P.cellsOf e = 1)
    (h : DataW.trod enc P w base spare held fuel t [v] = some x) (hw : ∀ u ∈ x.1.weights P t, u ≤ reachBytes) :
    ∃ (n : Nat) (l : List ByteArray), Rd w (· < w.heap.size) 1 v n (l.map .string) ∧ (∀ z ∈ l, StrOk z) ∧ n * P.bytesOf e ≤ reachBytes := by
  obtain ⟨n, l, h1, h2, h3⟩ := rd_of_slice (α := ByteArray) (f := fun z => [.string z]) (R := StrOk) (size := 1) (by omega) ht hc (fun _ => rfl) (fun n cs y _ hy _ => by
    obtain ⟨z, rfl, _, hz⟩ := DataW.trod_string he hy
    exact ⟨z, rfl, by unfold StrOk; unfold maxLen at hz; omega⟩) h hw
  exact ⟨n, l, flat_str l ▸ h1, h2, h3⟩
end
end Go.Mem
namespace Go.Proofs.YtnaafefcijgpkaaGreatDoor
open Go.RowKit Go.Mem Go.Adj Go.Deep Go.ChangeShapes Go.WideShapes
section
variable {H : Type} {enc : TypeId × Value → H} {w : World} {base : Nat} {spare : Nat → Bool} {held : Bool}
set_option maxRecDepth 100000 in
theorem mb_of {n : Nat} {cs : List Value} {y : DataW H × List MemPlace} (hl : cs.length = 3) (hy : DataW.trod enc Tryz.prog w base spare held n 52 cs = some y) :
    ∃ z : MbI, cs = z.cells ∧ (StrOk z.name ∧ StrOk z.club) := by
  obtain ⟨y0, y1, y2, m, _, _, h0, h1, h2⟩ := trod_struct3 Tryz.underlying52 hy
  match cs, hl with
  | [a, b, c], _ =>
    dsimp only at h0 h1 h2
    rw [show Tryz.prog.cellsOf 9 = 1 by kernel_rfl] at h0 h1
    rw [show Tryz.prog.cellsOf 3 = 1 by kernel_rfl] at h2
    obtain ⟨z0, e0, _, k0⟩ := DataW.trod_string Tryz.underlying9 h0
    obtain ⟨z1, e1, _, k1⟩ := DataW.trod_string Tryz.underlying9 h1
    obtain ⟨z2, e2, _, _⟩ := DataW.trod_int Tryz.underlying3 h2
    simp at e0 e1 e2
    subst e0 e1 e2
    exact ⟨⟨z0, z1, z2⟩, rfl, by unfold StrOk; unfold maxLen at k0; omega, by unfold StrOk; unfold maxLen at k1; omega⟩
set_option maxRecDepth 100000 in
theorem mk_of {n : Nat} {cs : List Value} {y : DataW H × List MemPlace} (hl : cs.length = 5) (hy : DataW.trod enc Tryz.prog w base spare held n 67 cs = some y) :
    ∃ z : MkI, cs = z.cells ∧ (StrOk z.pl ∧ StrOk z.by_ ∧ StrOk z.m) := by
  obtain ⟨y0, y1, y2, y3, m, _, h0, h1, h2, h3⟩ := trod_struct4 Tryz.underlying67 hy
  match cs, hl with
  | [a, b, c, d, e], _ =>
    dsimp only at h0 h1 h2 h3
    rw [show Tryz.prog.cellsOf 9 = 1 by kernel_rfl] at h0 h1
    rw [show Tryz.prog.cellsOf 3 = 1 by kernel_rfl] at h2
    rw [show Tryz.prog.cellsOf 65 = 2 by kernel_rfl] at h3
    obtain ⟨z0, e0, _, k0⟩ := DataW.trod_string Tryz.underlying9 h0
    obtain ⟨z1, e1, _, k1⟩ := DataW.trod_string Tryz.underlying9 h1
    obtain ⟨z2, e2, _, _⟩ := DataW.trod_int Tryz.underlying3 h2
    have h3' : DataW.trod enc Tryz.prog w base spare held m 65 [d, e] = some y3 := h3
    obtain ⟨x0, x1, m2, _, _, g0, g1⟩ := trod_struct2 Tryz.underlying65 h3'
    dsimp only at g0 g1
    rw [show Tryz.prog.cellsOf 3 = 1 by kernel_rfl] at g0
    rw [show Tryz.prog.cellsOf 9 = 1 by kernel_rfl] at g1
    obtain ⟨z3, e3, _, _⟩ := DataW.trod_int Tryz.underlying3 g0
    obtain ⟨z4, e4, _, k4⟩ := DataW.trod_string Tryz.underlying9 g1
    simp at e0 e1 e2 e3 e4
    subst e0 e1 e2 e3 e4
    exact ⟨⟨z0, z1, z2, z3, z4⟩, rfl, by unfold StrOk; unfold maxLen at k0; omega, by unfold StrOk; unfold maxLen at k1; omega, by unfold StrOk; unfold maxLen at k4; omega⟩
set_option maxRecDepth 100000 in
theorem cd_of {n : Nat} {cs : List Value} {y : DataW H × List MemPlace} (hl : cs.length = 2) (hy : DataW.trod enc Tryz.prog w base spare held n 47 cs = some y) (hw : ∀ u ∈ y.1.weights Tryz.prog 47, u ≤ reachBytes) :
    ∃ z : CdI, cs = z.cells ∧ (Rd w (· < w.heap.size) 2 (.slice z.a z.m z.c) z.m (z.es.flatMap EI.cells) ∧ StrOk z.name) := by
  match cs, hl with
  | [a, b], _ =>
    have h0' : DataW.trod enc Tryz.prog w base spare held n 47 (#[a, b] : Array Value).toList = some y := hy
    obtain ⟨s, ve, k, l, hcs, r1, r2, _, _⟩ := rd_of_card (te := 45) (e := 65) Tryz.underlying47 (by kernel_rfl) (cs := #[a, b]) (by kernel_rfl) ⟨by kernel_rfl, by kernel_rfl⟩ ⟨by kernel_rfl, by kernel_rfl⟩ ⟨by kernel_rfl, by kernel_rfl⟩
      Tryz.underlying45 Tryz.underlying65 (by kernel_rfl) ⟨by kernel_rfl, by kernel_rfl⟩ ⟨by kernel_rfl, by kernel_rfl⟩ ⟨by kernel_rfl, by kernel_rfl⟩ h0' hw
    simp at hcs
    obtain ⟨rfl, rfl⟩ := hcs
    obtain ⟨A, c, rfl, _, _, r2⟩ := r2.open_
    exact ⟨⟨s, A, k, c, l⟩, rfl, r2, r1⟩
set_option maxRecDepth 100000 in
theorem kp_of {n : Nat} {cs : List Value} {y : DataW H × List MemPlace} (hl : cs.length = 3) (hy : DataW.trod enc Tryz.prog w base spare held n 87 cs = some y) (hw : ∀ u ∈ y.1.weights Tryz.prog 87, u ≤ reachBytes) :
    ∃ z : KpI, cs = z.cells ∧ (Rd w (· < w.heap.size) 2 (.slice z.ha z.hn z.hc) z.hn (z.hs.flatMap HI.cells) ∧ RdCd w (· < w.heap.size) (.slice z.ca z.cn z.cc) z.cn z.cs ∧ StrOk z.name) := by
  obtain ⟨y0, y1, y2, m, hye, _, h0, h1, h2⟩ := trod_struct3 Tryz.underlying87 hy
  match cs, hl with
  | [a, b, c], _ =>
    dsimp only at h0 h1 h2
    rw [show Tryz.prog.cellsOf 9 = 1 by kernel_rfl] at h0
    rw [show Tryz.prog.cellsOf 24 = 1 by kernel_rfl] at h1
    rw [show Tryz.prog.cellsOf 85 = 1 by kernel_rfl] at h2
    obtain ⟨z0, e0, _, k0⟩ := DataW.trod_string Tryz.underlying9 h0
    obtain ⟨nh, hs, r1, _, _⟩ := rd_of_holes Tryz.underlying24 Tryz.underlying42 (by kernel_rfl) ⟨by kernel_rfl, by kernel_rfl⟩ ⟨by kernel_rfl, by kernel_rfl⟩ ⟨by kernel_rfl, by kernel_rfl⟩ (show DataW.trod enc Tryz.prog w base spare held m 24 [b] = some y1 from h1) (fun u hu => hw u (by
        rw [hye]
        simp only [DataW.weights, Tryz.underlying87, List.map_cons, List.map_nil, DataW.weightsEach]
        simp only [List.mem_append]
        exact .inr (.inl hu)))
    obtain ⟨nc, cds, r2, r3, _⟩ := rd_of_slice (α := CdI) (f := CdI.cells) (size := 2) (R := fun z => Rd w (· < w.heap.size) 2 (.slice z.a z.m z.c) z.m (z.es.flatMap EI.cells) ∧ StrOk z.name) (by omega) Tryz.underlying85 (by kernel_rfl) (fun _ => rfl) (fun n cs y hl hy hu => cd_of hl hy hu) (show DataW.trod enc Tryz.prog w base spare held m 85 [c] = some y2 from h2) (fun u hu => hw u (by
        rw [hye]
        simp only [DataW.weights, Tryz.underlying87, List.map_cons, List.map_nil, DataW.weightsEach]
        simp only [List.mem_append]
        exact .inr (.inr (.inl hu))))
    simp at e0
    subst e0
    obtain ⟨Ah, ch, rfl, _, _, r1⟩ := r1.open_
    obtain ⟨Ac, cc, rfl, _, _, r2⟩ := r2.open_
    exact ⟨⟨z0, Ah, nh, ch, hs, Ac, nc, cc, cds⟩, rfl, r1, ⟨r2, r3⟩, by unfold StrOk; unfold maxLen at k0; omega⟩
set_option maxRecDepth 100000 in
set_option maxHeartbeats 1000000 in
theorem arg_union {n : Nat} {cs : Array Value} {x : DataW H × List MemPlace} (hl : cs.size = Tryz.prog.cellsOf 28) (h : DataW.trod enc Tryz.prog w base spare held n 28 cs.toList = some x) (hw : ∀ u ∈ x.1.weights Tryz.prog 28, u ≤ reachBytes) :
    ∃ u : UI, .agg cs = u.val ∧ RdU w (· < w.heap.size) u ∧ u.nm * 40 ≤ 140737488351232 ∧ u.nk * 64 ≤ 140737488351232 ∧ u.np * 64 ≤ 140737488351232 := by
  obtain ⟨y0, y1, y2, y3, y4, y5, m, hye, h0, h1, h2, h3, h4, h5⟩ := trod_struct6 Tryz.underlying28 h
  rw [show Tryz.prog.cellsOf 28 = 6 by kernel_rfl] at hl
  have hx : ∀ u, (u ∈ y0.1.weights Tryz.prog 22 ∨ u ∈ y1.1.weights Tryz.prog 23 ∨ u ∈ y2.1.weights Tryz.prog 24 ∨ u ∈ y3.1.weights Tryz.prog 25 ∨ u ∈ y4.1.weights Tryz.prog 22 ∨ u ∈ y5.1.weights Tryz.prog 26) → u ≤ reachBytes := fun u hu => hw u (by
    rw [hye]
    simp only [DataW.weights, Tryz.underlying28, List.map_cons, List.map_nil, DataW.weightsEach]
    simp only [List.mem_append]
    rcases hu with hu | hu | hu | hu | hu | hu
    · exact .inl hu
    · exact .inr (.inl hu)
    · exact .inr (.inr (.inl hu))
    · exact .inr (.inr (.inr (.inl hu)))
    · exact .inr (.inr (.inr (.inr (.inl hu))))
    · exact .inr (.inr (.inr (.inr (.inr (.inl hu))))))
  match cs, hl with
  | ⟨[a, b, c, d, e, f]⟩, _ =>
    dsimp only at h0 h1 h2 h3 h4 h5
    rw [show Tryz.prog.cellsOf 22 = 1 by kernel_rfl] at h0 h4
    rw [show Tryz.prog.cellsOf 23 = 1 by kernel_rfl] at h1
    rw [show Tryz.prog.cellsOf 24 = 1 by kernel_rfl] at h2
    rw [show Tryz.prog.cellsOf 25 = 1 by kernel_rfl] at h3
    rw [show Tryz.prog.cellsOf 26 = 1 by kernel_rfl] at h5
    obtain ⟨nc, cl, r0, s0, _⟩ := rd_of_strs Tryz.underlying22 Tryz.underlying9 (by kernel_rfl) (show DataW.trod enc Tryz.prog w base spare held m 22 [a] = some y0 from h0) (fun u hu => hx u (.inl hu))
    obtain ⟨nm, ms, r1, s1, b1⟩ := rd_of_slice (α := MbI) (f := MbI.cells) (size := 3) (R := fun z => StrOk z.name ∧ StrOk z.club) (by omega) Tryz.underlying23 (by kernel_rfl) (fun _ => rfl) (fun n cs y hl hy _ => mb_of hl hy) (show DataW.trod enc Tryz.prog w base spare held m 23 [b] = some y1 from h1) (fun u hu => hx u (.inr (.inl hu)))
    obtain ⟨nh, hs, r2, _, _⟩ := rd_of_holes Tryz.underlying24 Tryz.underlying42 (by kernel_rfl) ⟨by kernel_rfl, by kernel_rfl⟩ ⟨by kernel_rfl, by kernel_rfl⟩ ⟨by kernel_rfl, by kernel_rfl⟩ (show DataW.trod enc Tryz.prog w base spare held m 24 [c] = some y2 from h2) (fun u hu => hx u (.inr (.inr (.inl hu))))
    obtain ⟨nk, ks, r3, s3, b3⟩ := rd_of_slice (α := MkI) (f := MkI.cells) (size := 5) (R := fun z => StrOk z.pl ∧ StrOk z.by_ ∧ StrOk z.m) (by omega) Tryz.underlying25 (by kernel_rfl) (fun _ => rfl) (fun n cs y hl hy _ => mk_of hl hy) (show DataW.trod enc Tryz.prog w base spare held m 25 [d] = some y3 from h3) (fun u hu => hx u (.inr (.inr (.inr (.inl hu)))))
    obtain ⟨ns, sg, r4, s4, _⟩ := rd_of_strs Tryz.underlying22 Tryz.underlying9 (by kernel_rfl) (show DataW.trod enc Tryz.prog w base spare held m 22 [e] = some y4 from h4) (fun u hu => hx u (.inr (.inr (.inr (.inr (.inl hu))))))
    obtain ⟨np, ps, r5, s5, b5⟩ := rd_of_slice (α := KpI) (f := KpI.cells) (size := 3) (R := fun z => Rd w (· < w.heap.size) 2 (.slice z.ha z.hn z.hc) z.hn (z.hs.flatMap HI.cells) ∧ RdCd w (· < w.heap.size) (.slice z.ca z.cn z.cc) z.cn z.cs ∧ StrOk z.name) (by omega) Tryz.underlying26 (by kernel_rfl) (fun _ => rfl) (fun n cs y hl hy hu => kp_of hl hy hu) (show DataW.trod enc Tryz.prog w base spare held m 26 [f] = some y5 from h5) (fun u hu => hx u (.inr (.inr (.inr (.inr (.inr hu))))))
    rw [show Tryz.prog.bytesOf 52 = 40 by kernel_rfl] at b1
    rw [show Tryz.prog.bytesOf 67 = 64 by kernel_rfl] at b3
    rw [show Tryz.prog.bytesOf 87 = 64 by kernel_rfl] at b5
    exact ⟨⟨a, nc, cl, b, nm, ms, c, nh, hs, d, nk, ks, e, ns, sg, f, np, ps⟩, rfl, ⟨r0, r1, r2, r3, r4, ⟨r5, s5⟩, s0, s1, s3, s4⟩, b1, b3, b5⟩
end
end Go.Proofs.YtnaafefcijgpkaaGreatDoor
