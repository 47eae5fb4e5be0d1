/- Part 24 of the walks of the golf union's program: Args, Row0. -/
import Derived.Test.YtjfhncnpmelopaaGreatDoorB01
import Derived.Deep.Slices
import Derived.Deep.Strs
import Derived.ChangeMaps5
import Derived.ChangeSame
import Derived.WalkKit
import Derived.SizedLaws
import Derived.Test.YtjfhncnpmelopaaGreatDoorChecked
import Derived.Test.YtjfhncnpmelopaaGreatDoorRows
import Derived.ProofKit
import Derived.Lay
import Derived.Carry
set_option linter.unusedVariables false
set_option linter.unusedSimpArgs false
set_option linter.unusedSectionVars false
set_option linter.constructorNameAsVariable false
/- What a statement's arguments are: slices of slots, of requests, of integers, opened from the row's data. -/
namespace Go.Mem
open Go.RowKit Go.Deep Go.Sheet Go.ChangeShapes Go.WideShapes
section
variable {H : Type} {enc : TypeId × Value → H} {P : Program} {w : World} {base : Nat} {spare : Nat → Bool} {held : Bool}
theorem cell_spot {w : World} {a : Addr} {v : Value} (h : w.cell? a = some v) : a.spot = none := by
  unfold World.cell? at h
  split at h
  · cases hs : a.spot with
    | none => rfl
    | some x => rw [hs] at h; simp at h
  · cases h
theorem weights_all {e : TypeId} {u : Nat} {d : DataW H} : ∀ {l : List (DataW H)}, d ∈ l → u ∈ d.weights P e → u ∈ DataW.weightsAll P e l
  | [], h, _ => by cases h
  | x :: l, h, hu => by
    rw [DataW.weightsAll, List.mem_append]
    rcases List.mem_cons.1 h with rfl | h
    · exact .inl hu
    · exact .inr (weights_all h hu)
/-- a slice opened: what its elements are, by a function from data to cells -/
theorem rd_of_slice {α : Type} [Inhabited α] {f : α → List Value} {R : α → Prop} {size : Nat} (h0 : 0 < size) {t e : TypeId} {fuel : Nat} {v : Value} {x : DataW H × List MemPlace}
    (ht : P.underlying t = some (.slice e)) (hc : P.cellsOf e = size) (hs : ∀ z, (f z).length = size)
    (hf : ∀ n cs y, cs.length = size → DataW.trod enc P w base spare held n e cs = some y → (∀ u ∈ y.1.weights P e, u ≤ reachBytes) → ∃ z, cs = f z ∧ R z)
    (h : DataW.trod enc P w base spare held fuel t [v] = some x) (hw : ∀ u ∈ x.1.weights P t, u ≤ reachBytes) :
    ∃ (n : Nat) (l : List α), Rd w (· < w.heap.size) size v n (l.flatMap f) ∧ (∀ z ∈ l, R z) ∧ n * P.bytesOf e ≤ reachBytes := by
  rcases open_slice ht h with ⟨h1, _⟩ | ⟨a, len, cap, m, n, D, Pl, hv, hb, hl, hm, hmm, hxe, hx⟩
  · cases h1
    exact ⟨0, [], Rd.nil _ _ _, by simp, by rw [Nat.zero_mul]; exact Nat.zero_le _⟩
  · cases hv
    have hlm : len ≤ m := by rw [hmm]; split <;> omega
    subst hxe
    have hw2 : ∀ u, u ∈ DataW.weightsAll P e ((List.range len).map D) → u ≤ reachBytes := fun u hu => hw u (by
      simp only [DataW.weights, ht]
      rw [List.mem_cons, List.mem_append]
      exact .inr (.inl hu))
    have hw1 : len * P.bytesOf e ≤ reachBytes := by
      have := hw ((((List.range len).map D).length + ((List.range (m - len)).map fun j => D (len + j)).length) * P.bytesOf e) (by
        simp only [DataW.weights, ht]
        exact List.mem_cons_self ..)
      rw [List.length_map, List.length_map, List.length_range, List.length_range] at this
      exact Nat.le_trans (Nat.mul_le_mul_right _ (by omega)) this
    obtain ⟨Z, hZ⟩ := choose_lt (α := α) (n := len) (p := fun i z => R z ∧ ∀ j u, (f z)[j]? = some u → w.cell? (a.add (i * size + j)) = some u) (fun i hi => by
      obtain ⟨cs', h1, h2⟩ := hx i (by omega)
      rw [hc] at h1
      obtain ⟨_, hlen, hcell⟩ := World.cells?_some h1
      obtain ⟨z, rfl, hz⟩ := hf _ _ _ hlen h2 (fun u hu => hw2 u (weights_all (List.mem_map_of_mem (List.mem_range.2 hi)) hu))
      refine ⟨z, hz, fun j u hj => ?_⟩
      have hjl : j < size := by rw [← hs z]; exact (List.getElem?_eq_some_iff.1 hj).1
      rw [← add_of_add, hcell j hjl, hj])
    refine ⟨len, (List.range len).map Z, ⟨some a, cap, rfl, hl, hm, ?_, (fun h => by cases h), fun hn => ?_⟩, fun z hz => ?_, hw1⟩
    · rw [flatMap_len hs, List.length_map, List.length_range]
    · have hz0 : 0 < (f (Z 0)).length := by rw [hs]; exact h0
      have c0 := (hZ 0 hn).2 0 _ (List.getElem?_eq_getElem hz0)
      rw [Nat.zero_mul, Nat.add_zero] at c0
      have ha0 : a.add 0 = a := by unfold Addr.add; simp
      rw [ha0] at c0
      have hsp := cell_spot c0
      obtain ⟨b, o, sp⟩ := a
      simp only at hsp
      subst hsp
      refine ⟨b, o, rfl, ?_, World.block_lt_of_cell? w _ c0, fun j u hj => ?_⟩
      · exact World.block_lt_of_cell? w _ c0
      · have hjl := (List.getElem?_eq_some_iff.1 hj).1
        rw [flatMap_len hs, List.length_map, List.length_range] at hjl
        have hi : j / size < len := Nat.div_lt_of_lt_mul (by rw [Nat.mul_comm]; exact hjl)
        have hm2 : j % size < size := Nat.mod_lt _ h0
        have hzi : ((List.range len).map Z)[j / size]? = some (Z (j / size)) := by simp [List.getElem?_range hi]
        obtain ⟨u', hu'⟩ : ∃ u', (f (Z (j / size)))[j % size]? = some u' := ⟨_, List.getElem?_eq_getElem (by rw [hs]; exact hm2)⟩
        have h3 := flatMap_at (f := f) (s := size) (fun y _ => hs y) hzi hu'
        have hjj : j / size * size + j % size = j := by rw [Nat.mul_comm]; exact Nat.div_add_mod j size
        rw [hjj] at h3
        rw [hj] at h3
        cases h3
        have h4 := (hZ _ hi).2 _ _ hu'
        rw [hjj] at h4
        have : (⟨b, o, none⟩ : Addr).add j = ⟨b, o + j, none⟩ := by unfold Addr.add; split <;> simp_all
        rwa [this] at h4
    · obtain ⟨i, hi, rfl⟩ := List.mem_map.1 hz
      exact (hZ i (List.mem_range.1 hi)).1
instance : Inhabited Slot := ⟨⟨0, 0, 0⟩⟩
instance : Inhabited Wish := ⟨⟨0, 0⟩⟩
instance : Inhabited Req := ⟨⟨⟨#[]⟩, false, none, 0, 0, []⟩⟩
theorem rd_of_ints {t e : TypeId} {fuel : Nat} {v : Value} {x : DataW H × List MemPlace} (ht : P.underlying t = some (.slice e)) (he : P.underlying e = some (.int .i64)) (hc : P.cellsOf e = 1)
    (h : DataW.trod enc P w base spare held fuel t [v] = some x) (hw : ∀ u ∈ x.1.weights P t, u ≤ reachBytes) :
    ∃ n, ∃ l : List Int, Rd w (· < w.heap.size) 1 v n (l.map (Value.int .i64)) ∧ (∀ z ∈ l, (Lit.int .i64 z).wf = true) ∧ n * P.bytesOf e ≤ reachBytes := by
  obtain ⟨n, l, h1, h2, h3⟩ := rd_of_slice (α := Int) (f := fun z => [.int .i64 z]) (R := fun z => (Lit.int .i64 z).wf = true) (size := 1) (by omega) ht hc (fun _ => rfl) (fun n cs y _ hy _ => by
    obtain ⟨z, rfl, _, hz⟩ := DataW.trod_int he hy
    exact ⟨z, rfl, hz⟩) h hw
  refine ⟨n, l, ?_, h2, h3⟩
  have e : ∀ l : List Int, l.flatMap (fun z => [Value.int .i64 z]) = l.map (Value.int .i64) := by
    intro l
    induction l with
    | nil => rfl
    | cons a l ih => rw [List.flatMap_cons, ih]; rfl
  rwa [e] at h1
theorem rd_of_slots {t e : TypeId} {f0 f1 f2 : Field} {fuel : Nat} {v : Value} {x : DataW H × List MemPlace} (ht : P.underlying t = some (.slice e)) (he : P.underlying e = some (.struct #[f0, f1, f2])) (hc : P.cellsOf e = 3)
    (ho : f0.offset = 0 ∧ f1.offset = 1 ∧ f2.offset = 2) (hs : P.cellsOf f0.type = 1 ∧ P.cellsOf f1.type = 1 ∧ P.cellsOf f2.type = 1)
    (hi : P.underlying f0.type = some (.int .i64) ∧ P.underlying f1.type = some (.int .i64) ∧ P.underlying f2.type = some (.int .i64))
    (h : DataW.trod enc P w base spare held fuel t [v] = some x) (hw : ∀ u ∈ x.1.weights P t, u ≤ reachBytes) :
    ∃ (n : Nat) (l : List Slot), Rd w (· < w.heap.size) 3 v n (l.flatMap Slot.cells) ∧ (∀ z ∈ l, (Lit.int .i64 z.m).wf = true ∧ (Lit.int .i64 z.h).wf = true ∧ (Lit.int .i64 z.p).wf = true) ∧ n * P.bytesOf e ≤ reachBytes :=
  rd_of_slice (size := 3) (by omega) ht hc (fun _ => rfl) (fun n cs y hl hy _ => by
    obtain ⟨y0, y1, y2, m, _, _, h0, h1, h2⟩ := trod_struct3 he hy
    match cs, hl with
    | [a, b, c], _ =>
      rw [ho.1, hs.1] at h0
      rw [ho.2.1, hs.2.1] at h1
      rw [ho.2.2, hs.2.2] at h2
      obtain ⟨z0, e0, _, k0⟩ := DataW.trod_int hi.1 h0
      obtain ⟨z1, e1, _, k1⟩ := DataW.trod_int hi.2.1 h1
      obtain ⟨z2, e2, _, k2⟩ := DataW.trod_int hi.2.2 h2
      simp at e0 e1 e2
      subst e0 e1 e2
      exact ⟨⟨z0, z1, z2⟩, rfl, k0, k1, k2⟩) h hw
theorem rd_of_wishes {t e : TypeId} {f0 f1 : Field} {fuel : Nat} {v : Value} {x : DataW H × List MemPlace} (ht : P.underlying t = some (.slice e)) (he : P.underlying e = some (.struct #[f0, f1])) (hc : P.cellsOf e = 2)
    (ho : f0.offset = 0 ∧ f1.offset = 1) (hs : P.cellsOf f0.type = 1 ∧ P.cellsOf f1.type = 1) (hi : P.underlying f0.type = some (.int .i64) ∧ P.underlying f1.type = some (.int .i64))
    (h : DataW.trod enc P w base spare held fuel t [v] = some x) (hw : ∀ u ∈ x.1.weights P t, u ≤ reachBytes) :
    ∃ (n : Nat) (l : List Wish), Rd w (· < w.heap.size) 2 v n (l.flatMap Wish.cells) ∧ (∀ z ∈ l, (Lit.int .i64 z.s).wf = true ∧ (Lit.int .i64 z.w).wf = true) ∧ n * P.bytesOf e ≤ reachBytes :=
  rd_of_slice (size := 2) (by omega) ht hc (fun _ => rfl) (fun n cs y hl hy _ => by
    obtain ⟨y0, y1, m, _, _, h0, h1⟩ := trod_struct2 he hy
    match cs, hl with
    | [a, b], _ =>
      rw [ho.1, hs.1] at h0
      rw [ho.2, hs.2] at h1
      obtain ⟨z0, e0, _, k0⟩ := DataW.trod_int hi.1 h0
      obtain ⟨z1, e1, _, k1⟩ := DataW.trod_int hi.2 h1
      simp at e0 e1
      subst e0 e1
      exact ⟨⟨z0, z1⟩, rfl, k0, k1⟩) h hw
theorem rd_of_reqs {t e tw ew : TypeId} {f0 f1 f2 g0 g1 : Field} {fuel : Nat} {v : Value} {x : DataW H × List MemPlace} (ht : P.underlying t = some (.slice e)) (he : P.underlying e = some (.struct #[f0, f1, f2])) (hc : P.cellsOf e = 3)
    (ho : f0.offset = 0 ∧ f1.offset = 1 ∧ f2.offset = 2) (hs : P.cellsOf f0.type = 1 ∧ P.cellsOf f1.type = 1 ∧ P.cellsOf f2.type = 1)
    (hi : P.underlying f0.type = some .string ∧ P.underlying f1.type = some .bool ∧ f2.type = tw)
    (htw : P.underlying tw = some (.slice ew)) (hew : P.underlying ew = some (.struct #[g0, g1])) (hcw : P.cellsOf ew = 2)
    (hog : g0.offset = 0 ∧ g1.offset = 1) (hsg : P.cellsOf g0.type = 1 ∧ P.cellsOf g1.type = 1) (hig : P.underlying g0.type = some (.int .i64) ∧ P.underlying g1.type = some (.int .i64))
    (h : DataW.trod enc P w base spare held fuel t [v] = some x) (hw : ∀ u ∈ x.1.weights P t, u ≤ reachBytes) :
    ∃ (n : Nat) (rs : List Req), RdReqs w (· < w.heap.size) v n rs ∧ (∀ r ∈ rs, r.wn * P.bytesOf ew ≤ reachBytes) ∧ n * P.bytesOf e ≤ reachBytes := by
  obtain ⟨n, l, h1, h2, h3⟩ := rd_of_slice (f := Req.cells) (R := fun r : Req => (Rd w (· < w.heap.size) 2 r.wv r.wn (r.ws.flatMap Wish.cells) ∧ r.name.size ≤ 9223372036854775807) ∧ r.wn * P.bytesOf ew ≤ reachBytes) (size := 3) (by omega) ht hc (fun _ => rfl) (fun n cs y hl hy hwy => by
    obtain ⟨y0, y1, y2, m, hye, _, h0, h1, h2⟩ := trod_struct3 he hy
    have hw2 : ∀ u ∈ y2.1.weights P tw, u ≤ reachBytes := fun u hu => hwy u (by
      rw [hye]
      simp only [DataW.weights, he, List.map_cons, List.map_nil, DataW.weightsEach, hi.2.2]
      rw [List.mem_append, List.mem_append, List.mem_append]
      exact .inr (.inr (.inl hu)))
    match cs, hl with
    | [a, b, c], _ =>
      rw [ho.1, hs.1] at h0
      rw [ho.2.1, hs.2.1] at h1
      rw [ho.2.2, hs.2.2, hi.2.2] at h2
      obtain ⟨z0, e0, _, k0⟩ := DataW.trod_string hi.1 h0
      obtain ⟨z1, e1, _⟩ := DataW.trod_bool hi.2.1 h1
      obtain ⟨wn, ws, hw, _, hwb⟩ := rd_of_wishes htw hew hcw hog hsg hig (show DataW.trod enc P w base spare held m tw [c] = some y2 from h2) hw2
      simp at e0 e1
      subst e0 e1
      obtain ⟨A, cp, rfl, _, _, hw'⟩ := hw.open_
      exact ⟨⟨z0, z1, A, wn, cp, ws⟩, rfl, ⟨hw', by unfold maxLen at k0; omega⟩, hwb⟩) h hw
  exact ⟨n, l, ⟨h1, fun r hr => (h2 r hr).1⟩, fun r hr => (h2 r hr).2, h3⟩
end
end Go.Mem
/- What the statements' rows have in common. -/
namespace Go.Proofs.YtjfhncnpmelopaaGreatDoor
open Go.RowKit Go.Mem Go.Sheet Go.ChangeShapes Go.WideShapes Go.ChangeAt
theorem own : ownKnob Tryz.prog.godebug = none := by kernel_rfl
theorem laidOut : laidOutB Tryz.prog = true := by kernel_rfl
def laidL : List (String × DataW Unit) := [("math/bits.deBruijn32tab", Rows.laid_math_bits_deBruijn32tab), ("math/bits.deBruijn64tab", Rows.laid_math_bits_deBruijn64tab), ("internal/strconv.uint64pow10", Rows.laid_internal_strconv_uint64pow10)]
section
variable {H : Type} {enc : TypeId × Value → H} {W : World}
theorem arg_ints {v : Value} {d : DataW H} {ps : List MemPlace} (h : DataW.Trod enc Tryz.prog W 0 (fun _ => true) true 33 v d ps) (hw : ∀ u ∈ d.weights Tryz.prog 33, u ≤ reachBytes) (hv : v.cells.toList = [v]) :
    ∃ (n : Nat) (l : List Int), Rd W (· < W.heap.size) 1 v n (l.map (Value.int .i64)) ∧ (∀ z ∈ l, (Lit.int .i64 z).wf = true) ∧ n * 8 ≤ 140737488351232 := by
  obtain ⟨f, hf⟩ := h
  rw [hv] at hf
  obtain ⟨n, l, h1, h2, h3⟩ := rd_of_ints Tryz.underlying33 Tryz.underlying3 (by kernel_rfl) hf hw
  exact ⟨n, l, h1, h2, by rw [show Tryz.prog.bytesOf 3 = 8 by kernel_rfl] at h3; exact h3⟩
theorem arg_slots {v : Value} {d : DataW H} {ps : List MemPlace} (h : DataW.Trod enc Tryz.prog W 0 (fun _ => true) true 22 v d ps) (hw : ∀ u ∈ d.weights Tryz.prog 22, u ≤ reachBytes) (hv : v.cells.toList = [v]) :
    ∃ (n : Nat) (l : List Slot), Rd W (· < W.heap.size) 3 v n (l.flatMap Slot.cells) ∧ (∀ z ∈ l, (Lit.int .i64 z.m).wf = true ∧ (Lit.int .i64 z.h).wf = true ∧ (Lit.int .i64 z.p).wf = true) ∧ n * 24 ≤ 140737488351232 := by
  obtain ⟨f, hf⟩ := h
  rw [hv] at hf
  obtain ⟨n, l, h1, h2, h3⟩ := rd_of_slots Tryz.underlying22 Tryz.underlying46 (by kernel_rfl) ⟨by kernel_rfl, by kernel_rfl, by kernel_rfl⟩ ⟨by kernel_rfl, by kernel_rfl, by kernel_rfl⟩ ⟨by kernel_rfl, by kernel_rfl, by kernel_rfl⟩ hf hw
  exact ⟨n, l, h1, h2, by rw [show Tryz.prog.bytesOf 46 = 24 by kernel_rfl] at h3; exact h3⟩
theorem arg_reqs {v : Value} {d : DataW H} {ps : List MemPlace} (h : DataW.Trod enc Tryz.prog W 0 (fun _ => true) true 23 v d ps) (hw : ∀ u ∈ d.weights Tryz.prog 23, u ≤ reachBytes) (hv : v.cells.toList = [v]) :
    ∃ (n : Nat) (rs : List Req), RdReqs W (· < W.heap.size) v n rs ∧ (∀ r ∈ rs, r.wn * 16 ≤ 140737488351232) ∧ n * 48 ≤ 140737488351232 := by
  obtain ⟨f, hf⟩ := h
  rw [hv] at hf
  obtain ⟨n, rs, h1, h2, h3⟩ := rd_of_reqs (tw := 47) (ew := 51) Tryz.underlying23 Tryz.underlying49 (by kernel_rfl) ⟨by kernel_rfl, by kernel_rfl, by kernel_rfl⟩ ⟨by kernel_rfl, by kernel_rfl, by kernel_rfl⟩ ⟨by kernel_rfl, by kernel_rfl, by kernel_rfl⟩
    Tryz.underlying47 Tryz.underlying51 (by kernel_rfl) ⟨by kernel_rfl, by kernel_rfl⟩ ⟨by kernel_rfl, by kernel_rfl⟩ ⟨by kernel_rfl, by kernel_rfl⟩ hf hw
  exact ⟨n, rs, h1, fun r hr => by have := h2 r hr; rw [show Tryz.prog.bytesOf 51 = 16 by kernel_rfl] at this; exact this, by rw [show Tryz.prog.bytesOf 49 = 48 by kernel_rfl] at h3; exact h3⟩
set_option maxRecDepth 100000 in
/-- a slice's value is one cell -/
theorem slice_cells {t e : TypeId} {r : Reach} {base : Nat} (ht : Tryz.prog.underlying t = some (.slice e)) {v : Value} (h : Value.okWide Tryz.prog W r base t v) : v.cells.toList = [v] := by
  obtain ⟨a, n, c, rfl⟩ := okWide_slice ht h
  show (#[Value.slice a n c] : Array Value).toList = _
  simp only []
end
end Go.Proofs.YtjfhncnpmelopaaGreatDoor
