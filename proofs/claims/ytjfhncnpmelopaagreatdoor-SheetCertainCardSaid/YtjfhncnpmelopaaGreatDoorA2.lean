/- A statement's arguments that are a value with prices, or a list with an exponent, opened from the row's data. -/
import Derived.Test.YtjfhncnpmelopaaGreatDoorA1
import Derived.Test.YtjfhncnpmelopaaGreatDoorB16
set_option linter.unusedVariables false
set_option linter.unusedSimpArgs false
set_option linter.unusedSectionVars false
set_option linter.constructorNameAsVariable false
namespace Go.Mem
open Go.RowKit Go.Deep Go.Sheet Go.ChangeShapes Go.WideShapes Go.Proofs.YtjfhncnpmelopaaGreatDoor
/-- prices in memory -/
def RdPrices (w : World) (vq vs : Value) (p : PR) : Prop :=
  Rd w (· < w.heap.size) 1 vq p.rq.length (p.rq.map (Value.int .i64)) ∧ Rd w (· < w.heap.size) 1 vs p.sl.length (p.sl.map (Value.int .i64))
theorem RdPrices.later {w w' : World} {vq vs : Value} {p : PR} (h : RdPrices w vq vs p) (hb : Below w.heap.size w w') : RdPrices w' vq vs p := ⟨h.1.later hb, h.2.later hb⟩
section
variable {H : Type} {enc : TypeId × Value → H} {P : Program} {w : World} {base : Nat} {spare : Nat → Bool} {held : Bool}
theorem rd_of_proven {t tp tr q : TypeId} {f0 f1 g0 g1 : Field} {fuel : Nat} {cs : Array Value} {x : DataW H × List MemPlace} (ht : P.underlying t = some (.struct #[f0, f1])) (hc : P.cellsOf t = 3) (hsz : cs.size = P.cellsOf t)
    (ho : f0.offset = 0 ∧ f1.offset = 1) (hs : P.cellsOf f0.type = 1 ∧ P.cellsOf f1.type = 2) (hi : P.underlying f0.type = some (.int .i64)) (hty : f1.type = tp)
    (htp : P.underlying tp = some (.struct #[g0, g1])) (hog : g0.offset = 0 ∧ g1.offset = 1) (hsg : P.cellsOf g0.type = 1 ∧ P.cellsOf g1.type = 1) (htg : g0.type = tr ∧ g1.type = tr)
    (htr : P.underlying tr = some (.slice q)) (hq : P.underlying q = some (.int .i64)) (hcq : P.cellsOf q = 1)
    (h : DataW.trod enc P w base spare held fuel t cs.toList = some x) (hw : ∀ u ∈ x.1.weights P t, u ≤ reachBytes) :
    ∃ (z : Int) (vq vs : Value) (p : PR), cs = #[.int .i64 z, vq, vs] ∧ RdPrices w vq vs p ∧ (Lit.int .i64 z).wf = true := by
  obtain ⟨y0, y1, m, hye, _, h0, h1⟩ := trod_struct2 ht h
  have hwa : ∀ u, u ∈ y1.1.weights P tp → u ≤ reachBytes := fun u hu => hw u (by
    rw [hye]
    simp only [DataW.weights, ht, List.map_cons, List.map_nil, DataW.weightsEach, hty]
    simp only [List.mem_append]
    exact .inr (.inl hu))
  rw [hc] at hsz
  match cs, hsz with
  | ⟨[a, b, c]⟩, _ =>
    try simp only at h0 h1
    rw [ho.1, hs.1] at h0
    rw [ho.2, hs.2, hty] at h1
    obtain ⟨z, e0, _, hz⟩ := DataW.trod_int hi (show DataW.trod enc P w base spare held m f0.type [a] = some y0 from h0)
    injection e0 with e0 _
    subst e0
    obtain ⟨x0, x1, m', hxe, _, k0, k1⟩ := trod_struct2 htp (show DataW.trod enc P w base spare held m tp [b, c] = some y1 from h1)
    have hwb : ∀ u, u ∈ x0.1.weights P tr ∨ u ∈ x1.1.weights P tr → u ≤ reachBytes := fun u hu => hwa u (by
      rw [hxe]
      simp only [DataW.weights, htp, List.map_cons, List.map_nil, DataW.weightsEach, htg.1, htg.2]
      simp only [List.mem_append]
      rcases hu with hu | hu
      · exact .inl hu
      · exact .inr (.inl hu))
    try simp only at k0 k1
    rw [hog.1, hsg.1, htg.1] at k0
    rw [hog.2, hsg.2, htg.2] at k1
    obtain ⟨n0, l0, r0, _, _⟩ := rd_of_ints htr hq hcq (show DataW.trod enc P w base spare held m' tr [b] = some x0 from k0) fun u hu => hwb u (.inl hu)
    obtain ⟨n1, l1, r1, _, _⟩ := rd_of_ints htr hq hcq (show DataW.trod enc P w base spare held m' tr [c] = some x1 from k1) fun u hu => hwb u (.inr hu)
    have e0 : n0 = l0.length := r0.count1
    have e1 : n1 = l1.length := r1.count1
    subst e0 e1
    exact ⟨z, b, c, ⟨l0, l1⟩, rfl, ⟨r0, r1⟩, hz⟩
theorem rd_of_steps {t tr q : TypeId} {f0 f1 : Field} {fuel : Nat} {cs : Array Value} {x : DataW H × List MemPlace} (ht : P.underlying t = some (.struct #[f0, f1])) (hc : P.cellsOf t = 2) (hsz : cs.size = P.cellsOf t)
    (ho : f0.offset = 0 ∧ f1.offset = 1) (hs : P.cellsOf f0.type = 1 ∧ P.cellsOf f1.type = 1) (hi : P.underlying f1.type = some (.int .i64)) (hty : f0.type = tr)
    (htr : P.underlying tr = some (.slice q)) (hq : P.underlying q = some (.int .i64)) (hcq : P.cellsOf q = 1)
    (h : DataW.trod enc P w base spare held fuel t cs.toList = some x) (hw : ∀ u ∈ x.1.weights P t, u ≤ reachBytes) :
    ∃ (vl : Value) (l : List Int) (z : Int), cs = #[vl, .int .i64 z] ∧ Rd w (· < w.heap.size) 1 vl l.length (l.map (Value.int .i64)) ∧ (∀ u ∈ l, (Lit.int .i64 u).wf = true) ∧ (Lit.int .i64 z).wf = true := by
  obtain ⟨y0, y1, m, hye, _, h0, h1⟩ := trod_struct2 ht h
  have hwa : ∀ u, u ∈ y0.1.weights P tr → u ≤ reachBytes := fun u hu => hw u (by
    rw [hye]
    simp only [DataW.weights, ht, List.map_cons, List.map_nil, DataW.weightsEach, hty]
    simp only [List.mem_append]
    exact .inl hu)
  rw [hc] at hsz
  match cs, hsz with
  | ⟨[a, b]⟩, _ =>
    try simp only at h0 h1
    rw [ho.1, hs.1, hty] at h0
    rw [ho.2, hs.2] at h1
    obtain ⟨z, e0, _, hz⟩ := DataW.trod_int hi (show DataW.trod enc P w base spare held m f1.type [b] = some y1 from h1)
    injection e0 with e0 _
    subst e0
    obtain ⟨n0, l0, r0, g0, _⟩ := rd_of_ints htr hq hcq (show DataW.trod enc P w base spare held m tr [a] = some y0 from h0) fun u hu => hwa u hu
    have e0 : n0 = l0.length := r0.count1
    subst e0
    exact ⟨a, l0, z, rfl, r0, g0, hz⟩
end
end Go.Mem
namespace Go.Proofs.YtjfhncnpmelopaaGreatDoor
open Go.RowKit Go.Mem Go.Sheet Go.ChangeShapes Go.WideShapes
section
variable {H : Type} {enc : TypeId × Value → H} {W : World}
set_option maxRecDepth 100000 in
theorem arg_proven {v : Value} {d : DataW H} {ps : List MemPlace} {r : Reach} {base : Nat} (h : DataW.Trod enc Tryz.prog W 0 (fun _ => true) true 76 v d ps) (hw : ∀ u ∈ d.weights Tryz.prog 76, u ≤ reachBytes) (hv : Value.okWide Tryz.prog W r base 76 v) :
    ∃ (z : Int) (vq vs : Value) (p : PR), v = .agg #[.int .i64 z, vq, vs] ∧ RdPrices W vq vs p ∧ (Lit.int .i64 z).wf = true := by
  obtain ⟨cs, rfl, hsz⟩ := okWide_struct Tryz.underlying76 hv
  obtain ⟨f, hf⟩ := h
  obtain ⟨z, vq, vs, p, rfl, h1, h2⟩ := rd_of_proven (tp := 74) (tr := 33) (q := 3) Tryz.underlying76 (by kernel_rfl) hsz ⟨by kernel_rfl, by kernel_rfl⟩ ⟨by kernel_rfl, by kernel_rfl⟩ (by kernel_rfl) (by kernel_rfl)
    Tryz.underlying74 ⟨by kernel_rfl, by kernel_rfl⟩ ⟨by kernel_rfl, by kernel_rfl⟩ ⟨by kernel_rfl, by kernel_rfl⟩ Tryz.underlying33 Tryz.underlying3 (by kernel_rfl) hf hw
  exact ⟨z, vq, vs, p, rfl, h1, h2⟩
set_option maxRecDepth 100000 in
theorem arg_steps {v : Value} {d : DataW H} {ps : List MemPlace} {r : Reach} {base : Nat} (h : DataW.Trod enc Tryz.prog W 0 (fun _ => true) true 103 v d ps) (hw : ∀ u ∈ d.weights Tryz.prog 103, u ≤ reachBytes) (hv : Value.okWide Tryz.prog W r base 103 v) :
    ∃ (vl : Value) (l : List Int) (z : Int), v = .agg #[vl, .int .i64 z] ∧ Rd W (· < W.heap.size) 1 vl l.length (l.map (Value.int .i64)) ∧ (∀ u ∈ l, (Lit.int .i64 u).wf = true) ∧ (Lit.int .i64 z).wf = true := by
  obtain ⟨cs, rfl, hsz⟩ := okWide_struct Tryz.underlying103 hv
  obtain ⟨f, hf⟩ := h
  obtain ⟨vl, l, z, rfl, h1, h2, h3⟩ := rd_of_steps (tr := 33) (q := 3) Tryz.underlying103 (by kernel_rfl) hsz ⟨by kernel_rfl, by kernel_rfl⟩ ⟨by kernel_rfl, by kernel_rfl⟩ (by kernel_rfl) (by kernel_rfl)
    Tryz.underlying33 Tryz.underlying3 (by kernel_rfl) hf hw
  exact ⟨vl, l, z, rfl, h1, h2, h3⟩
end
end Go.Proofs.YtjfhncnpmelopaaGreatDoor
