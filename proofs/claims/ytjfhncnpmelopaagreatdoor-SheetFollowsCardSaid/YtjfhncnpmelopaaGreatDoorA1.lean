/- A statement's arguments that are tables of integers or a pace, opened from the row's data. -/
import Derived.Test.YtjfhncnpmelopaaGreatDoorB24
import Derived.Test.YtjfhncnpmelopaaGreatDoorB11
set_option linter.unusedVariables false
set_option linter.unusedSimpArgs false
set_option linter.unusedSectionVars false
set_option linter.constructorNameAsVariable false
namespace Go.Mem
open Go.RowKit Go.Deep Go.Sheet Go.ChangeShapes Go.WideShapes Go.Proofs.YtjfhncnpmelopaaGreatDoor
section
variable {H : Type} {enc : TypeId × Value → H} {P : Program} {w : World} {base : Nat} {spare : Nat → Bool} {held : Bool}
theorem rd_of_rows {t e q : TypeId} {fuel : Nat} {v : Value} {x : DataW H × List MemPlace} (ht : P.underlying t = some (.slice e)) (he : P.underlying e = some (.slice q)) (hq : P.underlying q = some (.int .i64)) (hce : P.cellsOf e = 1) (hcq : P.cellsOf q = 1)
    (h : DataW.trod enc P w base spare held fuel t [v] = some x) (hw : ∀ u ∈ x.1.weights P t, u ≤ reachBytes) :
    ∃ ms : List (List Int), RdRows w (· < w.heap.size) v ms ∧ (∀ r ∈ ms, ∀ z ∈ r, (Lit.int .i64 z).wf = true) ∧ ms.length * P.bytesOf e ≤ reachBytes ∧ ∀ r ∈ ms, r.length * P.bytesOf q ≤ reachBytes := by
  obtain ⟨n, l, h1, h2, h3⟩ := rd_of_slice (α := Value × List Int) (f := fun z => [z.1]) (R := fun z => Rd w (· < w.heap.size) 1 z.1 z.2.length (ints z.2) ∧ (∀ u ∈ z.2, (Lit.int .i64 u).wf = true) ∧ z.2.length * P.bytesOf q ≤ reachBytes) (size := 1) (by omega) ht hce (fun _ => rfl) (fun n cs y hl hy hwy => by
    match cs, hl with
    | [a], _ =>
      obtain ⟨m, r, g1, g2, g3⟩ := rd_of_ints he hq hcq hy hwy
      have hm : m = r.length := g1.count1
      subst hm
      exact ⟨(a, r), rfl, g1, g2, g3⟩) h hw
  have e1 : l.flatMap (fun z => [z.1]) = (l.map (·.1)).map id := by
    clear h1 h2
    induction l with
    | nil => rfl
    | cons a l ih => rw [List.flatMap_cons, ih]; rfl
  rw [e1] at h1
  have hn : n = l.length := by have := h1.len; simpa using this.symm
  subst hn
  refine ⟨l.map (·.2), ⟨l.map (·.1), by rw [List.length_map]; exact h1, fun i x r hx hr => ?_⟩, fun r hr => ?_, by rw [List.length_map]; exact h3, fun r hr => ?_⟩
  · rw [List.getElem?_map] at hx hr
    cases hl : l[i]? with
    | none => rw [hl] at hx; cases hx
    | some z =>
      rw [hl] at hx hr
      cases hx; cases hr
      exact (h2 z (List.mem_of_getElem? hl)).1
  · obtain ⟨z, hz, rfl⟩ := List.mem_map.1 hr
    exact (h2 z hz).2.1
  · obtain ⟨z, hz, rfl⟩ := List.mem_map.1 hr
    exact (h2 z hz).2.2
theorem rd_of_pace {t tr tm e th q : TypeId} {f0 f1 f2 : Field} {fuel : Nat} {cs : Array Value} {x : DataW H × List MemPlace} (ht : P.underlying t = some (.struct #[f0, f1, f2])) (hc : P.cellsOf t = 3) (hsz : cs.size = P.cellsOf t)
    (ho : f0.offset = 0 ∧ f1.offset = 1 ∧ f2.offset = 2) (hs : P.cellsOf f0.type = 1 ∧ P.cellsOf f1.type = 1 ∧ P.cellsOf f2.type = 1) (hty : f0.type = tr ∧ f1.type = tm ∧ f2.type = th)
    (htr : P.underlying tr = some (.slice q)) (hth : P.underlying th = some (.slice q)) (htm : P.underlying tm = some (.slice e)) (he : P.underlying e = some (.slice q)) (hq : P.underlying q = some (.int .i64)) (hce : P.cellsOf e = 1) (hcq : P.cellsOf q = 1)
    (h : DataW.trod enc P w base spare held fuel t cs.toList = some x) (hw : ∀ u ∈ x.1.weights P t, u ≤ reachBytes) :
    ∃ (vr vm vh : Value) (p : PC), cs = #[vr, vm, vh] ∧ RdPace w (· < w.heap.size) vr vm vh p ∧ p.rd.length * P.bytesOf q ≤ reachBytes := by
  obtain ⟨y0, y1, y2, m, hye, _, h0, h1, h2⟩ := trod_struct3 ht h
  have hwa : ∀ u, u ∈ y0.1.weights P tr ∨ u ∈ y1.1.weights P tm ∨ u ∈ y2.1.weights P th → u ≤ reachBytes := fun u hu => hw u (by
    rw [hye]
    simp only [DataW.weights, ht, List.map_cons, List.map_nil, DataW.weightsEach, hty.1, hty.2.1, hty.2.2]
    simp only [List.mem_append]
    rcases hu with hu | hu | hu
    · exact .inl hu
    · exact .inr (.inl hu)
    · exact .inr (.inr (.inl hu)))
  rw [hc] at hsz
  match cs, hsz with
  | ⟨[a, b, c]⟩, _ =>
    simp only at h0 h1 h2
    rw [ho.1, hs.1] at h0
    rw [ho.2.1, hs.2.1] at h1
    rw [ho.2.2, hs.2.2] at h2
    rw [hty.1] at h0
    rw [hty.2.1] at h1
    rw [hty.2.2] at h2
    obtain ⟨n0, l0, r0, _, b0⟩ := rd_of_ints htr hq hcq (show DataW.trod enc P w base spare held m tr [a] = some y0 from h0) fun u hu => hwa u (.inl hu)
    obtain ⟨ms, r1, _, _, _⟩ := rd_of_rows htm he hq hce hcq (show DataW.trod enc P w base spare held m tm [b] = some y1 from h1) fun u hu => hwa u (.inr (.inl hu))
    obtain ⟨n2, l2, r2, _, _⟩ := rd_of_ints hth hq hcq (show DataW.trod enc P w base spare held m th [c] = some y2 from h2) fun u hu => hwa u (.inr (.inr hu))
    have e0 : n0 = l0.length := r0.count1
    have e2 : n2 = l2.length := r2.count1
    subst e0 e2
    exact ⟨a, b, c, ⟨l0, ms, l2⟩, rfl, ⟨r0, r1, r2⟩, b0⟩
end
end Go.Mem
namespace Go.Proofs.YtjfhncnpmelopaaGreatDoor
open Go.RowKit Go.Mem Go.Sheet Go.ChangeShapes Go.WideShapes
section
variable {H : Type} {enc : TypeId × Value → H} {W : World}
set_option maxRecDepth 100000 in
theorem arg_pace {v : Value} {d : DataW H} {ps : List MemPlace} {r : Reach} {base : Nat} (h : DataW.Trod enc Tryz.prog W 0 (fun _ => true) true 55 v d ps) (hw : ∀ u ∈ d.weights Tryz.prog 55, u ≤ reachBytes) (hv : Value.okWide Tryz.prog W r base 55 v) :
    ∃ (vr vm vh : Value) (p : PC), v = .agg #[vr, vm, vh] ∧ RdPace W (· < W.heap.size) vr vm vh p ∧ p.rd.length * 8 ≤ 140737488351232 := by
  obtain ⟨cs, rfl, hsz⟩ := okWide_struct Tryz.underlying55 hv
  obtain ⟨f, hf⟩ := h
  obtain ⟨vr, vm, vh, p, rfl, h1, h2⟩ := rd_of_pace (tr := 33) (tm := 53) (th := 33) (e := 33) (q := 3) Tryz.underlying55 (by kernel_rfl) hsz ⟨by kernel_rfl, by kernel_rfl, by kernel_rfl⟩ ⟨by kernel_rfl, by kernel_rfl, by kernel_rfl⟩ ⟨by kernel_rfl, by kernel_rfl, by kernel_rfl⟩
    Tryz.underlying33 Tryz.underlying33 Tryz.underlying53 Tryz.underlying33 Tryz.underlying3 (by kernel_rfl) (by kernel_rfl) hf hw
  exact ⟨vr, vm, vh, p, rfl, h1, by rw [show Tryz.prog.bytesOf 3 = 8 by kernel_rfl] at h2; exact h2⟩
set_option maxRecDepth 100000 in
theorem arg_rows {v : Value} {d : DataW H} {ps : List MemPlace} (h : DataW.Trod enc Tryz.prog W 0 (fun _ => true) true 53 v d ps) (hw : ∀ u ∈ d.weights Tryz.prog 53, u ≤ reachBytes) (hv : v.cells.toList = [v]) :
    ∃ ms : List (List Int), RdRows W (· < W.heap.size) v ms ∧ (∀ r ∈ ms, ∀ z ∈ r, (Lit.int .i64 z).wf = true) := by
  obtain ⟨f, hf⟩ := h
  rw [hv] at hf
  obtain ⟨ms, h1, h2, _, _⟩ := rd_of_rows Tryz.underlying53 Tryz.underlying33 Tryz.underlying3 (by kernel_rfl) (by kernel_rfl) hf hw
  exact ⟨ms, h1, h2⟩
end
end Go.Proofs.YtjfhncnpmelopaaGreatDoor
/- A statement's arguments that are small numbers, opened from the row's data. -/
namespace Go.Proofs.YtjfhncnpmelopaaGreatDoor
open Go.RowKit Go.Mem Go.Sheet Go.ChangeShapes Go.WideShapes
section
variable {H : Type} {enc : TypeId × Value → H} {W : World}
set_option maxRecDepth 100000 in
theorem arg_u8 {v : Value} {d : DataW H} {ps : List MemPlace} {r : Reach} {base : Nat} (h : DataW.Trod enc Tryz.prog W 0 (fun _ => true) true 5 v d ps) (hv : Value.okWide Tryz.prog W r base 5 v) :
    ∃ x : Nat, v = .int .u8 (x : Int) ∧ x ≤ 255 := by
  obtain ⟨n, rfl⟩ := okWide_int Tryz.underlying5 hv
  obtain ⟨f, hf⟩ := h
  obtain ⟨z, e, _, hz⟩ := DataW.trod_int Tryz.underlying5 (show DataW.trod enc Tryz.prog W 0 (fun _ => true) true f 5 [.int .u8 n] = some (d, ps) from hf)
  injection e with e _
  injection e with _ e
  subst e
  have h0 : 0 ≤ n ∧ n ≤ 255 := by
    simp only [Lit.wf, Bool.and_eq_true, decide_eq_true_eq] at hz
    exact hz
  exact ⟨n.toNat, by congr 1; omega, by omega⟩
end
end Go.Proofs.YtjfhncnpmelopaaGreatDoor
