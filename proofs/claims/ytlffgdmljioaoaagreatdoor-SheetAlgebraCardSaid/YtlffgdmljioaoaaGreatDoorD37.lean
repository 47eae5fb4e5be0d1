/- Part 37 of the walks of the golf union's program: QA1, QA2, QA3, QA4, QA5, QA6, QA7. -/
import Derived.Test.YtlffgdmljioaoaaGreatDoorD03
import Derived.Test.YtlffgdmljioaoaaGreatDoorD20
import Derived.Test.YtlffgdmljioaoaaGreatDoorD36
import Derived.Test.YtlffgdmljioaoaaGreatDoorD31
set_option linter.unusedVariables false
set_option linter.unusedSimpArgs false
set_option linter.unusedSectionVars false
set_option linter.constructorNameAsVariable false
/- Max-plus products: associativity, powers. Plain. -/
namespace Go.Sheet
theorem prodX_ne {x y : Int} (h : prodX x y ≠ noth) : x ≠ noth ∧ y ≠ noth ∧ prodX x y = x + y := by
  unfold prodX at h ⊢
  split at h
  · exact absurd rfl h
  · rename_i hn
    rw [if_neg hn]
    exact ⟨fun e => hn (.inl e), fun e => hn (.inr e), rfl⟩
theorem prodX_add {x y : Int} (hx : x ≠ noth) (hy : y ≠ noth) : prodX x y = x + y := by
  unfold prodX
  rw [if_neg (fun h => h.elim hx hy)]
theorem timesR_ge (r x : List Int) : noth ≤ timesR r x := timesF_ge r x noth
theorem timesR_at {r x : List Int} {k : Nat} (h1 : k < r.length) (h2 : k < x.length) : prodX (r.getD k 0) (x.getD k 0) ≤ timesR r x := timesF_at r x noth k h1 h2
theorem timesR_from {r x : List Int} (h : timesR r x ≠ noth) : ∃ k, k < r.length ∧ k < x.length ∧ r.getD k 0 ≠ noth ∧ x.getD k 0 ≠ noth ∧ timesR r x = r.getD k 0 + x.getD k 0 := by
  rcases timesF_from r x noth with e | ⟨k, h1, h2, e⟩
  · exact absurd e h
  · have e : timesR r x = prodX (r.getD k 0) (x.getD k 0) := e
    rw [e] at h
    obtain ⟨g1, g2, g3⟩ := prodX_ne h
    exact ⟨k, h1, h2, g1, g2, by rw [e, g3]⟩
theorem col_len (b : IMat) (k : Nat) : (col b k).length = b.length := by simp [col]
theorem col_getD {b : IMat} {j k : Nat} (hj : j < b.length) : (col b k).getD j 0 = at2 b j k := by
  unfold col at2
  rw [List.getD_eq_getElem?_getD, List.getElem?_map, List.getElem?_eq_getElem hj, List.getD_eq_getElem?_getD (l := b), List.getElem?_eq_getElem hj]
  rfl
theorem map_getD {α : Type} {f : α → Int} {l : List α} {j : Nat} (hj : j < l.length) : (l.map f).getD j 0 = f l[j] := by
  rw [List.getD_eq_getElem?_getD, List.getElem?_map, List.getElem?_eq_getElem hj]
  rfl
theorem range_getD {f : Nat → Int} {n j : Nat} (hj : j < n) : ((List.range n).map f).getD j 0 = f j := by
  rw [map_getD (by simpa using hj)]
  simp
theorem getD_bd {B : Int} {l : List Int} (h : ∀ y ∈ l, XB B y) {k : Nat} (hk : k < l.length) : XB B (l.getD k 0) := by
  rw [List.getD_eq_getElem?_getD, List.getElem?_eq_getElem hk]
  exact h _ (List.getElem_mem hk)
theorem at2_row {b : IMat} {j k : Nat} (hj : j < b.length) : at2 b j k = b[j].getD k 0 := by
  unfold at2
  rw [List.getD_eq_getElem?_getD (l := b), List.getElem?_eq_getElem hj]
  rfl
/-- a list times a matrix times a list -/
theorem vec_assoc {n : Nat} {r x : List Int} {b : IMat} {A B C : Int} (hA : 0 ≤ A ∧ A ≤ 100000000000) (hB : 0 ≤ B ∧ B ≤ 100000000000) (hC : 0 ≤ C ∧ C ≤ 100000000000) (hr : r.length = n) (xr : ∀ y ∈ r, XB A y) (hb : SqOk n B b) (hx : x.length = n) (xx : ∀ y ∈ x, XB C y) :
    timesR ((List.range n).map fun k => timesR r (col b k)) x = timesR r (b.map fun row => timesR row x) := by
  have hbl := hb.n_eq
  have hN : noth = -1125899906842624 := rfl
  apply Int.le_antisymm
  · by_cases h0 : timesR ((List.range n).map fun k => timesR r (col b k)) x = noth
    · rw [h0]; exact timesR_ge _ _
    · obtain ⟨k, h1, h2, g1, g2, e⟩ := timesR_from h0
      have hk : k < n := by omega
      rw [range_getD hk] at g1 e
      obtain ⟨j, j1, j2, p1, p2, e2⟩ := timesR_from g1
      have hj : j < n := by omega
      rw [col_getD (by omega)] at p2 e2
      have b1 := hb.at_bd hj hk
      have b2 := getD_bd xx (k := k) (by omega)
      have b3 := getD_bd xr (k := j) (by omega)
      have t1 := timesR_at (r := b[j]'(by omega)) (x := x) (k := k) (by rw [hb.len _ (List.getElem_mem _)]; exact hk) (by omega)
      rw [← at2_row (by omega), prodX_add p2 g2] at t1
      have hne : timesR (b[j]'(by omega)) x ≠ noth := by
        rcases b1 with b1 | b1
        · exact absurd b1 p2
        · rcases b2 with b2 | b2
          · exact absurd b2 g2
          · rw [hN]; omega
      have t2 := timesR_at (r := r) (x := b.map fun row => timesR row x) (k := j) (by omega) (by rw [List.length_map]; omega)
      rw [map_getD (by omega), prodX_add p1 hne] at t2
      omega
  · by_cases h0 : timesR r (b.map fun row => timesR row x) = noth
    · rw [h0]; exact timesR_ge _ _
    · obtain ⟨j, h1, h2, g1, g2, e⟩ := timesR_from h0
      have hj : j < n := by omega
      rw [map_getD (by omega)] at g2 e
      obtain ⟨k, k1, k2, p1, p2, e2⟩ := timesR_from g2
      have hk : k < n := by omega
      rw [← at2_row (by omega)] at p1 e2
      have b1 := hb.at_bd hj hk
      have b3 := getD_bd xr (k := j) (by omega)
      have t1 := timesR_at (r := r) (x := col b k) (k := j) (by omega) (by rw [col_len]; omega)
      rw [col_getD (by omega), prodX_add g1 p1] at t1
      have hne : timesR r (col b k) ≠ noth := by
        rcases b1 with b1 | b1
        · exact absurd b1 p1
        · rcases b3 with b3 | b3
          · exact absurd b3 g1
          · rw [hN]; omega
      have t2 := timesR_at (r := (List.range n).map fun k => timesR r (col b k)) (x := x) (k := k) (by simpa using hk) (by omega)
      rw [range_getD hk, prodX_add hne p2] at t2
      omega
theorem matMul_sq {n : Nat} {A B : Int} {a b : IMat} (hAB : A + B ≤ 1125899906842624) (ha : SqOk n A a) (hb : SqOk n B b) : SqOk n (A + B) (matMul a b) := by
  have h := matMul_ok hAB (⟨ha.len, ha.bd⟩ : XOk n A a) (⟨hb.len, hb.bd⟩ : XOk n B b) hb.n_eq
  exact ⟨by rw [matMul_len]; exact ha.n_eq, h.len, h.bd⟩
theorem col_matMul {n : Nat} {b c : IMat} {k : Nat} (hc : c.length = n) (hk : k < n) : col (matMul b c) k = b.map fun row => timesR row (col c k) := by
  unfold col matMul
  rw [List.map_map]
  refine List.map_congr_left fun r hr => ?_
  show ((List.range c.length).map fun k => timesR r (col c k)).getD k 0 = _
  rw [hc, range_getD hk]
  rfl
theorem matMul_assoc {n : Nat} {a b c : IMat} {A B C : Int} (hA : 0 ≤ A ∧ A ≤ 100000000000) (hB : 0 ≤ B ∧ B ≤ 100000000000) (hC : 0 ≤ C ∧ C ≤ 100000000000) (ha : SqOk n A a) (hb : SqOk n B b) (hc : SqOk n C c) : matMul (matMul a b) c = matMul a (matMul b c) := by
  have e1 : matMul (matMul a b) c = a.map fun r => (List.range c.length).map fun k => timesR ((List.range b.length).map fun j => timesR r (col b j)) (col c k) := by
    show (a.map _).map _ = _
    rw [List.map_map]
    rfl
  have e2 : matMul a (matMul b c) = a.map fun r => (List.range (matMul b c).length).map fun k => timesR r (col (matMul b c) k) := rfl
  rw [e1, e2, matMul_len, hb.n_eq, hc.n_eq]
  refine List.map_congr_left fun r hr => List.map_congr_left fun k hk => ?_
  have hk' : k < n := List.mem_range.1 hk
  rw [col_matMul hc.n_eq hk']
  exact vec_assoc hA hB hC (ha.len r hr) (fun y hy => ha.bd r hr y hy) hb (by rw [col_len, hc.n_eq]) (fun y hy => by
    obtain ⟨row, hrow, rfl⟩ := List.mem_map.1 hy
    exact getD_bd (fun z hz => hc.bd row hrow z hz) (by rw [hc.len row hrow]; exact hk'))
theorem unitM_at {n i k : Nat} (hi : i < n) (hk : k < n) : at2 (unitM n) i k = if i = k then 0 else noth := by
  rw [at2_row (by rw [unitM_len]; exact hi)]
  unfold unitM
  rw [List.getElem_map, List.getElem_range, List.getD_eq_getElem?_getD, List.getElem?_eq_getElem (by simpa using hk), List.getElem_set, List.getElem_replicate]
  rfl
theorem unitM_sq (n : Nat) : SqOk n 0 (unitM n) := ⟨unitM_len n, (unitM_xok n).len, (unitM_xok n).bd⟩
theorem matMul_unit {n : Nat} {A : Int} {a : IMat} (hA : 0 ≤ A ∧ A ≤ 100000000000) (ha : SqOk n A a) : matMul a (unitM n) = a := by
  have hN : noth = -1125899906842624 := rfl
  unfold matMul
  rw [unitM_len]
  refine (List.map_congr_left (g := id) fun r hr => ?_).trans (List.map_id a)
  have hl := ha.len r hr
  have hlu := unitM_len n
  refine List.ext_getElem (by simp [hl]) fun k h1 h2 => ?_
  have hk : k < n := by simpa using h1
  have h2' : k < r.length := h2
  have e0 : (id r)[k] = r.getD k 0 := by rw [List.getD_eq_getElem?_getD, List.getElem?_eq_getElem h2']; rfl
  rw [e0, List.getElem_map, List.getElem_range]
  have hb := getD_bd (fun y hy => ha.bd r hr y hy) (k := k) (by omega)
  apply Int.le_antisymm
  · by_cases h0 : timesR r (col (unitM n) k) = noth
    · rw [h0]
      rcases hb with hb | hb
      · rw [hb]; exact Int.le_refl _
      · rw [hN]; omega
    · obtain ⟨j, j1, j2, p1, p2, e⟩ := timesR_from h0
      rw [col_getD (by omega), unitM_at (by omega) hk] at p2 e
      by_cases hjk : j = k
      · subst hjk
        rw [e, if_pos rfl]; omega
      · rw [if_neg hjk] at p2; exact absurd rfl p2
  · have t := timesR_at (r := r) (x := col (unitM n) k) (k := k) (by omega) (by rw [col_len]; omega)
    rw [col_getD (by omega), unitM_at hk hk, if_pos rfl] at t
    by_cases hr0 : r.getD k 0 = noth
    · rw [hr0]; exact timesR_ge _ _
    · rw [prodX_add hr0 (by decide)] at t
      omega
theorem powM_sq {n : Nat} {A : Int} {own : IMat} (hA : 0 ≤ A ∧ A ≤ 1000000000) (h : SqOk n A own) {t : Nat} (ht : t ≤ 64) : SqOk n (A * t) (powM own t) :=
  let ⟨h1, h2⟩ := powM_ok hA (⟨h.len, h.bd⟩ : XOk n A own) h.n_eq t ht
  ⟨h2, h1.len, h1.bd⟩
/-- powers add up -/
theorem powM_two {n : Nat} {A : Int} {own : IMat} (hA : 0 ≤ A ∧ A ≤ 1000000000) (h : SqOk n A own) {t : Nat} (ht : t ≤ 60) : matMul (powM own t) (powM own 2) = powM own (t + 2) := by
  have hb : A * (t : Int) ≤ 1000000000 * 64 := Int.mul_le_mul hA.2 (by omega) (by omega) (by omega)
  have hb0 : 0 ≤ A * (t : Int) := Int.mul_nonneg hA.1 (by omega)
  have hp := powM_sq hA h (show t ≤ 64 by omega)
  have hu := unitM_sq n
  have e2 : powM own 2 = matMul (matMul (unitM n) own) own := by rw [← h.n_eq]; rfl
  have huo := matMul_sq (by omega) hu h
  rw [e2, ← matMul_assoc (A := A * t) (B := 0 + A) (C := A) ⟨hb0, by omega⟩ (by omega) (by omega) hp huo h, ← matMul_assoc (A := A * t) (B := 0) (C := A) ⟨hb0, by omega⟩ (by omega) (by omega) hp hu h, matMul_unit ⟨hb0, by omega⟩ hp]
  rfl
/-- a list by a square -/
theorem apply_two {n : Nat} {A C : Int} {own : IMat} {x : List Int} (hA : 0 ≤ A ∧ A ≤ 1000000000) (hC : 0 ≤ C ∧ C ≤ 1000000000) (h : SqOk n A own) (hx : x.length = n) (xx : ∀ y ∈ x, XB C y) :
    (powM own 2).map (fun r => timesR r x) = own.map fun r => timesR r (own.map fun r => timesR r x) := by
  have e2 : powM own 2 = matMul (powM own 1) own := rfl
  have h1 := powM_sq hA h (show 1 ≤ 64 by omega)
  have e1 : powM own 1 = own := by
    have hu := unitM_sq n
    show matMul (unitM own.length) own = own
    rw [h.n_eq]
    unfold matMul
    rw [h.n_eq]
    refine List.ext_getElem (by simp [unitM_len, h.n_eq]) fun i h1 h2 => ?_
    have hi : i < n := by rw [← h.n_eq]; exact h2
    rw [List.getElem_map]
    refine List.ext_getElem (by rw [List.length_map, List.length_range, h.len _ (List.getElem_mem h2)]) fun k g1 g2 => ?_
    have hk : k < n := by simpa using g1
    rw [List.getElem_map, List.getElem_range]
    have hli : i < (unitM n).length := by rw [unitM_len]; exact hi
    have hlr : ((unitM n)[i]'hli).length = n := (unitM_sq n).len _ (List.getElem_mem hli)
    have e0 : (own[i])[k] = at2 own i k := by rw [at2_row h2, List.getD_eq_getElem?_getD, List.getElem?_eq_getElem g2]; rfl
    have hb := h.at_bd hi hk
    have hln := h.n_eq
    have hN : noth = -1125899906842624 := rfl
    rw [e0]
    apply Int.le_antisymm
    · by_cases h0 : timesR ((unitM n)[i]'hli) (col own k) = noth
      · rw [h0]
        rcases hb with hb | hb
        · rw [hb]; exact Int.le_refl _
        · rw [hN]; omega
      · obtain ⟨j, j1, j2, p1, p2, e⟩ := timesR_from h0
        have hj : j < n := by omega
        rw [← at2_row hli, unitM_at hi hj] at p1 e
        rw [col_getD (by omega)] at e
        by_cases hij : i = j
        · subst hij
          rw [e, if_pos rfl]; omega
        · rw [if_neg hij] at p1; exact absurd rfl p1
    · have t := timesR_at (r := (unitM n)[i]'hli) (x := col own k) (k := i) (by omega) (by rw [col_len]; omega)
      rw [← at2_row hli, unitM_at hi hi, if_pos rfl, col_getD (by omega)] at t
      by_cases hr0 : at2 own i k = noth
      · rw [hr0]; exact timesR_ge _ _
      · rw [prodX_add (by decide) hr0] at t
        omega
  rw [e2, e1]
  unfold matMul
  rw [List.map_map]
  refine List.map_congr_left fun r hr => ?_
  show timesR ((List.range own.length).map fun k => timesR r (col own k)) x = _
  rw [h.n_eq]
  exact vec_assoc (A := A) (B := A) (C := C) (by omega) (by omega) (by omega) (h.len r hr) (fun y hy => h.bd r hr y hy) h hx xx
/-- an entry of a power is the greatest sum of a walk -/
theorem powM_walk {n : Nat} {A : Int} {own : IMat} (hA : 0 ≤ A ∧ A ≤ 1000000000) (h : SqOk n A own) : ∀ l : Nat, l ≤ 64 → ∀ i j, i < n → j < n →
    (at2 (powM own l) i j ≠ noth → WalkP own n l j i (at2 (powM own l) i j)) ∧ ∀ s, WalkP own n l j i s → at2 (powM own l) i j ≠ noth ∧ s ≤ at2 (powM own l) i j
  | 0, _, i, j, hi, hj => by
    have e : at2 (powM own 0) i j = if i = j then 0 else noth := by
      show at2 (unitM own.length) i j = _
      rw [h.n_eq, unitM_at hi hj]
    rw [e]
    by_cases hij : i = j
    · rw [if_pos hij]
      exact ⟨fun _ => ⟨hj, hij.symm, rfl⟩, fun s hs => ⟨by decide, by rw [hs.2.2]; exact Int.le_refl _⟩⟩
    · rw [if_neg hij]
      exact ⟨fun g => absurd rfl g, fun s hs => absurd hs.2.1.symm hij⟩
  | l + 1, hl, i, j, hi, hj => by
    have ih := powM_walk hA h l (by omega)
    have hp := powM_sq hA h (show l ≤ 64 by omega)
    have hpl := hp.n_eq
    have hb : A * (l : Int) ≤ 1000000000 * 64 := Int.mul_le_mul hA.2 (by omega) (by omega) (by omega)
    have hb0 : 0 ≤ A * (l : Int) := Int.mul_nonneg hA.1 (by omega)
    have hln := h.n_eq
    have hN : noth = -1125899906842624 := rfl
    have e : at2 (powM own (l + 1)) i j = timesR ((powM own l)[i]'(by omega)) (col own j) := by
      show at2 (matMul (powM own l) own) i j = _
      rw [at2_row (by rw [matMul_len]; omega)]
      unfold matMul
      rw [List.getElem_map, range_getD (n := own.length) (by omega)]
    have hrl : ((powM own l)[i]'(by omega)).length = n := hp.len _ (List.getElem_mem _)
    rw [e]
    refine ⟨fun h0 => ?_, fun s hs => ?_⟩
    · obtain ⟨k, k1, k2, p1, p2, e2⟩ := timesR_from h0
      have hk : k < n := by omega
      rw [← at2_row (by omega)] at p1 e2
      rw [col_getD (by omega)] at p2 e2
      have w1 := (ih i k hi hk).1 p1
      have w0 : WalkP own n 1 j k (at2 own k j) := ⟨hk, j, p2, hj, rfl, by omega⟩
      have := w0.cat w1
      rw [e2, show at2 (powM own l) i k + at2 own k j = at2 own k j + at2 (powM own l) i k by omega, Nat.add_comm l 1]
      exact this
    · rw [Nat.add_comm l 1] at hs
      obtain ⟨k, s1, h1, h2⟩ := hs.split
      have hk : k < n := h1.ends.2
      obtain ⟨_, j', hne, hj1, hj2, hs1⟩ := h1
      subst hj2
      obtain ⟨g1, g2⟩ := (ih i k hi hk).2 _ h2
      have t := timesR_at (r := (powM own l)[i]'(by omega)) (x := col own j) (k := k) (by omega) (by rw [col_len]; omega)
      rw [← at2_row (by omega), col_getD (by omega), prodX_add g1 hne] at t
      have b1 := hp.at_bd hi hk
      have b2 := h.at_bd hk hj
      refine ⟨?_, by omega⟩
      rcases b1 with b1 | b1
      · exact absurd b1 g1
      · rcases b2 with b2 | b2
        · exact absurd b2 hne
        · rw [hN]; omega
end Go.Sheet
/- Walks of the reference: FromInt, Mul of small numbers. -/
namespace Go.Proofs.YtlffgdmljioaoaaGreatDoor
open Go.RowKit Go.Mem Go.Sheet
set_option maxRecDepth 100000 in
set_option maxHeartbeats 1000000 in
theorem rfromInt_any (W : World) (n : Int) (hn : -1000000000 < n ∧ n < 1000000000) : Calls Tryz.prog 27 #[.int .i64 n] W fun e w' => e = .returned (.string (tB (Lib.itoa n))) ∧ Below W.heap.size W w' := by
  have HWH := Lib.hid (rwhole_any W n hn)
  have HTX := Lib.hid (fun w v (h : BigV w v n) => rtext_any w v n (by omega) h)
  clear hn
  go_enter Tryz.func27, Tryz.ntmps27
  go_wp2_with fail
  refine HWH.out.mono ?_
  rintro e w1 ⟨⟨v', rfl, hv⟩, hb1⟩
  have HV := Lib.hid hv.big
  have HB1 := Lib.hid hb1
  clear hv hb1
  go_wp2_with fail
  refine (HTX.out _ _ HV.out).mono ?_
  rintro e w2 ⟨rfl, hb2⟩
  have HB2 := Lib.hid (HB1.out.trans (hb2.mono HB1.out.size))
  clear hb2
  go_wp2_with fail
  go_ret
  exact ⟨rfl, HB2.out⟩
set_option maxRecDepth 100000 in
set_option maxHeartbeats 1000000 in
theorem rmul_quick (w : World) (P Q P' Q' : Int) (hP : -1000 ≤ P ∧ P ≤ 1000) (hQ : 1 ≤ Q ∧ Q ≤ 9) (hP' : -1000000000 < P' ∧ P' < 1000000000) (hQ' : 1 ≤ Q' ∧ Q' ≤ 9) :
    Calls Tryz.prog 28 #[.string (tB (tPQ P Q)), .string (tB (tPQ P' Q'))] w fun e w' => e = .returned (.string (tB (txtL (P * P') (Q * Q')))) ∧ Below w.heap.size w w' := by
  have q1 := rquick_any w P Q (by omega) hQ
  have q2 := rquick_any w P' Q' (by omega) hQ'
  rw [decide_eq_true (by omega)] at q1 q2
  have Q1 : Hid (Calls Tryz.prog 73 #[.string (tB (tPQ P Q))] w fun e w' => e = .returned (.tuple #[.int .i64 P, .int .i64 Q, .bool true]) ∧ w = w') := Lib.hid q1
  have Q2 : Hid (Calls Tryz.prog 73 #[.string (tB (tPQ P' Q'))] w fun e w' => e = .returned (.tuple #[.int .i64 P', .int .i64 Q', .bool true]) ∧ w = w') := Lib.hid q2
  have b1 : -1000000000000 ≤ P * P' ∧ P * P' ≤ 1000000000000 := by
    have h1 : (P * P').natAbs ≤ 1000 * 1000000000 := by rw [Int.natAbs_mul]; exact Nat.mul_le_mul (by omega) (by omega)
    omega
  have b3 := mul_bdQ (a := Q) (b := Q') (A := 9) (B := 9) (by omega) hQ' (by omega)
  have b4 : 1 ≤ Q * Q' := Int.mul_pos (by omega) (by omega)
  have HOF := Lib.hid (rof_any w (P * P') (Q * Q') (by omega) (by omega))
  clear q1 q2
  generalize tPQ P Q = la at *
  generalize tPQ P' Q' = lb at *
  go_enter Tryz.func28, Tryz.ntmps28
  go_wp2_with fail
  refine Q1.out.mono ?_
  rintro e w' ⟨rfl, rfl⟩
  go_wp2_with fail
  refine Q2.out.mono ?_
  rintro e w' ⟨rfl, rfl⟩
  go_wp2_with fail
  refine HOF.out.mono ?_
  rintro e w2 ⟨rfl, hb2⟩
  go_wp2
  go_ret
  exact ⟨rfl, hb2⟩
end Go.Proofs.YtlffgdmljioaoaaGreatDoor
/- Walks of the reference: Digits, decimalForm, Check of a fraction's text. -/
namespace Go.Sheet
open Go.Proofs.YtlffgdmljioaoaaGreatDoor
theorem dec_head : ∀ n : Nat, 0 < n → ∀ c, (Lib.decDigits n).head? = some c → c.toNat ≠ 48 := by
  intro n
  induction n using Nat.strongRecOn with
  | _ n ih =>
    intro hn c hc
    rw [Lib.decDigits] at hc
    split at hc
    · rename_i h
      rw [List.head?_cons] at hc
      cases hc
      rw [u8_dig h]; omega
    · have hne : (Lib.decDigits (n / 10)).head? = some c := by
        have h1 := dec_ne (n / 10)
        cases hd : Lib.decDigits (n / 10) with
        | nil => rw [hd] at h1; simp at h1
        | cons x l => rw [hd] at hc; exact hc
      exact ih (n / 10) (by omega) (by omega) c hne
theorem dec_one {n : Nat} (h : n < 10) : Lib.decDigits n = [UInt8.ofNat (48 + n)] := by rw [Lib.decDigits, dif_pos h]
end Go.Sheet
namespace Go.Proofs.YtlffgdmljioaoaaGreatDoor
open Go.RowKit Go.Mem Go.Sheet
set_option maxRecDepth 100000 in
set_option maxHeartbeats 1000000 in
theorem rdigits_any (w : World) (l : List UInt8) (hl : l.length ≤ 1000) (hd : DigL l) : Calls Tryz.prog 111 #[.string (tB l)] w fun e w' => e = .returned (.bool true) ∧ w = w' := by
  have hsz : (tB l).size = l.length := tB_size l
  have HD := Lib.hid hd
  clear hd
  go_enter Tryz.func111, Tryz.ntmps111
  go_wp2_with fail
  go_loop [3] (fun i => ∃ k : Nat, k ≤ l.length ∧ i = .int .i64 k) (fun i => l.length - (intOf i).toNat)
  case atStart => exact ⟨0, Nat.zero_le _, rfl⟩
  case round =>
    obtain ⟨k, hk, rfl⟩ := hrel
    by_cases hlt : k < l.length
    · have hsk : k < (tB l).size := by omega
      have hat := tB_at l k hsk
      have hc := HD.out _ (List.getElem_mem hlt)
      rw [← hat] at hc
      have t1 : decide ((((tB l)[k]'hsk).toNat : Int) < 48) = false := by simp; omega
      have t2 : decide (57 < (((tB l)[k]'hsk).toNat : Int)) = false := by simp; omega
      clear hat hc
      go_wp2_with fail
      go_round
      case rel => exact ⟨k + 1, by omega, by go_num⟩
      case measure => simp [intOf]; omega
    · obtain rfl : k = l.length := by omega
      have tkk : decide ((l.length : Int) < (l.length : Int)) = false := by simp
      go_wp2
      go_ret
      exact ⟨rfl, rfl⟩
set_option maxRecDepth 100000 in
set_option maxHeartbeats 1000000 in
theorem rdecimalForm_any (w : World) (n : Nat) (hn : n < 1000000000000000000) : Calls Tryz.prog 66 #[.string (tB (Lib.decDigits n))] w fun e w' => e = .returned (.bool true) ∧ w = w' := by
  have hl := (dec_len 17 n).2 hn
  have hl1 := dec_ne n
  have HDG := Lib.hid (rdigits_any w (Lib.decDigits n) (by omega) (dec_dig n))
  have hsz : (tB (Lib.decDigits n)).size = (Lib.decDigits n).length := tB_size _
  have H0 : Hid (1 < (Lib.decDigits n).length → ∀ h : 0 < (tB (Lib.decDigits n)).size, ((((tB (Lib.decDigits n))[0]'h).toNat : Int) == 48) = false) := Lib.hid (fun h1 h => by
    rw [beq_eq_false_iff_ne, tB_at]
    have hx : (Lib.decDigits n).head? = some ((Lib.decDigits n)[0]'(by omega)) := by
      rw [List.head?_eq_getElem?, List.getElem?_eq_getElem (by omega)]
    have hn0 : 0 < n := by
      rcases Nat.eq_zero_or_pos n with h0 | h0
      · subst h0; rw [dec_one (by omega)] at h1; simp at h1
      · exact h0
    have := dec_head n hn0 _ hx
    omega)
  generalize Lib.decDigits n = D at *
  clear hn
  go_enter Tryz.func66, Tryz.ntmps66
  have t0 : ((D.length : Int) == 0) = false := by simp; intro h; subst h; simp at hl1
  by_cases h1 : 1 < D.length
  · have t1 : decide (1 < (D.length : Int)) = true := by simp; omega
    have h2 := H0.out h1 (by omega)
    clear H0
    go_wp2_with fail
    refine HDG.out.mono ?_
    rintro e w' ⟨rfl, rfl⟩
    go_wp2
    go_ret
    exact ⟨rfl, rfl⟩
  · have t1 : decide (1 < (D.length : Int)) = false := by simp; omega
    clear H0 h1
    go_wp2_with fail
    refine HDG.out.mono ?_
    rintro e w' ⟨rfl, rfl⟩
    go_wp2
    go_ret
    exact ⟨rfl, rfl⟩
end Go.Proofs.YtlffgdmljioaoaaGreatDoor
/- Walk of the reference's Check of a fraction's text in lowest terms. -/
namespace Go.Sheet
open Go.Proofs.YtlffgdmljioaoaaGreatDoor
theorem bPQ_abs (P Q : Int) (hQ : 1 ≤ Q) : bPQ P Q = tPQ (P.natAbs : Int) Q := by
  rw [tPQ_b hQ, if_neg (by omega)]
  unfold bPQ
  rw [show ((P.natAbs : Nat) : Int).natAbs = P.natAbs by omega]
theorem dec_not0 {n : Nat} (h : 0 < n) : Lib.decDigits n ≠ [48] := fun e => by
  have h2 := dec_val n
  rw [e] at h2
  have h3 : valL [48] = 0 := rfl
  omega
theorem dec_not1 {n : Nat} (h : n ≠ 1) : Lib.decDigits n ≠ [49] := fun e => by
  have h2 := dec_val n
  rw [e] at h2
  have h3 : valL [49] = 1 := rfl
  omega
end Go.Sheet
namespace Go.Proofs.YtlffgdmljioaoaaGreatDoor
open Go.RowKit Go.Mem Go.Sheet
set_option maxRecDepth 100000 in
set_option maxHeartbeats 2000000 in
theorem rcheck_any (W : World) (P Q : Int) (hP : P.natAbs < 1000000000) (hQ : 1 ≤ Q ∧ Q < 1000000000) (hc : Nat.gcd P.natAbs Q.natAbs = 1) :
    Calls Tryz.prog 25 #[.string (tB (tPQ P Q))] W fun e w' => e = .returned (.int .i64 0) ∧ Below W.heap.size W w' := by
  have ht := tPQ_b (P := P) hQ.1
  have hba := bPQ_abs P Q hQ.1
  have HDF := Lib.hid (fun w => rdecimalForm_any w P.natAbs (by omega))
  have HDQ := Lib.hid (fun w => rdecimalForm_any w Q.natAbs (by omega))
  have HPT := Lib.hid (fun w => rparts_any w (P.natAbs : Int) Q (by omega) hQ)
  have hsl := bPQ_sl P Q
  have hDl := (dec_len 17 P.natAbs).2 (by omega)
  have hQl := (dec_len 17 Q.natAbs).2 (by omega)
  have hD1 := dec_ne P.natAbs
  have hDd := dec_dig P.natAbs
  have hD0 : P < 0 → Lib.decDigits P.natAbs ≠ [48] := fun h => dec_not0 (by omega)
  have hQ0 : Lib.decDigits Q.natAbs ≠ [48] := dec_not0 (by omega)
  have hQ1 : Q ≠ 1 → Lib.decDigits Q.natAbs ≠ [49] := fun h => dec_not1 (by omega)
  obtain ⟨T, hT⟩ : ∃ T : List UInt8, T = if Q = 1 then [] else 47 :: Lib.decDigits Q.natAbs := ⟨_, rfl⟩
  have hb : bPQ P Q = Lib.decDigits P.natAbs ++ T := by rw [hT]; rfl
  rw [← hba] at HPT
  rw [hb] at ht hsl HPT
  clear hba hb
  generalize hD : Lib.decDigits P.natAbs = D at *
  have hlen : (tPQ P Q).length = (if P < 0 then 1 else 0) + (D ++ T).length := by rw [ht]; split <;> simp; omega
  have hlen2 : (D ++ T).length = D.length + T.length := List.length_append ..
  have hTl : T.length = if Q = 1 then 0 else 1 + (Lib.decDigits Q.natAbs).length := by rw [hT]; split <;> simp; omega
  have hl1 : 0 < (tPQ P Q).length := by rw [hlen, hlen2]; omega
  have hlb : (tPQ P Q).length ≤ 40 := by rw [hlen, hlen2, hTl]; split <;> split <;> omega
  have HNG : Hid (∀ h : 0 < (tB (tPQ P Q)).size, ((((tB (tPQ P Q))[0]'h).toNat : Int) == 45) = decide (P < 0)) := Lib.hid (fun h => by
    rw [tB_at]
    have hx : (tPQ P Q)[0]? = some ((tPQ P Q)[0]'hl1) := List.getElem?_eq_getElem hl1
    generalize (tPQ P Q)[0]'hl1 = c at *
    rw [ht] at hx
    by_cases hp : P < 0
    · rw [if_pos hp] at hx
      rw [decide_eq_true hp]
      cases hx; rfl
    · rw [if_neg hp] at hx
      rw [decide_eq_false hp, beq_eq_false_iff_ne]
      rw [List.getElem?_append_left (by omega)] at hx
      have := hDd c (List.mem_of_getElem? hx)
      omega)
  have HEX : Hid (P < 0 → (tB (tPQ P Q)).extract 1 (tPQ P Q).length = tB (D ++ T)) := Lib.hid (fun hp => by
    rw [tB_ext, List.take_length, ht, if_pos hp]; rfl)
  have HEN : Hid (¬ P < 0 → tB (tPQ P Q) = tB (D ++ T)) := Lib.hid (fun hp => by rw [ht, if_neg hp])
  have HE1 : Hid ((tB (D ++ T)).extract 0 D.length = tB D) := Lib.hid (by rw [tB_ext, List.take_left, List.drop_zero])
  have HE2 : Hid (Q ≠ 1 → (tB (D ++ T)).extract (D.length + 1) (D.length + T.length) = tB (Lib.decDigits Q.natAbs)) := Lib.hid (fun h => by
    rw [← hlen2, tB_ext, List.take_length, hT, if_neg h, ← List.drop_drop, List.drop_left]
    rfl)
  have HZ0 : Hid (P < 0 → (((tB (D ++ T)).extract 0 D.length).toList == [48]) = false) := Lib.hid (fun hp => by
    rw [HE1.out, tB_list, beq_eq_false_iff_ne]; exact hD0 hp)
  have HZ1 : Hid (Q ≠ 1 → (((tB (D ++ T)).extract (D.length + 1) (D.length + T.length)).toList == [48]) = false) := Lib.hid (fun hq => by
    rw [HE2.out hq, tB_list, beq_eq_false_iff_ne]; exact hQ0)
  have HZ2 : Hid (Q ≠ 1 → (((tB (D ++ T)).extract (D.length + 1) (D.length + T.length)).toList == [49]) = false) := Lib.hid (fun hq => by
    rw [HE2.out hq, tB_list, beq_eq_false_iff_ne]; exact hQ1 hq)
  have HSL := Lib.hid (fun w => rslash_any w (D ++ T) (by rw [hlen2, hTl]; split <;> omega))
  rw [hsl] at HSL
  have HTQ := Lib.hid hTl
  have hsz : (tB (tPQ P Q)).size = (tPQ P Q).length := tB_size _
  have hsz2 : (tB (D ++ T)).size = D.length + T.length := by rw [tB_size, hlen2]
  have hTb : T.length ≤ 20 := by rw [hTl]; split <;> omega
  have hPN : P.natAbs < 1000000000000000000 := by omega
  have HPL := Lib.hid hPN
  clear hD hT hsl ht hDd hD0 hQ0 hQ1 hlen hlen2 hTl hP hPN
  generalize tPQ P Q = l at *
  generalize Lib.decDigits Q.natAbs = DQ at *
  have ng := HNG.out (by omega)
  obtain ⟨bn, hbn⟩ : ∃ bn, bn = decide (P < 0) := ⟨_, rfl⟩
  rw [← hbn] at ng
  have HBN := Lib.hid hbn
  clear hbn HNG
  go_enter Tryz.func25, Tryz.ntmps25
  go_upto_region 2 with fail
  go_cut [16] from 9 to 16 (fun d wx => d = .bool bn ∧ wx = W)
  case first =>
    have hsp : decide (0 < (l.length : Int)) = true := by simp; omega
    clear hsz2 hDl hD1 hQ
    go_wp2
    go_meet
    case rel => first
      | exact ⟨rfl, rfl⟩
      | (refine ⟨?_, rfl⟩; simp)
  case rest =>
    obtain ⟨rfl, rfl⟩ := hcut
    go_upto_if 16 with fail
    go_cut [3] from 17 to 18 (fun d wx => d = .string (tB (D ++ T)) ∧ wx = wc)
    case first =>
      by_cases hp : P < 0
      · obtain rfl : bn = true := by rw [HBN.out, decide_eq_true hp]
        have HX := Lib.hid (HEX.out hp)
        go_wp2
        go_meet
        case rel => exact ⟨by rw [HX.out], rfl⟩
      · obtain rfl : bn = false := by rw [HBN.out, decide_eq_false hp]
        have HX := Lib.hid (HEN.out hp)
        go_wp2
        go_meet
        case rel => exact ⟨by rw [HX.out], rfl⟩
    case rest =>
      obtain ⟨rfl, rfl⟩ := hcut
      go_wp2_with fail
      refine (HSL.out _).mono ?_
      rintro e w' ⟨rfl, rfl⟩
      go_upto_region 5 with fail
      go_cut [36] from 21 to 36 (fun d wx => d = .bool false ∧ wx = wc)
      case first =>
        have hdf := HDF.out wc
        rw [← HE1.out] at hdf
        have HDF1 := Lib.hid hdf
        clear hdf
        cases hb : bn with
        | true =>
          have hz := HZ0.out (of_decide_eq_true (by rw [← HBN.out, hb]))
          subst hb
          go_wp2_with fail
          refine HDF1.out.mono ?_
          rintro e w' ⟨rfl, rfl⟩
          go_wp2
          go_meet
          case rel => exact ⟨rfl, rfl⟩
        | false =>
          subst hb
          go_wp2_with fail
          refine HDF1.out.mono ?_
          rintro e w' ⟨rfl, rfl⟩
          go_wp2
          go_meet
          case rel => exact ⟨rfl, rfl⟩
      case rest =>
        obtain ⟨rfl, rfl⟩ := hcut
        clear ng
        have t600 : decide (600 < (D.length : Int)) = false := by simp; omega
        have t601 : decide (600 < (D.length : Int) + (T.length : Int) - (D.length : Int) - 1) = false := by simp; omega
        by_cases hq : Q = 1
        · have hT0 : T.length = 0 := by have := HTQ.out; rw [if_pos hq] at this; exact this
          have hsz3 : (tB (D ++ T)).size = D.length := by rw [hsz2, hT0]; rfl
          have t602 : decide (600 < (D.length : Int) - (D.length : Int) - 1) = false := by simp
          have ts : decide ((D.length : Int) < (D.length : Int)) = false := by simp
          clear hsz2 hT0 t601
          go_wp2_with fail
          go_ret
          exact ⟨rfl, Below.refl _ _⟩
        · have hT1 : 1 ≤ T.length := by have := HTQ.out; rw [if_neg hq] at this; omega
          have ts : decide ((D.length : Int) < (D.length : Int) + (T.length : Int)) = true := by simp; omega
          have z1 := HZ1.out hq
          have z2 := HZ2.out hq
          have hdq := HDQ.out wc
          rw [← HE2.out hq] at hdq
          have HDQ1 := Lib.hid hdq
          clear hdq
          go_wp2_with fail
          refine HDQ1.out.mono ?_
          rintro e w' ⟨rfl, rfl⟩
          go_wp2_with fail
          refine (HPT.out _).mono ?_
          rintro e w1 ⟨⟨v1, v2, rfl, h1, h2⟩, hb1⟩
          obtain ⟨p1, A1, n1, c1, rfl, _, _, HR1⟩ := h1.open_
          obtain ⟨p2, A2, n2, c2, rfl, _, _, HR2⟩ := h2.open_
          have S1 := ((St.of_below hb1).blk_new #[.bool p1, .slice A1 n1 c1] 112).blk_new #[.bool p2, .slice A2 n2 c2] 112
          simp only [List.nil_append, List.cons_append, World.size_alloc] at S1
          have HS1 := Lib.hid S1
          have HW1 := Lib.hid (((Below.refl w1.heap.size w1).alloc (Nat.le_refl _) (.cells #[.bool p1, .slice A1 n1 c1] 112)).alloc (by simp) (.cells #[.bool p2, .slice A2 n2 c2] 112))
          have HCO := Lib.hid (fun w hw => rcommon_any w (.slice A1 n1 c1) (.slice A2 n2 c2) P.natAbs Q.natAbs (by omega) (Nat.le_trans ((digs_len 2 _).2 HPL.out) (by omega)) (RdD.later (w := w1) (by have h := HR1.out.rdD; rw [show ((P.natAbs : Nat) : Int).natAbs = P.natAbs by omega] at h; exact h) hw) (RdD.later (w := w1) HR2.out.rdD hw))
          rw [hc] at HCO
          clear S1 h1 h2 hb1 z1 z2 HDQ1
          go_wp2_with fail
          refine (HCO.out _ HW1.out).mono ?_
          rintro e w2 ⟨⟨vg, rfl, hg⟩, hb2⟩
          have HB2 := Lib.hid ((HS1.out.ext hb2).bel)
          obtain ⟨Ag, cg, rfl, _, _, _⟩ := Rd.open_ hg
          generalize hng : (digs 1).length = ng at *
          obtain ⟨rfl, bg, og, hAg, cg0, _⟩ := rdD_one (y := 1) (by omega) hg
          subst hAg
          have cg1 : w2.cell? ⟨bg, og, none⟩ = some (.int .i64 1) := cg0
          clear cg0 hg hb2 hng HCO HS1 HW1
          go_wp2_with fail
          go_ret
          exact ⟨rfl, HB2.out⟩
end Go.Proofs.YtlffgdmljioaoaaGreatDoor
/- Walk of the law's tame. -/
namespace Go.Sheet
open Go.Proofs.YtlffgdmljioaoaaGreatDoor
def tameX (x : Int) : Bool := (x == -1000000000) || !(outB x (-999999) 999999)
def tameR (r : List Int) : Bool := r.all tameX
def tameM (m : IMat) : Bool := m.all tameR
theorem tame_row {m : IMat} {k : Nat} {r : List Int} (h : m[k]? = some r) : (m.drop k).all tameR = ((r.drop 0).all tameX && (m.drop (k + 1)).all tameR) := by
  obtain ⟨hk, rfl⟩ := List.getElem?_eq_some_iff.1 h
  rw [List.drop_eq_getElem_cons hk, List.all_cons, List.drop_zero]
  rfl
theorem tame_at {r : List Int} {j : Nat} {x : Int} (h : r[j]? = some x) : (r.drop j).all tameX = (tameX x && (r.drop (j + 1)).all tameX) := by
  obtain ⟨hk, rfl⟩ := List.getElem?_eq_some_iff.1 h
  rw [List.drop_eq_getElem_cons hk, List.all_cons]
end Go.Sheet
namespace Go.Proofs.YtlffgdmljioaoaaGreatDoor
open Go.RowKit Go.Mem Go.Sheet
set_option maxRecDepth 100000 in
set_option maxHeartbeats 2000000 in
theorem tame_any (w : World) (v : Value) (m : IMat) (h : RdRows w (· < w.heap.size) v m) :
    Calls Tryz.prog 19 #[v] w fun e w' => e = .returned (.bool (tameM m)) ∧ w = w' := by
  have HH := Lib.hid h
  obtain ⟨vs, g1, _⟩ := h
  have hlm := g1.le
  obtain ⟨A, c, rfl, _, _, _⟩ := g1.open_
  have HL0 : Hid (tameM m = (m.drop 0).all tameR) := Lib.hid rfl
  clear g1
  generalize hn : m.length = n at *
  have HN := Lib.hid hn
  clear hn
  go_enter Tryz.func19, Tryz.ntmps19
  go_wp2_with fail
  go_loop [3] (fun i => ∃ k : Nat, k ≤ n ∧ i = .int .i64 k ∧ Hid (tameM m = (m.drop k).all tameR)) (fun i => n - (intOf i).toNat)
  case atStart => exact ⟨0, Nat.zero_le _, rfl, HL0.out⟩
  case round =>
    obtain ⟨k, hk, rfl, HV⟩ := hrel
    by_cases hlt : k < n
    · have hx : m[k]? = some (m[k]'(by rw [HN.out]; exact hlt)) := List.getElem?_eq_getElem _
      obtain ⟨b, o, Ar, cr, hA, hrow⟩ := row_of HH.out hx
      subst hA
      obtain ⟨c0, hrd⟩ := hrow w (Below.refl _ _)
      have HR0 := Lib.hid (HV.out.trans (tame_row hx))
      generalize m[k]'_ = r at *
      have HRD := Lib.hid hrd
      have hlr := hrd.le
      generalize hnr : r.length = nr at *
      have HNR := Lib.hid hnr
      clear hx hrow hrd hnr
      go_wp2_with fail
      go_loop [4] (fun i => ∃ j : Nat, j ≤ nr ∧ i = .int .i64 j ∧ Hid (tameM m = ((r.drop j).all tameX && (m.drop (k + 1)).all tameR))) (fun i => nr - (intOf i).toNat)
      case atStart => exact ⟨0, Nat.zero_le _, rfl, HR0.out⟩
      case round =>
        obtain ⟨j, hj, rfl, HJ⟩ := hrel
        by_cases hjl : j < nr
        · obtain ⟨b2, o2, x, hA2, hx2, c2⟩ := Rd.int (q := .i64) (l := r) HRD.out hjl
          subst hA2
          have HJ2 := Lib.hid (HJ.out.trans (by rw [tame_at hx2]))
          have HTX : Hid (tameX x = ((x == -1000000000) || !(outB x (-999999) 999999))) := Lib.hid rfl
          clear hx2
          by_cases hxn : x = -1000000000
          · subst hxn
            have HN2 : Hid (tameM m = ((r.drop (j + 1)).all tameX && (m.drop (k + 1)).all tameR)) := Lib.hid (by
              rw [HJ2.out]
              have : tameX (-1000000000) = true := rfl
              rw [this, Bool.true_and])
            go_wp2_with fail
            go_round
            case rel => exact ⟨j + 1, by omega, by go_num, HN2.out⟩
            case measure => simp [intOf]; omega
          · have tx : (x != -1000000000) = true := by simpa using hxn
            have tx2 : (x == -1000000000) = false := by simpa using hxn
            have HOB := Lib.hid (outB_any x (-999999) 999999 w)
            clear hxn
            cases ho : outB x (-999999) 999999 with
            | true =>
              have HN2 : Hid (tameM m = false) := Lib.hid (by
                rw [HJ2.out, HTX.out, tx2, ho]; rfl)
              rw [ho] at HOB
              clear ho
              go_wp2_with fail
              refine HOB.out.mono ?_
              rintro e w' ⟨rfl, rfl⟩
              go_wp2
              go_ret
              exact ⟨by rw [HN2.out]; rfl, rfl⟩
            | false =>
              have HN2 : Hid (tameM m = ((r.drop (j + 1)).all tameX && (m.drop (k + 1)).all tameR)) := Lib.hid (by
                rw [HJ2.out, HTX.out, tx2, ho]
                simp)
              rw [ho] at HOB
              clear ho
              go_wp2_with fail
              refine HOB.out.mono ?_
              rintro e w' ⟨rfl, rfl⟩
              go_wp2_with fail
              go_round
              case rel => exact ⟨j + 1, by omega, by go_num, HN2.out⟩
              case measure => simp [intOf]; omega
        · obtain rfl : j = nr := by omega
          have HN2 : Hid (tameM m = (m.drop (k + 1)).all tameR) := Lib.hid (by
            rw [HJ.out, List.drop_of_length_le (by rw [HNR.out]; exact Nat.le_refl _)]
            rfl)
          have tjj : decide ((j : Int) < (j : Int)) = false := by simp
          go_wp2_with fail
          go_round
          case rel => exact ⟨k + 1, by omega, by go_num, HN2.out⟩
          case measure => simp [intOf]; omega
    · obtain rfl : k = n := by omega
      have HN2 : Hid (tameM m = true) := Lib.hid (by
        rw [HV.out, List.drop_of_length_le (by rw [HN.out]; exact Nat.le_refl _)]
        rfl)
      have tkk : decide ((k : Int) < (k : Int)) = false := by simp
      go_wp2
      go_ret
      exact ⟨by rw [HN2.out]; rfl, rfl⟩
end Go.Proofs.YtlffgdmljioaoaaGreatDoor
/- SheetAlgebra: the plain law. -/
namespace Go.Sheet
open Go.Proofs.YtlffgdmljioaoaaGreatDoor
theorem entry_bdA {x : Int} (h : entryE x = 0) : -1000000000 ≤ x ∧ x ≤ 999999999 := by
  unfold entryE at h
  split at h
  · rename_i e; rw [e, show NONE = -1000000000 from rfl]; omega
  · have := (outE_zero _ _ _).1 h; omega
def outM (m : IMat) : IMat := m.map fun r => r.map outerX
theorem outM_len (m : IMat) : (outM m).length = m.length := by simp [outM]
theorem outer_good {B x : Int} (h : XB B x) (hB : 0 ≤ B ∧ B ≤ 999999999) : outerBad x = false ∧ entryE (outerX x) = 0 ∧ innerX (outerX x) = x := by
  have hN : noth = -1125899906842624 := rfl
  have hO : NONE = -1000000000 := rfl
  rcases h with h | h
  · subst h
    exact ⟨by decide, by decide, by decide⟩
  · have hx : x ≠ noth := by rw [hN]; omega
    have hx2 : x ≠ NONE := by rw [hO]; omega
    have e : outerX x = x := by unfold outerX; rw [if_neg hx]
    refine ⟨?_, ?_, ?_⟩
    · unfold outerBad
      have h1 : decide (x < -999999999) = false := decide_eq_false (by omega)
      have h2 : decide (999999999 < x) = false := decide_eq_false (by omega)
      rw [h1, h2]; simp
    · rw [e]; unfold entryE; rw [if_neg hx2, outE_zero]; omega
    · rw [e]; unfold innerX; rw [if_neg hx2]
theorem result_out {n : Nat} {B : Int} {m : IMat} (h : SqOk n B m) (hB : 0 ≤ B ∧ B ≤ 999999999) : resultM m = (outM m, 0) := by
  unfold resultM
  rw [if_neg]
  · rfl
  · intro hb
    obtain ⟨r, hr, hb⟩ := List.any_eq_true.1 hb
    obtain ⟨x, hx, hb⟩ := List.any_eq_true.1 hb
    rw [(outer_good (h.bd r hr x hx) hB).1] at hb
    cases hb
theorem inside_out {n : Nat} {B : Int} {m : IMat} (h : SqOk n B m) (hB : 0 ≤ B ∧ B ≤ 999999999) : insideM (outM m) = m := by
  unfold insideM outM innerL
  rw [List.map_map]
  refine (List.map_congr_left (g := id) fun r hr => ?_).trans (List.map_id m)
  show (r.map outerX).map innerX = r
  rw [List.map_map]
  exact (List.map_congr_left (g := id) fun x hx => (outer_good (h.bd r hr x hx) hB).2.2).trans (List.map_id r)
theorem matE_out {n : Nat} {B : Int} {m : IMat} (h : SqOk n B m) (hB : 0 ≤ B ∧ B ≤ 999999999) (hn : n ≤ 24) : matE (outM m) = 0 := by
  unfold matE
  rw [outM_len, h.n_eq, if_neg (by omega), eachF_zero]
  intro i r hi
  have hr := List.mem_of_getElem? hi
  obtain ⟨s, hs, rfl⟩ := List.mem_map.1 hr
  rw [matRow_else (by rw [List.length_map]; exact h.len s hs), entries_zero]
  intro x hx
  obtain ⟨y, hy, rfl⟩ := List.mem_map.1 hx
  exact (outer_good (h.bd s hs y hy) hB).2.1
theorem out_inside {m : IMat} (h : ∀ r ∈ m, ∀ x ∈ r, entryE x = 0) : outM (insideM m) = m := by
  unfold insideM outM innerL
  rw [List.map_map]
  refine (List.map_congr_left (g := id) fun r hr => ?_).trans (List.map_id m)
  show (r.map innerX).map outerX = r
  rw [List.map_map]
  refine (List.map_congr_left (g := id) fun x hx => ?_).trans (List.map_id r)
  have h0 := h r hr x hx
  show outerX (innerX x) = x
  have hb := entry_bdA h0
  have hN : noth = -1125899906842624 := rfl
  unfold innerX outerX
  split
  · rename_i e; rw [if_pos rfl, e]
  · rw [if_neg]; rw [hN]; omega
theorem prod_out {n : Nat} {A B : Int} {a b : IMat} (ha : SqOk n A a) (hb : SqOk n B b) (hA : 0 ≤ A) (hB : 0 ≤ B) (hAB : A + B ≤ 999999999) (hn : n ≤ 24) : product (outM a) (outM b) = (outM (matMul a b), 0) := by
  unfold product
  have e : fst [matE (outM a), matE (outM b), whenE (decide ((outM a).length ≠ (outM b).length)) 2] = 0 := by
    rw [matE_out ha (by omega) hn, matE_out hb (by omega) hn, outM_len, outM_len, ha.n_eq, hb.n_eq]
    simp [fst, whenE]
  rw [if_neg (by rw [e]; simp), inside_out ha (by omega), inside_out hb (by omega)]
  exact result_out (matMul_sq (by omega) ha hb) (by omega)
theorem pow_out {n t : Nat} {A : Int} {a : IMat} (ha : SqOk n A a) (hA : 0 ≤ A) (ht : t ≤ 64) (hAt : A * (t : Int) ≤ 999999999) (hA2 : A ≤ 999999999) (hn : n ≤ 24) : power (outM a) (t : Int) = (outM (powM a t), 0) := by
  unfold power
  have e : fst [matE (outM a), outE (t : Int) 0 64] = 0 := by
    have h1 : outE (t : Int) 0 64 = 0 := (outE_zero _ _ _).2 (by omega)
    rw [matE_out ha (by omega) hn, h1]; rfl
  rw [if_neg (by rw [e]; simp), inside_out ha (by omega), show ((t : Int)).toNat = t by omega]
  exact result_out (powM_sq (by omega) ha ht) ⟨Int.mul_nonneg hA (by omega), hAt⟩
theorem apply_out {n : Nat} {A C : Int} {a : IMat} {y : List Int} (ha : SqOk n A a) (hA : 0 ≤ A) (hC : 0 ≤ C) (hAC : A + C ≤ 999999999) (hn : n ≤ 24) (hy : y.length = n) (yy : ∀ z ∈ y, XB C z) :
    applyM (outM a) (y.map outerX) = ((a.map fun r => timesR r y).map outerX, 0) := by
  unfold applyM
  have e : applyE (outM a) (y.map outerX) = 0 := by
    unfold applyE
    have h1 : eachF (fun _ n => entryE n) 0 (y.map outerX) = 0 := entries_zero.2 fun x hx => by
      obtain ⟨z, hz, rfl⟩ := List.mem_map.1 hx
      exact (outer_good (yy z hz) (by omega)).2.1
    rw [matE_out ha (by omega) hn, outM_len, List.length_map, ha.n_eq, hy, h1]
    simp [fst, whenE]
  have e2 : innerL (y.map outerX) = y := by
    unfold innerL
    rw [List.map_map]
    exact (List.map_congr_left (g := id) fun x hx => (outer_good (yy x hx) (by omega)).2.2).trans (List.map_id y)
  rw [if_neg (by rw [e]; simp), inside_out ha (by omega), e2]
  have hb : ∀ z ∈ a.map (fun r => timesR r y), XB (A + C) z := fun z hz => by
    obtain ⟨r, hr, rfl⟩ := List.mem_map.1 hz
    exact timesF_bd (by omega) r y noth (.inl rfl) (fun u hu => ha.bd r hr u hu) yy
  unfold outerL
  rw [if_neg]
  intro h
  obtain ⟨z, hz, h⟩ := List.any_eq_true.1 h
  rw [(outer_good (hb z hz) (by omega)).1] at h
  cases h
theorem apply_bd {n : Nat} {A C : Int} {a : IMat} {y : List Int} (ha : SqOk n A a) (hAC : A + C ≤ 999999999) (yy : ∀ z ∈ y, XB C z) : (a.map fun r => timesR r y).length = n ∧ ∀ z ∈ a.map (fun r => timesR r y), XB (A + C) z := by
  refine ⟨by rw [List.length_map]; exact ha.n_eq, fun z hz => ?_⟩
  obtain ⟨r, hr, rfl⟩ := List.mem_map.1 hz
  exact timesF_bd (by omega) r y noth (.inl rfl) (fun u hu => ha.bd r hr u hu) yy
theorem tameX_bd {x : Int} (_h : entryE x = 0) (ht : tameX x = true) : XB 999999 (innerX x) := by
  unfold tameX at ht
  simp only [Bool.or_eq_true, beq_iff_eq, Bool.not_eq_true'] at ht
  unfold innerX
  rcases ht with ht | ht
  · rw [if_pos (show x = NONE from ht)]; exact .inl rfl
  · split
    · exact .inl rfl
    · right
      unfold outB at ht
      simp only [Bool.or_eq_false_iff, decide_eq_false_iff_not] at ht
      omega
theorem tame_sq {m : IMat} (h0 : matE m = 0) (ht : tameM m = true) : SqOk m.length 999999 (insideM m) := by
  obtain ⟨h24, hr⟩ := matE_ok h0
  refine ⟨by simp [insideM], fun r hrm => (insideM_ok h0 r hrm).1, fun r hrm x hx => ?_⟩
  obtain ⟨s, hs, rfl⟩ := List.mem_map.1 hrm
  obtain ⟨y, hy, rfl⟩ := List.mem_map.1 hx
  exact tameX_bd ((hr s hs).2 y hy) (List.all_eq_true.1 (List.all_eq_true.1 ht s hs) y hy)
theorem WalkP.abs {m : IMat} {n : Nat} {B : Int} (h : SqOk n B m) (hB : 0 ≤ B ∧ B ≤ 1000000000) : ∀ {l a b : Nat} {s : Int}, WalkP m n l a b s → -(B * l) ≤ s ∧ s ≤ B * l
  | 0, _, _, _, h0 => by rw [h0.2.2]; simp
  | l + 1, a, b, s, ⟨hb, k, hne, hw⟩ => by
    have hk := hw.ends.2
    have ih := WalkP.abs h hB hw
    have e : B * ((l + 1 : Nat) : Int) = B * (l : Int) + B := by rw [Int.natCast_add, Int.mul_add]; simp
    rw [e]
    rcases h.at_bd hb hk with g | g
    · exact absurd g hne
    · omega
section
variable {n : Nat} {m : IMat}
theorem mean_up (h : MatOk n m) (hn : n ≤ 24) (hf : (greatestF (insideM m)).found = true) : B3Ok (greatestF (insideM m)) ∧ Up (insideM m) n (greatestF (insideM m)).num (greatestF (insideM m)).den := by
  have hsq := h.sq
  have hg := greatestF_bd hsq hn
  refine ⟨hg, ?_⟩
  rcases mean_law h hn with ⟨_, h2⟩ | ⟨p, q, hr, _, hq, hd, hpq, ⟨cy, hcy, ep, eq⟩, _, _⟩
  · rw [hf] at h2; cases h2
  · have hU : Up (insideM m) n p q := by
      rw [ep, eq]
      exact up_of_cyc fun c f s hc => by
        obtain ⟨p', a1, a2, a3, a4⟩ := cyc_least h hc
        obtain ⟨y, e, h2⟩ := refMean_cov h a1 (fun i h0 hi => a4 i h0 (by omega))
        rw [hr, ep, eq] at e
        cases e
        rw [a3, natL_len, a2] at h2
        exact h2
    exact fun c v s hc hw => frac_trans hq (by omega) (by omega) (hU c v s hc hw) (by rw [hpq]; exact Int.le_refl _)
theorem no_walk (h : MatOk n m) (hn : n ≤ 24) (hf : (greatestF (insideM m)).found = false) {c v : Nat} {s : Int} (hc : 1 ≤ c) (hw : WalkP (insideM m) n c v v s) : False := by
  rcases mean_law h hn with ⟨hr, _⟩ | ⟨_, _, _, h2, _⟩
  · obtain ⟨c', f', s', hcy⟩ := cyc_of_walk c v s hc hw
    obtain ⟨p, a1, a2, a3, a4⟩ := cyc_least h hcy
    obtain ⟨y, e, _⟩ := refMean_cov h a1 (fun i h0 hi => a4 i h0 (by omega))
    rw [hr] at e
    cases e
  · rw [hf] at h2; cases h2
/-- what the law asks of the mean and its cycle -/
theorem alg_mean (h : MatOk n m) (hn : n ≤ 5) (hs : SqOk n 999999 (insideM m)) (hf : (greatestF (insideM m)).found = true) {own : List Int} (ho : own = tightF (lessM m (greatestF (insideM m))) (topF (lessM m (greatestF (insideM m))) n)) :
    CycOk n m own ∧ (1 ≤ own.length ∧ own.length ≤ 5) ∧ (-5000000 ≤ cycS m own ∧ cycS m own ≤ 5000000) ∧ 1 ≤ (greatestF (insideM m)).den ∧ cycS m own * (greatestF (insideM m)).den = (greatestF (insideM m)).num * (own.length : Int) ∧ Up (insideM m) n (cycS m own) (own.length : Int) ∧
      WalkP (insideM m) n own.length (own.getD 0 0).toNat (own.getD 0 0).toNat (cycS m own) := by
  subst ho
  obtain ⟨hg, hU⟩ := mean_up h (by omega) hf
  rcases mean_law h (by omega) with ⟨_, h2⟩ | ⟨p, q, _, _, _, hd, _, _, hown, hsum⟩
  · rw [hf] at h2; cases h2
  · generalize tightF (lessM m (greatestF (insideM m))) (topF (lessM m (greatestF (insideM m))) n) = own at *
    have hcy := cyc_of_list h hown
    have hne := hown.ne
    have hle := hcy.le
    have hw := hcy.walk
    have e0 : (own.getD (0 % own.length) 0).toNat = (own.getD 0 0).toNat := by rw [Nat.zero_mod]
    simp only [e0] at hw
    have hab := hw.abs hs (by omega)
    refine ⟨hown, ⟨hne, by omega⟩, by omega, by omega, hsum, fun c v s hc hwk => ?_, hw⟩
    exact frac_trans (by omega) (by omega) (by omega) (hU c v s hc hwk) (by rw [hsum]; exact Int.le_refl _)
end
end Go.Sheet
/- SheetAlgebra: what the law's calls answer. Plain. -/
namespace Go.Sheet
open Go.Proofs.YtlffgdmljioaoaaGreatDoor
theorem alg_eqs {a b : IMat} {x : List Int} {t : Nat} (h5 : a.length ≤ 5) (hl : b.length = a.length) (ha : matE a = 0) (hb : matE b = 0) (hx : listE a x = 0) (ta : tameM a = true) (tb : tameM b = true) (tx : tameM [x] = true) (ht : t ≤ 5) :
    ∃ (M1 M2 O P2 Pt : IMat) (Y1 Y2 : List Int), product a b = (M1, 0) ∧ product b a = (M2, 0) ∧ product M1 a = (O, 0) ∧ product a M2 = (O, 0) ∧ power a (t : Int) = (Pt, 0) ∧ power a ((t : Int) + 2) = (outM (powM (insideM a) (t + 2)), 0) ∧ power a 2 = (P2, 0) ∧
      product Pt P2 = (outM (powM (insideM a) (t + 2)), 0) ∧ applyM a x = (Y1, 0) ∧ applyM a Y1 = (Y2, 0) ∧ applyM P2 x = (Y2, 0) := by
  have sa := tame_sq ha ta
  have sb := tame_sq hb tb
  rw [hl] at sb
  generalize hn : a.length = n at *
  have ea : outM (insideM a) = a := out_inside fun r hr => ((matE_ok ha).2 r hr).2
  have eb : outM (insideM b) = b := out_inside fun r hr => ((matE_ok hb).2 r hr).2
  unfold listE at hx
  have hxl : x.length = n := by
    refine Classical.byContradiction fun h => ?_
    rw [if_pos (by rw [hn]; exact h)] at hx
    cases hx
  rw [if_neg (by rw [hn]; exact fun h => h hxl), entries_zero] at hx
  have ex : (innerL x).map outerX = x := by
    unfold innerL
    rw [List.map_map]
    refine (List.map_congr_left (g := id) fun y hy => ?_).trans (List.map_id x)
    have hb := entry_bdA (hx y hy)
    show outerX (innerX y) = y
    have hN : noth = -1125899906842624 := rfl
    unfold innerX outerX
    split
    · rename_i e; rw [if_pos rfl, e]
    · rw [if_neg]; rw [hN]; omega
  have xl : (innerL x).length = n := by rw [innerL, List.length_map]; exact hxl
  have xx : ∀ z ∈ innerL x, XB 999999 z := fun z hz => by
    obtain ⟨y, hy, rfl⟩ := List.mem_map.1 hz
    refine tameX_bd (hx y hy) ?_
    have := List.all_eq_true.1 tx x (List.mem_singleton.2 rfl)
    exact List.all_eq_true.1 this y hy
  generalize insideM a = A at *
  generalize insideM b = B at *
  generalize innerL x = X at *
  have sab := matMul_sq (by omega) sa sb
  have sba := matMul_sq (by omega) sb sa
  have spt := powM_sq (by omega) sa (show t ≤ 64 by omega)
  have sp2 := powM_sq (by omega) sa (show 2 ≤ 64 by omega)
  have hbt : (999999 : Int) * (t : Int) ≤ 999999 * 5 := Int.mul_le_mul_of_nonneg_left (by omega) (by omega)
  have hbt0 : (0 : Int) ≤ 999999 * (t : Int) := Int.mul_nonneg (by omega) (by omega)
  have hby := apply_bd sa (by omega) xx
  refine ⟨outM (matMul A B), outM (matMul B A), outM (matMul (matMul A B) A), outM (powM A 2), outM (powM A t), (A.map fun r => timesR r X).map outerX, (A.map fun r => timesR r (A.map fun r => timesR r X)).map outerX, ?_, ?_, ?_, ?_, ?_, ?_, ?_, ?_, ?_, ?_, ?_⟩
  · rw [← ea, ← eb]; exact prod_out sa sb (by omega) (by omega) (by omega) (by omega)
  · rw [← ea, ← eb]; exact prod_out sb sa (by omega) (by omega) (by omega) (by omega)
  · rw [← ea]; exact prod_out sab sa (by omega) (by omega) (by omega) (by omega)
  · rw [matMul_assoc (by omega) (by omega) (by omega) sa sb sa, ← ea]
    exact prod_out sa sba (by omega) (by omega) (by omega) (by omega)
  · rw [← ea]; exact pow_out sa (by omega) (by omega) (by omega) (by omega) (by omega)
  · have := pow_out (t := t + 2) sa (by omega) (by omega) (by rw [Int.natCast_add, Int.mul_add]; omega) (by omega) (by omega)
    rw [ea] at this
    exact this
  · have := pow_out (t := 2) sa (by omega) (by omega) (by omega) (by omega) (by omega)
    rw [ea] at this
    exact this
  · rw [prod_out spt sp2 hbt0 (by omega) (by omega) (by omega), powM_two (by omega) sa (by omega)]
  · rw [← ea, ← ex]; exact apply_out sa (by omega) (by omega) (by omega) (by omega) xl xx
  · rw [← ea]; exact apply_out sa (by omega) (by omega) (by omega) (by omega) hby.1 hby.2
  · rw [← ex, apply_out sp2 (by omega) (by omega) (by omega) (by omega) xl xx, apply_two (by omega) (by omega) sa xl xx]
/-- an entry of a power in the diagonal -/
theorem alg_entry {n l i : Nat} {A : IMat} (hs : SqOk n 999999 A) (hl : l ≤ 64) (hi : i < n) : ∃ r, (outM (powM A l))[i]? = some r ∧ r.length = n ∧ r[i]? = some (outerX (at2 (powM A l) i i)) := by
  have sp := powM_sq (by omega) hs hl
  have hil : i < (powM A l).length := by rw [sp.n_eq]; exact hi
  have hrl := sp.len _ (List.getElem_mem hil)
  refine ⟨((powM A l)[i]).map outerX, ?_, ?_, ?_⟩
  · unfold outM; rw [List.getElem?_map, List.getElem?_eq_getElem hil]; rfl
  · rw [List.length_map]; exact hrl
  · rw [List.getElem?_map, List.getElem?_eq_getElem (by omega), at2_row hil, List.getD_eq_getElem?_getD, List.getElem?_eq_getElem (by omega)]
    rfl
theorem alg_walk {n l i : Nat} {A : IMat} (hs : SqOk n 999999 A) (hl : l ≤ 64) (hi : i < n) (hv : outerX (at2 (powM A l) i i) ≠ -1000000000) : WalkP A n l i i (outerX (at2 (powM A l) i i)) := by
  have hne : at2 (powM A l) i i ≠ noth := fun e => hv (by unfold outerX; rw [if_pos e]; rfl)
  have e : outerX (at2 (powM A l) i i) = at2 (powM A l) i i := by unfold outerX; rw [if_neg hne]
  rw [e]
  exact ((powM_walk (by omega) hs l hl i i hi hi).1 hne)
theorem txtL_one (v : Int) : txtL v 1 = Lib.itoa v := by
  unfold txtL
  have e : Nat.gcd v.natAbs (1 : Int).natAbs = 1 := Nat.gcd_one_right _
  rw [e]
  simp
theorem tPQ_one (v : Int) : tPQ v 1 = Lib.itoa v := by unfold tPQ; rw [if_pos rfl, List.append_nil]
/-- what the law asks of the mean's text -/
theorem alg_text {P : Int} {L : Nat} (hL : 1 ≤ L ∧ L ≤ 5) (hP : -5000000 ≤ P ∧ P ≤ 5000000) : ∃ P' Q' : Int, txtL P (L : Int) = tPQ P' Q' ∧ (1 ≤ Q' ∧ Q' ≤ 5) ∧ (-5000000 ≤ P' ∧ P' ≤ 5000000) ∧ Nat.gcd P'.natAbs Q'.natAbs = 1 ∧
    (∀ (v : Int) (k : Nat), v * L ≤ P * (k : Int) → ¬ ((k : Int) * P') * 1 < v * (1 * Q')) ∧ txtL ((L : Int) * P') (1 * Q') = Lib.itoa P := by
  obtain ⟨P', Q', e1, hQ1, hQq, hPp, hc, hcr⟩ := low_tPQ P (L : Int) (by omega)
  refine ⟨P', Q', e1, by omega, by omega, hc, fun v k h => ?_, ?_⟩
  · rw [Int.mul_one, Int.one_mul, Int.not_lt]
    have h1 : v * L * Q' ≤ P * k * Q' := Int.mul_le_mul_of_nonneg_right h (by omega)
    have h2 : P * k * Q' = (k * P') * L := by
      calc P * k * Q' = (P * Q') * k := by ac_rfl
        _ = (P' * L) * k := by rw [hcr]
        _ = (k * P') * L := by ac_rfl
    have h3 : v * L * Q' = (v * Q') * L := by ac_rfl
    rw [h2, h3] at h1
    exact Int.le_of_mul_le_mul_right h1 (by omega)
  · rw [← txtL_one]
    refine txtL_eq (by omega) (by omega) ?_
    rw [Int.mul_one, Int.one_mul, Int.mul_comm (L : Int), hcr]
end Go.Sheet
