/- The reference's matrices of max-plus are the program's: plain law. -/
import Derived.Test.YtjfhncnpmelopaaGreatDoorB18
import Derived.Test.YtjfhncnpmelopaaGreatDoorB19
import Derived.Test.YtjfhncnpmelopaaGreatDoorB17
import Derived.Test.YtjfhncnpmelopaaGreatDoorB11
import Derived.Test.YtjfhncnpmelopaaGreatDoorB14
import Derived.Test.YtjfhncnpmelopaaGreatDoorB10
set_option linter.unusedVariables false
set_option linter.unusedSimpArgs false
set_option linter.unusedSectionVars false
set_option linter.constructorNameAsVariable false
namespace Go.Sheet
def hole : Int := -1000000000000000
/-- the reference's number for the program's -/
def swapX (x : Int) : Int := if x = noth then hole else x
def swapM (m : IMat) : IMat := m.map fun r => r.map swapX
def unlX (n : Int) : Int := if n = NONE then hole else n
def unlM (m : IMat) : IMat := m.map fun r => r.map unlX
def rstep (acc a b : Int) : Int := if hole < a ∧ hole < b then max acc (a + b) else acc
def rdot : Int → List Int → List Int → Int
  | acc, a :: xs, b :: ys => rdot (rstep acc a b) xs ys
  | acc, _, _ => acc
def rmul (a b : IMat) : IMat := a.map fun r => (List.range a.length).map fun k => rdot hole r (col b k)
def limBad (n : Int) : Bool := !(n == hole) && (decide (n < -999999999) || decide (999999999 < n))
def limX (n : Int) : Int := if n = hole then NONE else n
def limL (l : List Int) : List Int × Int := if l.any limBad then ([], 4) else (l.map limX, 0)
def limM (m : IMat) : IMat × Int := if m.any (fun r => r.any limBad) then ([], 4) else (m.map fun r => r.map limX, 0)
def runit (n : Nat) : IMat := (List.range n).map fun i => (List.range n).map fun k => if i = k then 0 else hole
def rpow (own : IMat) : Nat → IMat
  | 0 => runit own.length
  | n + 1 => rmul (rpow own n) own
def astep (acc a b : Int) : Int := if a = NONE ∨ b = NONE then acc else max acc (a + b)
def adot : Int → List Int → List Int → Int
  | acc, a :: xs, b :: ys => adot (astep acc a b) xs ys
  | acc, _, _ => acc
def rapply (m : IMat) (x : List Int) : List Int := m.map fun r => adot hole r x
theorem unlX_swap {n : Int} (h : entryE n = 0) : unlX n = swapX (innerX n) := by
  unfold unlX swapX innerX
  unfold entryE at h
  by_cases h1 : n = NONE
  · rw [if_pos h1, if_pos h1, if_pos rfl]
  · rw [if_neg h1] at h ⊢
    have := (outE_zero _ _ _).1 h
    rw [if_neg h1, if_neg (by unfold noth; omega)]
theorem unlM_swap {m : IMat} (h : matE m = 0) : unlM m = swapM (insideM m) := by
  have hm := (matE_ok h).2
  rw [unlM, swapM, insideM, List.map_map]
  refine List.map_congr_left fun r hr => ?_
  show r.map unlX = (innerL r).map swapX
  rw [innerL, List.map_map]
  exact List.map_congr_left fun x hx => unlX_swap ((hm r hr).2 x hx)
theorem swap_step {A B C acc x y : Int} (hA : XB A x) (hB : XB B y) (hC : XB C acc) (bA : 0 ≤ A ∧ A ≤ 100000000000) (bB : 0 ≤ B ∧ B ≤ 100000000000) (bC : 0 ≤ C ∧ C ≤ 300000000000) :
    swapX (max acc (prodX x y)) = rstep (swapX acc) (swapX x) (swapX y) := by
  have hn : noth = -1125899906842624 := rfl
  have hh : hole = -1000000000000000 := rfl
  unfold XB at hA hB hC
  by_cases hx : x = noth
  · have e1 : prodX x y = noth := by rw [prodX, if_pos (Or.inl hx)]
    have e2 : max acc noth = acc := by omega
    have e3 : swapX x = hole := by rw [swapX, if_pos hx]
    rw [e1, e2, rstep, if_neg (by omega)]
  · by_cases hy : y = noth
    · have e1 : prodX x y = noth := by rw [prodX, if_pos (Or.inr hy)]
      have e2 : max acc noth = acc := by omega
      have e3 : swapX y = hole := by rw [swapX, if_pos hy]
      rw [e1, e2, rstep, if_neg (by omega)]
    · have e1 : prodX x y = x + y := by
        rw [prodX, if_neg]
        rintro (h | h)
        · exact hx h
        · exact hy h
      have e3 : swapX x = x := by rw [swapX, if_neg hx]
      have e4 : swapX y = y := by rw [swapX, if_neg hy]
      rw [e1, e3, e4, rstep, if_pos (by omega)]
      by_cases ha : acc = noth
      · have e5 : swapX acc = hole := by rw [swapX, if_pos ha]
        rw [e5, swapX, if_neg (by omega)]; omega
      · have e5 : swapX acc = acc := by rw [swapX, if_neg ha]
        rw [e5, swapX, if_neg (by omega)]
theorem rdot_swap {A B : Int} (bA : 0 ≤ A ∧ A ≤ 100000000000) (bB : 0 ≤ B ∧ B ≤ 100000000000) : ∀ (r x : List Int) (acc : Int), XB (A + B) acc → (∀ y ∈ r, XB A y) → (∀ y ∈ x, XB B y) →
    rdot (swapX acc) (r.map swapX) (x.map swapX) = swapX (timesF acc r x)
  | [], x, acc, _, _, _ => by simp [rdot, timesF]
  | r :: rs, [], acc, _, _, _ => by simp [rdot, timesF]
  | r :: rs, x :: xs, acc, h, hr, hx => by
    have h1 := hr r (List.mem_cons_self ..)
    have h2 := hx x (List.mem_cons_self ..)
    rw [List.map_cons, List.map_cons, rdot, ← swap_step h1 h2 h bA bB (by omega), timesF]
    exact rdot_swap bA bB rs xs _ (max_bd (by omega) h (prodX_bd h1 h2)) (fun y hy => hr y (List.mem_cons_of_mem _ hy)) (fun y hy => hx y (List.mem_cons_of_mem _ hy))
theorem col_swap {b : IMat} {n k : Nat} (hk : k < n) (hl : ∀ r ∈ b, r.length = n) : col (swapM b) k = (col b k).map swapX := by
  rw [col, col, swapM, List.map_map, List.map_map]
  refine List.map_congr_left fun r hr => ?_
  show (r.map swapX).getD k 0 = swapX (r.getD k 0)
  have := hl r hr
  rw [List.getD_eq_getElem?_getD, List.getD_eq_getElem?_getD, List.getElem?_map, List.getElem?_eq_getElem (by omega)]; rfl
theorem col_bd {b : IMat} {n k : Nat} {B : Int} (hk : k < n) (h : XOk n B b) : ∀ y ∈ col b k, XB B y := by
  intro y hy
  obtain ⟨r, hr, rfl⟩ := List.mem_map.1 hy
  have hl := h.len r hr
  rw [List.getD_eq_getElem?_getD, List.getElem?_eq_getElem (by omega), Option.getD_some]
  exact h.bd r hr _ (List.getElem_mem _)
theorem noth_swap : swapX noth = hole := by simp [swapX]
theorem rmul_swap {a b : IMat} {n : Nat} {A B : Int} (bA : 0 ≤ A ∧ A ≤ 100000000000) (bB : 0 ≤ B ∧ B ≤ 100000000000) (ha : XOk n A a) (hb : XOk n B b) (la : a.length = n) (lb : b.length = n) :
    rmul (swapM a) (swapM b) = swapM (matMul a b) := by
  have hal : (swapM a).length = a.length := by simp [swapM]
  rw [rmul, hal]
  simp only [swapM, matMul, List.map_map]
  refine List.map_congr_left fun r hr => ?_
  show (List.range a.length).map (fun k => rdot hole (r.map swapX) (col (swapM b) k)) = ((List.range b.length).map fun k => timesR r (col b k)).map swapX
  rw [List.map_map, la, lb]
  refine List.map_congr_left fun k hk => ?_
  show rdot hole (r.map swapX) (col (swapM b) k) = swapX (timesR r (col b k))
  have hk' : k < n := List.mem_range.1 hk
  rw [col_swap hk' hb.len, ← noth_swap]
  exact rdot_swap bA bB r (col b k) noth (.inl rfl) (fun y hy => ha.bd r hr y hy) (col_bd hk' hb)
theorem matMul_ok {a b : IMat} {n : Nat} {A B : Int} (bAB : A + B ≤ 1125899906842624) (ha : XOk n A a) (hb : XOk n B b) (lb : b.length = n) : XOk n (A + B) (matMul a b) := by
  constructor
  · intro r hr
    obtain ⟨s, hs, rfl⟩ := List.mem_map.1 hr
    rw [List.length_map, List.length_range, lb]
  · intro r hr x hx
    obtain ⟨s, hs, rfl⟩ := List.mem_map.1 hr
    obtain ⟨k, hk, rfl⟩ := List.mem_map.1 hx
    have hk' : k < n := by rw [← lb]; exact List.mem_range.1 hk
    exact timesF_bd bAB s (col b k) noth (.inl rfl) (fun y hy => ha.bd s hs y hy) (col_bd hk' hb)
theorem matMul_len (a b : IMat) : (matMul a b).length = a.length := by simp [matMul]
theorem XOk.mono {n : Nat} {A B : Int} {m : IMat} (h : XOk n A m) (hAB : A ≤ B) : XOk n B m :=
  ⟨h.len, fun r hr x hx => by rcases h.bd r hr x hx with h | h; exact .inl h; right; omega⟩
theorem limBad_swap {C x : Int} (h : XB C x) (bC : 0 ≤ C ∧ C ≤ 300000000000) : limBad (swapX x) = outerBad x ∧ limX (swapX x) = outerX x := by
  unfold limBad outerBad limX outerX swapX hole
  unfold XB noth at *
  by_cases hx : x = -1125899906842624
  · subst hx; decide
  · rw [if_neg hx, if_neg hx, if_neg (by omega)]
    refine ⟨?_, rfl⟩
    congr 2
    rw [Bool.eq_iff_iff]; simp only [beq_iff_eq]; omega
theorem limM_swap {n : Nat} {C : Int} {m : IMat} (h : XOk n C m) (bC : 0 ≤ C ∧ C ≤ 300000000000) : limM (swapM m) = resultM m := by
  have e1 : (swapM m).any (fun r => r.any limBad) = m.any (fun r => r.any outerBad) := by
    rw [swapM, List.any_map, Bool.eq_iff_iff, List.any_eq_true, List.any_eq_true]
    constructor
    · rintro ⟨r, hr, hb⟩
      refine ⟨r, hr, ?_⟩
      simp only [Function.comp, List.any_map, List.any_eq_true] at hb ⊢
      obtain ⟨x, hx, hbx⟩ := hb
      exact ⟨x, hx, by rw [← (limBad_swap (h.bd r hr x hx) bC).1]; exact hbx⟩
    · rintro ⟨r, hr, hb⟩
      refine ⟨r, hr, ?_⟩
      simp only [Function.comp, List.any_map, List.any_eq_true] at hb ⊢
      obtain ⟨x, hx, hbx⟩ := hb
      exact ⟨x, hx, by rw [(limBad_swap (h.bd r hr x hx) bC).1]; exact hbx⟩
  have e2 : (swapM m).map (fun r => r.map limX) = m.map fun r => r.map outerX := by
    rw [swapM, List.map_map]
    refine List.map_congr_left fun r hr => ?_
    show (r.map swapX).map limX = r.map outerX
    rw [List.map_map]
    exact List.map_congr_left fun x hx => (limBad_swap (h.bd r hr x hx) bC).2
  rw [limM, resultM, e1, e2]
theorem insideM_xok {m : IMat} (h : matE m = 0) : XOk m.length 999999999 (insideM m) := ⟨fun r hr => (insideM_ok h r hr).1, fun r hr x hx => (insideM_ok h r hr).2 x hx⟩
/-- THE LAW of Product -/
theorem product_ref {a b : IMat} (ha : matE a = 0) (hb : matE b = 0) (hl : a.length = b.length) : product a b = limM (rmul (unlM a) (unlM b)) := by
  have xa := insideM_xok ha
  have xb := insideM_xok hb
  rw [← hl] at xb
  have la : (insideM a).length = a.length := by simp [insideM]
  have lb : (insideM b).length = a.length := by simp [insideM, hl]
  rw [unlM_swap ha, unlM_swap hb, rmul_swap (by omega) (by omega) xa xb la lb, limM_swap (matMul_ok (by omega) xa xb lb) (by omega), product]
  have e : fst [matE a, matE b, whenE (decide (a.length ≠ b.length)) 2] = 0 := by simp [fst, ha, hb, hl, whenE]
  rw [if_neg (by rw [e]; simp)]
theorem runit_swap (n : Nat) : runit n = swapM (unitM n) := by
  rw [runit, swapM, unitM, List.map_map]
  refine List.map_congr_left fun i hi => ?_
  show _ = ((List.replicate n noth).set i 0).map swapX
  refine List.ext_getElem (by simp) fun k h1 h2 => ?_
  have hk : k < n := by simpa using h1
  simp only [List.getElem_map, List.getElem_range, List.getElem_set, List.getElem_replicate]
  by_cases h : i = k
  · rw [if_pos h, if_pos h]; rfl
  · rw [if_neg h, if_neg h]; exact noth_swap.symm
theorem unitM_xok (n : Nat) : XOk n 0 (unitM n) := by
  constructor
  · intro r hr
    obtain ⟨i, hi, rfl⟩ := List.mem_map.1 hr
    simp
  · intro r hr x hx
    obtain ⟨i, hi, rfl⟩ := List.mem_map.1 hr
    rcases List.mem_or_eq_of_mem_set hx with h | h
    · exact .inl (List.eq_of_mem_replicate h)
    · exact .inr (by omega)
theorem unitM_len (n : Nat) : (unitM n).length = n := by simp [unitM]
theorem powM_ok {own : IMat} {A : Int} {n : Nat} (h0 : 0 ≤ A ∧ A ≤ 1000000000) (h : XOk n A own) (hl : own.length = n) : ∀ t : Nat, t ≤ 64 → XOk n (A * t) (powM own t) ∧ (powM own t).length = n := by
  intro t
  induction t with
  | zero => intro _; rw [powM, hl]; exact ⟨(unitM_xok n).mono (by omega), unitM_len n⟩
  | succ t ih =>
    intro ht
    obtain ⟨h1, h2⟩ := ih (by omega)
    have hb : A * (t : Int) ≤ 1000000000 * 64 := Int.mul_le_mul h0.2 (by omega) (by omega) (by omega)
    rw [powM]
    refine ⟨?_, by rw [matMul_len, h2]⟩
    have := matMul_ok (by omega) h1 h hl
    rw [show A * ((t + 1 : Nat) : Int) = A * t + A by rw [Int.natCast_add, Int.mul_add]; simp]
    exact this
theorem rpow_swap {own : IMat} {A : Int} {n : Nat} (h0 : 0 ≤ A ∧ A ≤ 1000000000) (h : XOk n A own) (hl : own.length = n) : ∀ t : Nat, t ≤ 64 → rpow (swapM own) t = swapM (powM own t) := by
  intro t
  induction t with
  | zero => intro _; rw [rpow, powM, ← runit_swap]; simp [swapM]
  | succ t ih =>
    intro ht
    obtain ⟨h1, h2⟩ := powM_ok h0 h hl t (by omega)
    have hb : A * (t : Int) ≤ 1000000000 * 64 := Int.mul_le_mul h0.2 (by omega) (by omega) (by omega)
    have hb0 : 0 ≤ A * (t : Int) := Int.mul_nonneg h0.1 (by omega)
    rw [rpow, ih (by omega), powM, rmul_swap ⟨hb0, by omega⟩ (by omega) h1 h h2 hl]
/-- THE LAW of Power -/
theorem power_ref {m : IMat} {n : Int} (hm : matE m = 0) (hn : 0 ≤ n ∧ n ≤ 64) : power m n = limM (rpow (unlM m) n.toNat) := by
  have xm := insideM_xok hm
  have lm : (insideM m).length = m.length := by simp [insideM]
  have hn' : n.toNat ≤ 64 := by omega
  have hb : (999999999 : Int) * (n.toNat : Int) ≤ 1000000000 * 64 := by omega
  rw [unlM_swap hm, rpow_swap (by omega) xm lm _ hn', limM_swap (powM_ok (by omega) xm lm _ hn').1 (by omega), power]
  have e : fst [matE m, outE n 0 64] = 0 := by
    have : outE n 0 64 = 0 := (outE_zero _ _ _).2 hn
    simp [fst, hm, this]
  rw [if_neg (by rw [e]; simp)]
theorem swap_astep {C acc x y : Int} (hx : entryE x = 0) (hy : entryE y = 0) (hC : XB C acc) (bC : 0 ≤ C ∧ C ≤ 300000000000) :
    swapX (max acc (prodX (innerX x) (innerX y))) = astep (swapX acc) x y := by
  have h := swap_step (innerX_bd hx) (innerX_bd hy) hC (by omega) (by omega) bC
  rw [h, ← unlX_swap hx, ← unlX_swap hy]
  unfold rstep astep unlX
  have e1 : ∀ n : Int, entryE n = 0 → (hole < (if n = NONE then hole else n) ↔ n ≠ NONE) := fun n hn => by
    unfold entryE at hn
    by_cases h : n = NONE
    · rw [if_pos h]; simp [h]
    · rw [if_neg h] at hn ⊢
      have := (outE_zero _ _ _).1 hn
      constructor
      · intro _; exact h
      · intro _; unfold hole; omega
  by_cases h1 : x = NONE
  · rw [if_neg (by rw [e1 x hx]; simp [h1]), if_pos (.inl h1)]
  · by_cases h2 : y = NONE
    · rw [if_neg (by rw [e1 y hy]; simp [h2]), if_pos (.inr h2)]
    · rw [if_pos ⟨(e1 x hx).2 h1, (e1 y hy).2 h2⟩, if_neg h1, if_neg h2, if_neg]
      rintro (q | q)
      · exact h1 q
      · exact h2 q
theorem adot_swap : ∀ (r x : List Int) (acc : Int), XB 1999999998 acc → (∀ y ∈ r, entryE y = 0) → (∀ y ∈ x, entryE y = 0) →
    adot (swapX acc) r x = swapX (timesF acc (innerL r) (innerL x))
  | [], x, acc, _, _, _ => by simp [adot, timesF, innerL]
  | r :: rs, [], acc, _, _, _ => by simp [adot, timesF, innerL]
  | r :: rs, x :: xs, acc, h, hr, hx => by
    have h1 := hr r (List.mem_cons_self ..)
    have h2 := hx x (List.mem_cons_self ..)
    rw [adot, ← swap_astep h1 h2 h (by omega)]
    show _ = swapX (timesF (max acc (prodX (innerX r) (innerX x))) (innerL rs) (innerL xs))
    exact adot_swap rs xs _ (max_bd (by omega) h (prodX_bd (innerX_bd h1) (innerX_bd h2))) (fun y hy => hr y (List.mem_cons_of_mem _ hy)) (fun y hy => hx y (List.mem_cons_of_mem _ hy))
theorem limL_swap {C : Int} {l : List Int} (h : ∀ x ∈ l, XB C x) (bC : 0 ≤ C ∧ C ≤ 300000000000) : limL (l.map swapX) = outerL l := by
  have e1 : (l.map swapX).any limBad = l.any outerBad := by
    rw [List.any_map, Bool.eq_iff_iff, List.any_eq_true, List.any_eq_true]
    constructor
    · rintro ⟨x, hx, hb⟩
      exact ⟨x, hx, by rw [← (limBad_swap (h x hx) bC).1]; exact hb⟩
    · rintro ⟨x, hx, hb⟩
      exact ⟨x, hx, by simp only [Function.comp]; rw [(limBad_swap (h x hx) bC).1]; exact hb⟩
  have e2 : (l.map swapX).map limX = l.map outerX := by
    rw [List.map_map]
    exact List.map_congr_left fun x hx => (limBad_swap (h x hx) bC).2
  rw [limL, outerL, e1, e2]
/-- THE LAW of Apply -/
theorem apply_ref {m : IMat} {x : List Int} (hm : matE m = 0) (hl : x.length = m.length) (hx : ∀ y ∈ x, entryE y = 0) : applyM m x = limL (rapply m x) := by
  have hok := matE_ok hm
  have e : applyE m x = 0 := by
    have h3 : eachF (fun _ n => entryE n) 0 x = 0 := (eachF_zero _ _ _).2 fun k y hy => hx y (List.mem_of_getElem? hy)
    simp [applyE, fst, hm, hl, h3, whenE]
  rw [applyM, if_neg (by rw [e]; simp)]
  have h1 : rapply m x = ((insideM m).map fun r => timesR r (innerL x)).map swapX := by
    rw [rapply, insideM, List.map_map, List.map_map]
    refine List.map_congr_left fun r hr => ?_
    show adot hole r x = swapX (timesR (innerL r) (innerL x))
    rw [← noth_swap]
    exact adot_swap r x noth (.inl rfl) (hok.2 r hr).2 hx
  rw [h1]
  refine (limL_swap (C := 1999999998) (fun y hy => ?_) (by omega)).symm
  obtain ⟨r, hr, rfl⟩ := List.mem_map.1 hy
  have := timesF_bd (a := 999999999) (b := 999999999) (by omega) r (innerL x) noth (.inl rfl) (fun z hz => (insideM_ok hm r hr).2 z hz) (innerL_bd hx)
  exact this
end Go.Sheet
/- Walks: matrix, result, Product, Power. -/
namespace Go.Proofs.YtjfhncnpmelopaaGreatDoor
open Go.RowKit Go.Mem Go.Sheet
/-- a row of a table, now and later -/
theorem row_of {w : World} {A : Option Addr} {n c k : Nat} {m : IMat} {r : List Int} (h : RdRows w (· < w.heap.size) (.slice A n c) m) (hk : m[k]? = some r) :
    ∃ b o Ar cr, A = some ⟨b, o, none⟩ ∧ ∀ w', Below w.heap.size w w' → w'.cell? ⟨b, o + k, none⟩ = some (.slice Ar r.length cr) ∧ Rd w' (· < w'.heap.size) 1 (.slice Ar r.length cr) r.length (ints r) := by
  obtain ⟨vs, h1, h2⟩ := h
  obtain ⟨b, o, x, hA, hx, hc⟩ := h1.val (k := k) (List.getElem?_eq_some_iff.1 hk).1
  have hr := h2 k x r hx hk
  obtain ⟨Ar, cr, rfl, _, _, _⟩ := hr.open_
  exact ⟨b, o, Ar, cr, hA, fun w' hb => ⟨(hb.cell (p := ⟨b, o + k, none⟩) (World.block_lt_of_cell? _ _ hc)).trans hc, hr.later hb⟩⟩
theorem matMul_at {a b : IMat} {n k : Nat} {r : List Int} (lb : b.length = n) (h : a[k]? = some r) : (matMul a b)[k]? = some ((List.range n).map fun j => timesR r (col b j)) := by
  rw [matMul, List.getElem?_map, h, lb]; rfl
theorem col_snoc {b : IMat} {j k : Nat} {r : List Int} {x : Int} (h : b[j]? = some r) (hx : r[k]? = some x) : (col b k).take (j + 1) = (col b k).take j ++ [x] := by
  refine take_at ?_
  rw [col, List.getElem?_map, h]
  show some (r.getD k 0) = _
  rw [List.getD_eq_getElem?_getD, hx]; rfl
set_option maxRecDepth 100000 in
set_option maxHeartbeats 4000000 in
theorem matrix_any (W : World) (va vb : Value) (a b : IMat) (n : Nat) (A B : Int) (ha : RdRows W (· < W.heap.size) va a) (hb : RdRows W (· < W.heap.size) vb b) (la : a.length = n) (lb : b.length = n) (xa : XOk n A a) (xb : XOk n B b) (h24 : n ≤ 24) (h0 : 0 ≤ A) (h1 : 0 ≤ B) (hAB : A + B ≤ 1125899906842624) :
    Calls Tryz.prog 122 #[plusV, va, vb] W fun e w' => ∃ v', e = .returned v' ∧ Below W.heap.size W w' ∧ RdRows w' (· < w'.heap.size) v' (matMul a b) := by
  have hb1 := (Below.refl W.heap.size W).alloc (Nat.le_refl _) (.cells #[.func (.func 156) #[] #[], .func (.func 157) #[] #[], .int .i64 (-1125899906842624)] 179)
  have HA := Lib.hid (ha.later hb1)
  have HB := Lib.hid (hb.later hb1)
  obtain ⟨vsa, g1, _⟩ := ha
  obtain ⟨vsb, g3, _⟩ := hb
  rw [la] at g1
  rw [lb] at g3
  obtain ⟨Aa, ca, rfl, _, _, _⟩ := g1.open_
  obtain ⟨Ab, cb, rfl, _, _, _⟩ := g3.open_
  clear g1 g3
  have HXA := Lib.hid xa
  have HXB := Lib.hid xb
  have HLA := Lib.hid la
  have HLB := Lib.hid lb
  have HML : Hid ((matMul a b).length = n) := (matMul_len a b).trans la
  have HB1 := Lib.hid hb1
  clear xa xb la lb hb1
  have c0 : (W.alloc (.cells #[.func (.func 156) #[] #[], .func (.func 157) #[] #[], .int .i64 (-1125899906842624)] 179)).cell? ⟨W.heap.size, 0, none⟩ = some (.func (.func 156) #[] #[]) := by simp
  have c1 : (W.alloc (.cells #[.func (.func 156) #[] #[], .func (.func 157) #[] #[], .int .i64 (-1125899906842624)] 179)).cell? ⟨W.heap.size, 1, none⟩ = some (.func (.func 157) #[] #[]) := by simp
  have c2 : (W.alloc (.cells #[.func (.func 156) #[] #[], .func (.func 157) #[] #[], .int .i64 (-1125899906842624)] 179)).cell? ⟨W.heap.size, 2, none⟩ = some (.int .i64 (-1125899906842624)) := by simp
  go_enter Tryz.func122, Tryz.ntmps122
  go_wp2_with fail
  generalize W.alloc (.cells #[.func (.func 156) #[] #[], .func (.func 157) #[] #[], .int .i64 (-1125899906842624)] 179) = W1 at *
  have hg0 : W.heap.size < W1.heap.size := World.block_lt_of_cell? W1 _ c0
  have HK : Hid (∀ w', Below W1.heap.size W1 w' → w'.cell? ⟨W.heap.size, 0, none⟩ = some (.func (.func 156) #[] #[]) ∧ w'.cell? ⟨W.heap.size, 1, none⟩ = some (.func (.func 157) #[] #[]) ∧ w'.cell? ⟨W.heap.size, 2, none⟩ = some (.int .i64 (-1125899906842624))) :=
    fun w' hb => ⟨(hb.cell (p := ⟨W.heap.size, 0, none⟩) hg0).trans c0, (hb.cell (p := ⟨W.heap.size, 1, none⟩) hg0).trans c1, (hb.cell (p := ⟨W.heap.size, 2, none⟩) hg0).trans c2⟩
  have HBW : Hid (∀ w', Below W1.heap.size W1 w' → Below W.heap.size W w') := fun w' hb => HB1.out.trans (hb.mono HB1.out.size)
  clear c0 c1 c2 hg0 HB1
  generalize W.heap.size = gp at HK ⊢
  have S0 := (St.refl W1).row_nil 33 1
  go_loopw [15, 7] (fun i v w' => ∃ (k : Nat) (vs : List Value), k ≤ n ∧ i = .int .i64 k ∧ Hid (vs.length = k) ∧ St W1 w' ([row 33 1 v k vs] ++ ownT 3 vs ((matMul a b).take k))) (fun i _ _ => n - (intOf i).toNat)
  case atStart => exact ⟨0, [], Nat.zero_le _, rfl, rfl, S0⟩
  case round =>
    obtain ⟨k, vs, hk, rfl, HV, S⟩ := hrel
    clear S0
    by_cases hlt : k < n
    · have hka : k < a.length := by rw [HLA.out]; exact hlt
      have hra : a[k]? = some a[k] := List.getElem?_eq_getElem hka
      obtain ⟨ba, oa, Ar, cr, hAa, hrow⟩ := row_of HA.out hra
      subst hAa
      have hrl := HXA.out.len _ (List.getElem_mem hka)
      have hrb := HXA.out.bd _ (List.getElem_mem hka)
      have HMA := Lib.hid (matMul_at HLB.out hra)
      generalize a[k] = r at *
      rw [hrl] at hrow
      have HRL := Lib.hid hrl
      have HRB := Lib.hid hrb
      have HROW := Lib.hid hrow
      obtain ⟨RW, hRW⟩ : ∃ RW, (List.range n).map (fun j => timesR r (col b j)) = RW := ⟨_, rfl⟩
      have HRW : Hid (RW.length = n ∧ ∀ j, j < n → RW[j]? = some (timesR r (col b j))) := by
        subst hRW
        refine ⟨by simp, fun j hj => ?_⟩
        rw [List.getElem?_map, List.getElem?_range hj]; rfl
      rw [hRW] at HMA
      have HS := Lib.hid S
      clear hra hrl hrb hrow hka hRW S
      obtain ⟨wA, hwA⟩ : ∃ w, w = wr := ⟨_, rfl⟩
      subst hwA
      go_wp2_with fail
      have S1 := (St.refl wA).row_nil 3 1
      have HBR := Lib.hid HS.out.bel
      go_loopw [20, 9] (fun i v w' => ∃ (m : Nat), m ≤ n ∧ i = .int .i64 m ∧ St wA w' [row 3 1 v m (ints (RW.take m))]) (fun i _ _ => n - (intOf i).toNat)
      case atStart => exact ⟨0, Nat.zero_le _, rfl, S1⟩
      case round =>
        obtain ⟨m, hm, rfl, S2⟩ := hrel
        clear S1
        obtain ⟨wB, hwB⟩ : ∃ w, w = wr := ⟨_, rfl⟩
        subst hwB
        have HS2 := Lib.hid S2
        have HBR2 := Lib.hid (HBR.out.trans (S2.bel.mono HBR.out.size))
        clear S2
        by_cases hml : m < n
        · go_wp2_with fail
          have S3 := (St.refl wB).row_nil 3 1
          go_loopw [25, 11] (fun i v w' => ∃ (j : Nat), j ≤ n ∧ i = .int .i64 j ∧ St wB w' [row 3 1 v j (ints ((col b m).take j))]) (fun i _ _ => n - (intOf i).toNat)
          case atStart => exact ⟨0, Nat.zero_le _, rfl, S3⟩
          case round =>
            obtain ⟨j, hj, rfl, S4⟩ := hrel
            clear S3
            have HBR3 := Lib.hid (HBR2.out.trans (S4.bel.mono HBR2.out.size))
            by_cases hjl : j < n
            · have hjb : j < b.length := by rw [HLB.out]; exact hjl
              have hrbj : b[j]? = some b[j] := List.getElem?_eq_getElem hjb
              obtain ⟨bb, ob, bb', ob', cb', x, hAb, k1, hcb', hx, k2⟩ := rows_at (HB.out.later HBR3.out) hrbj (HXB.out.len _ (List.getElem_mem hjb)) hml
              subst hAb
              have HCS := Lib.hid (col_snoc hrbj hx)
              clear hrbj hx hjb
              go_wp2_with (at_builtin; refine wpList_append_st eltI rfl _ _ rfl rfl (S4.alloc _) (k := 0) rfl rfl (rd_one (by simp)) (one_int _ _) (by omega) (by omega) ?_; intro v' w' S' _)
              go_roundw
              case rel => exact ⟨j + 1, by omega, by go_num, by rw [HCS.out]; simpa [ints] using S'⟩
              case measure => simp [intOf]; omega
            · obtain rfl : j = n := by omega
              have hcl : (col b m).length = j := by rw [col, List.length_map]; exact HLB.out
              rw [List.take_of_length_le (by omega)] at S4
              have hvc := (S4.row_rd (i := 0) rfl).now
              have hcb : ∀ y ∈ col b m, XB B y := col_bd hml HXB.out
              obtain ⟨Av, cv, rfl, _, _, _⟩ := hvc.open_
              obtain ⟨d0, d1⟩ := HROW.out _ HBR3.out
              obtain ⟨p0, p1, p2⟩ := HK.out _ HBR3.out
              have hC : ∀ w, Below wr.heap.size wr w → Calls Tryz.prog 111 #[plusV, .slice Ar j cr, .slice Av j cv] w fun e w' => e = .returned (.int .i64 (timesR r (col b m))) ∧ Below w.heap.size w w' := fun w hw =>
                times_any w _ _ (.slice Ar j cr) (.slice Av j cv) r (col b m) A B (by rw [HRL.out]; exact d1.later hw) (by rw [hcl]; exact hvc.later hw) (by rw [HRL.out, hcl]; exact Nat.le_refl _) HRB.out hcb h0 h1 hAB
              have HC := Lib.hid hC
              have z0 := World.block_lt_of_cell? _ _ d0
              have z1 := World.block_lt_of_cell? _ _ p0
              have HS4 := Lib.hid ((HS2.out.call S4).sub (L' := [_]) (List.sublist_append_left [_] [_]))
              have HTM := Lib.hid (HRW.out.2 m hml)
              clear hvc hcb d1 hC S4 hcl
              generalize timesR r (col b m) = tv at *
              have tjj : decide ((j : Int) < (j : Int)) = false := by simp
              go_wp2_with fail
              clear tjj
              refine wp_pre_tail 1 8 (fun w' => Below wr.heap.size wr w') (by kernel_rfl) (by kernel_rfl) (Below.refl _ _).drew ?_
              simp only [List.take_succ_cons, List.take_zero, List.drop_succ_cons, List.drop_zero, Nat.reduceSub]
              generalize hK : (fun w' => Below wr.heap.size wr w') = K
              intro hne
              have kb : ∀ y : Wd K, Below wr.heap.size wr y.w := by subst hK; exact fun y => y.h
              have hK3 : ∀ w w', K w → Below w.heap.size w w' → K w' := by subst hK; exact fun w w' h h' => h.trans (h'.mono h.size)
              have y0 : ∀ y : Wd K, y.w.cell? ⟨ba, oa + k, none⟩ = some (.slice Ar j cr) := fun y => ((kb y).cell (p := ⟨ba, oa + k, none⟩) z0).trans d0
              have y1 : ∀ y : Wd K, y.w.cell? ⟨gp, 0, none⟩ = some (.func (.func 156) #[] #[]) := fun y => ((kb y).cell (p := ⟨gp, 0, none⟩) z1).trans p0
              have y2 : ∀ y : Wd K, y.w.cell? ⟨gp, 1, none⟩ = some (.func (.func 157) #[] #[]) := fun y => ((kb y).cell (p := ⟨gp, 1, none⟩) z1).trans p1
              have y3 : ∀ y : Wd K, y.w.cell? ⟨gp, 2, none⟩ = some (.int .i64 (-1125899906842624)) := fun y => ((kb y).cell (p := ⟨gp, 2, none⟩) z1).trans p2
              have hC : ∀ y : Wd K, Calls Tryz.prog 111 #[plusV, .slice Ar j cr, .slice Av j cv] y.w fun e w' => e = .returned (.int .i64 tv) ∧ Below y.w.heap.size y.w w' := fun y => HC.out _ (kb y)
              clear hK d0 p0 p1 p2
              change wpQuiet _ _ _ _ (_ :: []) _
              go_big_quiet_step ((fail))
              refine wpQuiet_nil ?_
              repeat (go_big_quiet_step ((go_at_call 111; with_reducible exact cls_below hK3 (hC _))))
              refine wpQuiet_nil ?_
              intro y
              have S5 := HS4.out.ext (kb y)
              clear y0 y1 y2 y3 hC hK3 hne
              generalize y.w = w5 at *
              go_wp2_with (at_builtin; refine wpList_append_st eltI rfl _ _ rfl rfl (S5.alloc _) (k := 0) rfl rfl (rd_one (by simp)) (one_int _ _) (by omega) (by omega) ?_; intro v' w' S' _)
              refine NoPanic.normal ?_
              go_wp2
              go_roundw
              case rel => exact ⟨m + 1, by omega, by go_num, by rw [take_at HTM.out]; simpa [ints] using S'⟩
              case measure => simp [intOf]; omega
        · obtain rfl : m = n := by omega
          have S6 := HS.out.call HS2.out
          rw [List.take_of_length_le (Nat.le_of_eq HRW.out.1)] at S6
          obtain ⟨Av, cv, rfl, _, _, _⟩ := (HS2.out.row_rd (i := 0) rfl).open_
          have tjj : decide ((m : Int) < (m : Int)) = false := by simp
          have HS6 := Lib.hid S6
          clear S6
          go_wp2_with (at_builtin; refine wpList_append_st eltL rfl _ _ rfl rfl (HS6.out.alloc _) (k := 0) rfl rfl (rd_one (by simp)) one_slice (by omega) (by omega) ?_; intro v' w' S' _)
          go_roundw
          case rel =>
            refine ⟨k + 1, vs ++ [.slice Av m cv], by omega, by go_num, by show _ = _; simp [HV.out], ?_⟩
            rw [take_at HMA.out, ownT_snoc (by rw [HV.out, List.length_take, HML.out]; omega), HRW.out.1]
            simpa using S'
          case measure => simp [intOf]; omega
    · obtain rfl : k = n := by omega
      rw [List.take_of_length_le (Nat.le_of_eq HML.out)] at S
      have hrows := ownT_rows S (k := 0) rfl (by rw [HV.out, HML.out])
      have HRW := Lib.hid hrows
      have hbW := HBW.out _ S.bel
      have tkk : decide ((k : Int) < (k : Int)) = false := by simp
      clear S hrows
      go_wp2
      go_ret
      exact ⟨_, rfl, hbW, HRW.out⟩
theorem resultM_at {m : IMat} {k : Nat} {r : List Int} (h : m[k]? = some r) : (m.take (k + 1)).any (fun r => r.any outerBad) = ((m.take k).any (fun r => r.any outerBad) || r.any outerBad) ∧ (m.take (k + 1)).map (fun r => r.map outerX) = (m.take k).map (fun r => r.map outerX) ++ [r.map outerX] := by
  rw [take_at h]; simp
set_option maxRecDepth 100000 in
set_option maxHeartbeats 4000000 in
theorem result_any (W : World) (v : Value) (m : IMat) (h : RdRows W (· < W.heap.size) v m) (hl : m.length ≤ 1000) (hl2 : ∀ r ∈ m, r.length ≤ 1000) :
    Calls Tryz.prog 121 #[v] W (RetRows W (resultM m)) := by
  obtain ⟨vs0, g1, _⟩ := id h
  generalize hn : m.length = n at *
  obtain ⟨A, c, rfl, _, _, _⟩ := g1.open_
  have HH := Lib.hid h
  have HN := Lib.hid hn
  have HL2 := Lib.hid hl2
  have HRES : Hid (resultM m = if m.any (fun r => r.any outerBad) then ([], 4) else (m.map fun r => r.map outerX, 0)) := rfl
  clear h g1 hn hl2
  have S0 := (St.refl W).row_nil 33 1
  go_enter Tryz.func121, Tryz.ntmps121
  go_wp2_with fail
  go_loopw [11, 4] (fun i v w' => ∃ (k : Nat) (vs : List Value), k ≤ n ∧ i = .int .i64 k ∧ Hid (vs.length = k) ∧ Hid ((m.take k).any (fun r => r.any outerBad) = false) ∧ St W w' ([row 33 1 v k vs] ++ ownT 3 vs ((m.take k).map fun r => r.map outerX))) (fun i _ _ => n - (intOf i).toNat)
  case atStart => exact ⟨0, [], Nat.zero_le _, rfl, rfl, rfl, S0⟩
  case round =>
    obtain ⟨k, vs, hk, rfl, HV, HB, S⟩ := hrel
    clear S0
    by_cases hlt : k < n
    · have hkm : k < m.length := by rw [HN.out]; exact hlt
      have hr : m[k]? = some m[k] := List.getElem?_eq_getElem hkm
      obtain ⟨b, o, Ar, cr, hA, hrow⟩ := row_of HH.out hr
      subst hA
      obtain ⟨d0, d1⟩ := hrow _ S.bel
      have HG := Lib.hid (resultM_at hr)
      have hrl := HL2.out _ (List.getElem_mem hkm)
      have HRM : Hid (m[k].any outerBad = true → m.any (fun r => r.any outerBad) = true) := fun h => List.any_eq_true.2 ⟨_, List.getElem_mem hkm, h⟩
      generalize m[k] = r at *
      have HO := Lib.hid (outer_any wr _ r d1 (by omega))
      have HOL : Hid (outerL r = if r.any outerBad then ([], 4) else (r.map outerX, 0)) := rfl
      generalize outerL r = ol at *
      obtain ⟨ol1, ol2⟩ := ol
      have HS := Lib.hid S
      clear hr hkm hrow S d1
      go_wp2_with fail
      refine HO.out.mono ?_
      rintro e w3 ⟨v3, rfl, S3⟩
      dsimp only at *
      have S4 := HS.out.call S3
      obtain ⟨A3, c3, rfl, _, _, _⟩ := (S3.row_rd (i := 0) rfl).open_
      have hb4 := S4.bel
      have HS4 := Lib.hid S4
      have h63 := (S3.row_rd (i := 0) rfl).le
      clear S3 S4 d0 HO
      cases hbad : r.any outerBad with
      | true =>
        have h1 := HOL.out
        rw [hbad] at h1
        injection h1 with e1 e2
        subst e1 e2
        have HF : Hid (resultM m = ([], 4)) := by show _ = _; rw [HRES.out, if_pos (HRM.out hbad)]
        clear hbad
        go_wp2_with fail
        go_ret2
        rw [HF.out]
        exact ⟨_, rfl, hb4, RdRows.nil _⟩
      | false =>
        have h1 := HOL.out
        rw [hbad] at h1
        injection h1 with e1 e2
        subst e1 e2
        have HBD := Lib.hid hbad
        clear hbad
        go_wp2_with (at_builtin; refine wpList_append_st eltL rfl _ _ rfl rfl (HS4.out.alloc _) (k := 0) rfl rfl (rd_one (by simp)) one_slice (by omega) (by omega) ?_; intro v' w' S' _)
        go_roundw
        case rel =>
          refine ⟨k + 1, vs ++ [.slice A3 (r.map outerX).length c3], by omega, by go_num, by show _ = _; simp [HV.out], by show _ = _; rw [HG.out.1, HB.out, HBD.out]; rfl, ?_⟩
          rw [HG.out.2, ownT_snoc (by rw [HV.out, List.length_map, List.length_take, HN.out]; omega)]
          simpa [ints] using S'
        case measure => simp [intOf]; omega
    · obtain rfl : k = n := by omega
      have hB := HB.out
      rw [List.take_of_length_le (Nat.le_of_eq HN.out)] at S hB
      have hrows := ownT_rows S (k := 0) rfl (by rw [HV.out, List.length_map, HN.out])
      have HF : Hid (resultM m = (m.map fun r => r.map outerX, 0)) := by show _ = _; rw [HRES.out, if_neg (by rw [hB]; decide)]
      have HRW := Lib.hid hrows
      have hbW := S.bel
      have tkk : decide ((k : Int) < (k : Int)) = false := by simp
      clear S hrows hB
      go_wp2
      go_ret2
      rw [HF.out]
      exact ⟨_, rfl, hbW, HRW.out⟩
set_option maxRecDepth 100000 in
set_option maxHeartbeats 4000000 in
theorem product_any (W : World) (va vb : Value) (a b : IMat) (ha : RdRows W (· < W.heap.size) va a) (hb : RdRows W (· < W.heap.size) vb b) :
    Calls Tryz.prog 57 #[va, vb] W (RetRows W (product a b)) := by
  have HMA := Lib.hid (checkMatrix_any W va a ha)
  have HMB := Lib.hid (fun w (h : Below W.heap.size W w) => checkMatrix_any w vb b (hb.later h))
  have HP : Hid (product a b = if fst [matE a, matE b, whenE (decide (a.length ≠ b.length)) 2] ≠ 0 then ([], fst [matE a, matE b, whenE (decide (a.length ≠ b.length)) 2]) else resultM (matMul (insideM a) (insideM b))) := rfl
  have HE : Hid (fst [matE a, matE b, whenE ((a.length : Int) != (b.length : Int)) 2] = fst [matE a, matE b, whenE (decide (a.length ≠ b.length)) 2]) := by
    show _ = _
    have e : ((a.length : Int) != (b.length : Int)) = decide (a.length ≠ b.length) := by rw [Bool.eq_iff_iff]; simp only [bne_iff_ne, decide_eq_true_eq, ne_eq, Int.ofNat_inj]
    rw [e]
  have HOK : Hid (fst [matE a, matE b, whenE (decide (a.length ≠ b.length)) 2] = 0 → matE a = 0 ∧ matE b = 0 ∧ a.length = b.length) := fun h => by
    rw [fst_zero] at h
    simp only [List.mem_cons, List.not_mem_nil, or_false, forall_eq_or_imp, forall_eq] at h
    obtain ⟨h1, h2, h3⟩ := h
    rw [whenE_zero _ _ (by decide)] at h3
    simp only [decide_eq_false_iff_not] at h3
    exact ⟨h1, h2, by omega⟩
  have HA := Lib.hid ha
  have HB := Lib.hid hb
  obtain ⟨vsa, g1, _⟩ := ha
  obtain ⟨vsb, g3, _⟩ := hb
  obtain ⟨Aa, ca, rfl, _, _, _⟩ := g1.open_
  obtain ⟨Ab, cb, rfl, _, _, _⟩ := g3.open_
  have hla := g1.le
  have hlb := g3.le
  clear g1 g3
  generalize hna : a.length = na at *
  generalize hnb : b.length = nb at *
  have HNA := Lib.hid hna
  have HNB := Lib.hid hnb
  generalize hma : matE a = ma at *
  generalize hmb : matE b = mb at *
  have HMAE := Lib.hid hma
  have HMBE := Lib.hid hmb
  generalize fst [ma, mb, whenE (decide (na ≠ nb)) 2] = E at *
  clear hna hnb hma hmb
  go_enter Tryz.func57, Tryz.ntmps57
  go_wp2_with fail
  refine HMA.out.mono ?_
  rintro e w2 ⟨rfl, hb2⟩
  clear HMA
  go_wp2_with fail
  refine (HMB.out _ hb2).mono ?_
  rintro e w3 ⟨rfl, hb3⟩
  clear HMB
  go_wp2_with (go_at_call 94; refine (when_any _ _ _).mono ?_; rintro e w' ⟨rfl, rfl⟩)
  have hb4 := (hb2.trans (hb3.mono hb2.size)).alloc (hb2.trans (hb3.mono hb2.size)).size (.cells #[.int .i64 ma, .int .i64 mb, .int .i64 (whenE ((na : Int) != (nb : Int)) 2)] 30)
  refine (first3 _ _ ma mb (whenE ((na : Int) != (nb : Int)) 2) (by simp) (by simp) (by simp) (by simp)).mono ?_
  rw [HE.out]
  rintro e w' ⟨rfl, rfl⟩
  generalize w3.alloc (.cells #[.int .i64 ma, .int .i64 mb, .int .i64 (whenE ((na : Int) != (nb : Int)) 2)] 30) = w4 at *
  have HB4 := Lib.hid hb4
  clear HE hb2 hb3 hb4
  by_cases h0 : (E != 0) = true
  · have hbW := HB4.out
    go_wp2
    go_ret2
    rw [HP.out, if_pos (by simpa using h0)]
    exact ⟨_, rfl, hbW, RdRows.nil _⟩
  · have h0' : (E != 0) = false := by simpa using h0
    obtain ⟨hm1, hm2, hle⟩ := HOK.out (by simpa using h0)
    have HS : Hid (product a b = resultM (matMul (insideM a) (insideM b))) := by show _ = _; rw [HP.out, if_neg (by simpa using h0)]
    have hea : matE a = 0 := HMAE.out.trans hm1
    have heb : matE b = 0 := HMBE.out.trans hm2
    have oka := matE_ok hea
    have okb := matE_ok heb
    have hxa := insideM_xok hea
    have hxb := insideM_xok heb
    rw [HNA.out] at hxa
    rw [HNB.out, ← hle] at hxb
    have hn24 : na ≤ 24 := by rw [← HNA.out]; exact oka.1
    have HIA := Lib.hid (fun w (h : Below W.heap.size W w) => inside_any w _ a (HA.out.later h) (by rw [HNA.out]; omega) (fun r hr => by rw [(oka.2 r hr).1, HNA.out]; omega))
    have HIB := Lib.hid (fun w (h : Below W.heap.size W w) => inside_any w _ b (HB.out.later h) (by rw [HNB.out]; omega) (fun r hr => by rw [(okb.2 r hr).1, HNB.out]; omega))
    have HXA := Lib.hid hxa
    have HXB := Lib.hid hxb
    have HLE := Lib.hid hle
    clear h0 hm1 hm2 hle hea heb oka okb hxa hxb HOK HP
    go_wp2_with fail
    refine (plus_any _).mono ?_
    rintro e w5 ⟨rfl, hb5⟩
    have HB5 := Lib.hid (HB4.out.trans (hb5.mono HB4.out.size))
    clear HB4 hb5
    go_wp2_with fail
    refine (HIA.out _ HB5.out).mono ?_
    rintro e w6 ⟨v6, vs6, rfl, hv6, S6⟩
    have hr6 := ownT_rows S6 (k := 0) rfl (by rw [insideM_len]; exact hv6)
    have HB6 := Lib.hid (HB5.out.trans (S6.bel.mono HB5.out.size))
    have HR6 := Lib.hid hr6
    clear HB5 S6 hv6 hr6 HIA
    go_wp2_with fail
    refine (HIB.out _ HB6.out).mono ?_
    rintro e w7 ⟨v7, vs7, rfl, hv7, S7⟩
    have hr7 := ownT_rows S7 (k := 0) rfl (by rw [insideM_len]; exact hv7)
    have HB7 := Lib.hid (HB6.out.trans (S7.bel.mono HB6.out.size))
    have HMM := Lib.hid (matrix_any w7 v6 v7 (insideM a) (insideM b) na 999999999 999999999 (HR6.out.later S7.bel) hr7 (by rw [insideM_len, HNA.out]) (by rw [insideM_len, HNB.out, HLE.out]) HXA.out HXB.out hn24 (by omega) (by omega) (by omega))
    have HML := Lib.hid ((matMul_len (insideM a) (insideM b)).trans ((insideM_len a).trans HNA.out))
    have HMR := Lib.hid (matMul_ok (n := na) (a := insideM a) (b := insideM b) (by omega) HXA.out HXB.out (by rw [insideM_len, HNB.out, HLE.out]))
    generalize matMul (insideM a) (insideM b) = mm at *
    clear HB6 HR6 S7 hr7 hv7 HIB
    go_wp2_with fail
    refine HMM.out.mono ?_
    rintro e w8 ⟨v8, rfl, hb8, hr8⟩
    have HB8 := Lib.hid (HB7.out.trans (hb8.mono HB7.out.size))
    have HRS := Lib.hid (result_any w8 v8 mm hr8 (by rw [HML.out]; omega) (fun r hr => by rw [HMR.out.len r hr]; omega))
    clear HB7 HMM hb8 hr8
    go_wp2_with fail
    refine HRS.out.mono ?_
    rintro e w9 ⟨v9, rfl, hb9, hr9⟩
    have HF : Hid (RetRows W (product a b) (.returned (.tuple #[v9, .int .i64 (resultM mm).2])) w9) := by
      show RetRows _ _ _ _
      rw [HS.out]
      exact ⟨v9, rfl, HB8.out.trans (hb9.mono HB8.out.size), hr9⟩
    clear HB8 hb9 hr9 HRS
    go_wp2
    go_ret2
    exact HF.out
theorem unitM_at {n k : Nat} (h : k < n) : (unitM n)[k]? = some ((List.replicate n noth).set k 0) := by
  rw [unitM, List.getElem?_map, List.getElem?_range h]; rfl
theorem set_ints (n k : Nat) (x : Int) (c : Int) : (List.replicate n (Value.int .i64 c)).set k (.int .i64 x) = ints ((List.replicate n c).set k x) := by
  rw [ints, List.map_set, List.map_replicate]
set_option maxRecDepth 100000 in
set_option maxHeartbeats 4000000 in
theorem power_any (W : World) (v : Value) (m : IMat) (z : Int) (h : RdRows W (· < W.heap.size) v m) :
    Calls Tryz.prog 58 #[v, .int .i64 z] W (RetRows W (power m z)) := by
  have HM := Lib.hid (checkMatrix_any W v m h)
  have HP : Hid (power m z = if fst [matE m, outE z 0 64] ≠ 0 then ([], fst [matE m, outE z 0 64]) else resultM (powM (insideM m) z.toNat)) := rfl
  have HOK : Hid (fst [matE m, outE z 0 64] = 0 → matE m = 0 ∧ 0 ≤ z ∧ z ≤ 64) := fun h => by
    rw [fst_zero] at h
    simp only [List.mem_cons, List.not_mem_nil, or_false, forall_eq_or_imp, forall_eq] at h
    exact ⟨h.1, (outE_zero _ _ _).1 h.2⟩
  have HH := Lib.hid h
  obtain ⟨vs0, g1, _⟩ := h
  obtain ⟨A, c, rfl, _, _, _⟩ := g1.open_
  have hl := g1.le
  clear g1
  generalize hn : m.length = n at *
  have HN := Lib.hid hn
  generalize hme : matE m = me at *
  have HME := Lib.hid hme
  generalize hE : fst [me, outE z 0 64] = E at *
  have HE := Lib.hid hE
  clear hn hme hE
  go_enter Tryz.func58, Tryz.ntmps58
  go_wp2_with fail
  refine HM.out.mono ?_
  rintro e w2 ⟨rfl, hb2⟩
  clear HM
  go_wp2_with (go_at_call 97; refine (outside_any _ _ _ _).mono ?_; rintro e w' ⟨rfl, rfl⟩)
  have hb4 := hb2.alloc hb2.size (.cells #[.int .i64 me, .int .i64 (outE z 0 64)] 30)
  refine (first2 _ _ me (outE z 0 64) (by simp) (by simp) (by simp)).mono ?_
  rw [HE.out]
  rintro e w' ⟨rfl, rfl⟩
  generalize w2.alloc (.cells #[.int .i64 me, .int .i64 (outE z 0 64)] 30) = w4 at *
  have HB4 := Lib.hid hb4
  clear HE hb2 hb4
  by_cases h0 : (E != 0) = true
  · have hbW := HB4.out
    go_wp2
    go_ret2
    rw [HP.out, if_pos (by simpa using h0)]
    exact ⟨_, rfl, hbW, RdRows.nil _⟩
  · have h0' : (E != 0) = false := by simpa using h0
    obtain ⟨hm1, hz0, hz1⟩ := HOK.out (by simpa using h0)
    have HS : Hid (power m z = resultM (powM (insideM m) z.toNat)) := by show _ = _; rw [HP.out, if_neg (by simpa using h0)]
    have hea : matE m = 0 := HME.out.trans hm1
    have oka := matE_ok hea
    have hxa := insideM_xok hea
    rw [HN.out] at hxa
    have hn24 : n ≤ 24 := by rw [← HN.out]; exact oka.1
    have HIA := Lib.hid (fun w (h : Below W.heap.size W w) => inside_any w _ m (HH.out.later h) (by rw [HN.out]; omega) (fun r hr => by rw [(oka.2 r hr).1, HN.out]; omega))
    have hlo : (insideM m).length = n := (insideM_len m).trans HN.out
    have HLO := Lib.hid hlo
    have HXA := Lib.hid hxa
    obtain ⟨t0, ht0⟩ : ∃ t0 : Nat, z = (t0 : Int) := ⟨z.toNat, by omega⟩
    subst ht0
    rw [Int.toNat_natCast] at HS
    have HPW := Lib.hid (fun t ht => powM_ok (own := insideM m) (A := 999999999) (by omega) hxa hlo t ht)
    have HP0 : Hid (powM (insideM m) 0 = unitM n) := by show _ = _; rw [powM, hlo]
    have HPS : Hid (∀ t, powM (insideM m) (t + 1) = matMul (powM (insideM m) t) (insideM m)) := fun t => rfl
    clear h0 hm1 hea oka hxa HOK HP hlo
    have S0 := (St.refl w4).row_nil 33 1
    go_wp2_with fail
    go_loopw [22, 7] (fun i v w' => ∃ (k : Nat) (vs : List Value), k ≤ n ∧ i = .int .i64 k ∧ Hid (vs.length = k) ∧ St w4 w' ([row 33 1 v k vs] ++ ownT 3 vs ((unitM n).take k))) (fun i _ _ => n - (intOf i).toNat)
    case atStart => exact ⟨0, [], Nat.zero_le _, rfl, rfl, S0⟩
    case round =>
      obtain ⟨k, vs, hk, rfl, HV, S⟩ := hrel
      clear S0
      by_cases hlt : k < n
      · have HU := Lib.hid (unitM_at hlt)
        have HSS := Lib.hid S
        have hba := (Below.refl wr.heap.size wr).alloc (Nat.le_refl _) (.cells #[.int .i64 (-1125899906842624)] 3)
        have HC := Lib.hid (repeat1_any (wr.alloc (.cells #[.int .i64 (-1125899906842624)] 3)) wr.heap.size (-1125899906842624) n (by simp) (by omega))
        have HS5 := Lib.hid (S.ext hba)
        clear S hba
        go_wp2_with fail
        refine HC.out.mono ?_
        rintro e w5 ⟨g, rfl, S5⟩
        have S6 := HS5.out.call S5
        have hcell : w5.cell? ⟨g, k, none⟩ = some (.int .i64 (-1125899906842624)) := by
          rw [(S5.row_own (i := 0) rfl).cellAt k (by omega), List.getElem?_replicate, if_pos hlt]
        have hfr := (S5.row_own (i := 0) rfl).frozenAt k
        have S7 := S5.row_set (i := 0) rfl k (.int .i64 0)
        simp only [List.set_cons_zero] at S7
        rw [set_ints] at S7
        have S8 := HS5.out.call S7
        have HS8 := Lib.hid S8
        clear S5 S6 S7 S8 HC HSS HS5
        go_wp2_with (at_builtin; refine wpList_append_st eltL rfl _ _ rfl rfl (HS8.out.alloc _) (k := 0) rfl rfl (rd_one (by simp)) one_slice (by omega) (by omega) ?_; intro v' w' S' _)
        go_roundw
        case rel =>
          refine ⟨k + 1, vs ++ [.slice (some ⟨g, 0, none⟩) n n], by omega, by go_num, by show _ = _; simp [HV.out], ?_⟩
          rw [take_at HU.out, ownT_snoc (by rw [HV.out, List.length_take, unitM_len]; omega), List.length_set, List.length_replicate]
          simpa [noth] using S'
        case measure => simp [intOf]; omega
      · obtain rfl : k = n := by omega
        rw [List.take_of_length_le (by rw [unitM_len]; exact Nat.le_refl _)] at S
        have hr5 := ownT_rows S (k := 0) rfl (by rw [HV.out, unitM_len])
        have HB5 := Lib.hid (HB4.out.trans (S.bel.mono HB4.out.size))
        have HR5 := Lib.hid hr5
        have tkk : decide ((k : Int) < (k : Int)) = false := by simp
        obtain ⟨wA, hwA⟩ : ∃ w, w = wr := ⟨_, rfl⟩
        subst hwA
        clear S hr5 HB4 HV
        go_wp2_with fail
        refine (HIA.out _ HB5.out).mono ?_
        rintro e w6 ⟨v6, vs6, rfl, hv6, S6⟩
        have hr6 := ownT_rows S6 (k := 0) rfl (by rw [insideM_len]; exact hv6)
        have HB6 := Lib.hid (HB5.out.trans (S6.bel.mono HB5.out.size))
        have HR6 := Lib.hid hr6
        have HR56 := Lib.hid (HR5.out.later S6.bel)
        rw [← HP0.out] at HR56
        clear HB5 S6 hv6 hr6 HIA HR5 tkk
        go_wp2_with fail
        go_loopw [40, 7] (fun i v w' => ∃ (t : Nat), t ≤ t0 ∧ i = .int .i64 t ∧ Below w6.heap.size w6 w' ∧ Hid (RdRows w' (· < w'.heap.size) v (powM (insideM m) t))) (fun i _ _ => t0 - (intOf i).toNat)
        case atStart => exact ⟨0, Nat.zero_le _, rfl, Below.refl _ _, HR56.out⟩
        case round =>
          obtain ⟨t, ht, rfl, hbt, HRT⟩ := hrel
          by_cases htl : t < t0
          · have HBT := Lib.hid hbt
            obtain ⟨hx1, hx2⟩ := HPW.out t (by omega)
            have hbd : (999999999 : Int) * (t : Int) ≤ 999999999 * 64 := Int.mul_le_mul_of_nonneg_left (by omega) (by omega)
            have hbd0 : 0 ≤ (999999999 : Int) * (t : Int) := Int.mul_nonneg (by omega) (by omega)
            have HX1 := Lib.hid hx1
            have HX2 := Lib.hid hx2
            have HPS1 := Lib.hid (HPS.out t)
            clear hx1 hx2 hbt
            go_wp2_with fail
            refine (plus_any _).mono ?_
            rintro e w7 ⟨rfl, hb7⟩
            have HB7 := Lib.hid (HBT.out.trans (hb7.mono HBT.out.size))
            have HMM := Lib.hid (matrix_any w7 _ v6 (powM (insideM m) t) (insideM m) k (999999999 * t) 999999999 (HRT.out.later hb7) (HR6.out.later HB7.out) HX2.out HLO.out HX1.out HXA.out hn24 hbd0 (by omega) (by omega))
            rw [← HPS1.out] at HMM
            clear hb7 HRT
            go_wp2_with fail
            refine HMM.out.mono ?_
            rintro e w8 ⟨v8, rfl, hb8, hr8⟩
            have HB8 := Lib.hid (HB7.out.trans (hb8.mono HB7.out.size))
            have HR8 := Lib.hid hr8
            clear HB7 HMM hb8 hr8 hbd hbd0
            go_wp2
            go_roundw
            case rel => exact ⟨t + 1, by omega, by go_num, HB8.out, HR8.out⟩
            case measure => simp [intOf]; omega
          · obtain rfl : t = t0 := by omega
            obtain ⟨hx1, hx2⟩ := HPW.out t (by omega)
            have HRS := Lib.hid (result_any wr _ (powM (insideM m) t) HRT.out (by rw [hx2]; omega) (fun r hr => by rw [hx1.len r hr]; omega))
            have HB8 := Lib.hid (HB6.out.trans (hbt.mono HB6.out.size))
            have ttt : decide ((t : Int) < (t : Int)) = false := by simp
            clear hx1 hx2 hbt HRT
            go_wp2_with fail
            refine HRS.out.mono ?_
            rintro e w9 ⟨v9, rfl, hb9, hr9⟩
            have HF : Hid (RetRows W (power m t) (.returned (.tuple #[v9, .int .i64 (resultM (powM (insideM m) t)).2])) w9) := by
              show RetRows _ _ _ _
              rw [HS.out]
              exact ⟨v9, rfl, HB8.out.trans (hb9.mono HB8.out.size), hr9⟩
            clear HB8 hb9 hr9 HRS
            go_wp2
            go_ret2
            exact HF.out
end Go.Proofs.YtjfhncnpmelopaaGreatDoor
/- Walks of the reference: entry, CheckMatrix, CheckList, ShortMatrix, unlimited, product, limited. -/
namespace Go.Sheet
theorem entryE_outB (n : Int) : entryE n = if n = -1000000000 then 0 else if outB n (-999999999) 999999999 = true then 3 else 0 := rfl
def entB (n : Int) : Bool := (n == -1000000000) || !outB n (-999999999) 999999999
theorem entB_true {n : Int} : entB n = true ↔ entryE n = 0 := by
  rw [entB, entryE_outB]
  by_cases h : n = -1000000000
  · simp [h]
  · rw [if_neg h]
    have : (n == -1000000000) = false := by simpa using h
    rw [this, Bool.false_or]
    cases outB n (-999999999) 999999999 <;> simp
theorem entB_false {n : Int} (h : entB n = false) : entryE n = 3 := by
  rw [entryE_outB]
  rw [entB, Bool.or_eq_false_iff] at h
  rw [if_neg (by simpa using h.1)]
  have := h.2
  cases hb : outB n (-999999999) 999999999 with
  | true => rfl
  | false => rw [hb] at this; cases this
theorem entries_zero {l : List Int} : eachF (fun _ n => entryE n) 0 l = 0 ↔ ∀ x ∈ l, entryE x = 0 := by
  rw [eachF_zero]
  constructor
  · intro h x hx
    obtain ⟨k, hk, rfl⟩ := List.mem_iff_getElem.1 hx
    exact h k _ (List.getElem?_eq_getElem hk)
  · exact fun h i x hx => h x (List.mem_of_getElem? hx)
theorem entries_bad : ∀ (l : List Int) (k : Nat), (∃ x ∈ l, entryE x ≠ 0) → eachF (fun _ n => entryE n) k l = 3
  | [], _, ⟨x, hx, _⟩ => by cases hx
  | y :: l, k, ⟨x, hx, hn⟩ => by
    rw [eachF]
    by_cases h : entryE y ≠ 0
    · rw [if_pos h, entryE_outB]
      rw [entryE_outB] at h
      split
      · rename_i h1; rw [if_pos h1] at h; exact absurd rfl h
      · rename_i h1
        rw [if_neg h1] at h
        split
        · rfl
        · rename_i h2; rw [if_neg h2] at h; exact absurd rfl h
    · rw [if_neg h]
      refine entries_bad l (k + 1) ⟨x, ?_, hn⟩
      rcases List.mem_cons.1 hx with rfl | hx
      · exact absurd hn h
      · exact hx
theorem matRow_shape {n : Nat} {r : List Int} (h : r.length ≠ n) : matRowE n r = 2 := by
  rw [matRowE]; simp [fst, whenE, h]
theorem matRow_else {n : Nat} {r : List Int} (h : r.length = n) : matRowE n r = eachF (fun _ x => entryE x) 0 r := by
  have e : whenE (decide (r.length ≠ n)) 2 = 0 := by simp [whenE, h]
  rw [matRowE, e]
  generalize eachF (fun _ x => entryE x) 0 r = E
  simp only [fst]
  split
  · rename_i h; exact absurd rfl h
  · split
    · rfl
    · rename_i h; simpa using (Classical.not_not.1 h).symm
/-- a step of the reference's check on rows -/
theorem matE_stop {m : IMat} {k : Nat} {r : List Int} (h24 : ¬ 24 < m.length) (hr : m[k]? = some r) (he : eachF (fun _ row => matRowE m.length row) k (m.drop k) = eachF (fun _ row => matRowE m.length row) 0 m) (h0 : matRowE m.length r ≠ 0) : matE m = matRowE m.length r := by
  rw [matE, if_neg h24, ← eachF_stop hr h0 he]
end Go.Sheet
namespace Go.Proofs.YtjfhncnpmelopaaGreatDoor
open Go.RowKit Go.Mem Go.Sheet
theorem refEntry_any (n : Int) (w : World) : Calls Tryz.prog 107 #[.int .i64 n] w fun e w' => e = .returned (.bool (entB n)) ∧ w = w' := by
  go_enter Tryz.func107, Tryz.ntmps107
  have HD : Hid (entB n = ((n == -1000000000) || !outB n (-999999999) 999999999)) := rfl
  by_cases h : n = -1000000000
  · have H : Hid (entB n = true) := by show _ = _; rw [HD.out, h]; rfl
    have hb : (n == -1000000000) = true := by simpa using h
    clear h HD
    go_wp2
    go_ret
    exact ⟨ret_bool H.out.symm, rfl⟩
  · have hb : (n == -1000000000) = false := by simpa using h
    have H : Hid (entB n = !outB n (-999999999) 999999999) := by show _ = _; rw [HD.out, hb]; rfl
    clear h HD
    go_wp2_with (go_at_call 52; refine (outB_any _ _ _ _).mono ?_; rintro e w' ⟨rfl, rfl⟩)
    go_ret
    exact ⟨ret_bool H.out.symm, rfl⟩
set_option maxRecDepth 100000 in
set_option maxHeartbeats 2000000 in
theorem refCheckMatrix_any (w : World) (v : Value) (m : IMat) (h : RdRows w (· < w.heap.size) v m) :
    Calls Tryz.prog 46 #[v] w fun e w' => e = .returned (.int .i64 (matE m)) ∧ w = w' := by
  have HH := Lib.hid h
  obtain ⟨vs, g1, _⟩ := h
  obtain ⟨A, c, rfl, _, _, _⟩ := g1.open_
  have hl := g1.le
  clear g1
  have HM24 : Hid (24 < m.length → matE m = 5) := fun h => by rw [matE, if_pos h]
  have HM0 : Hid (¬ 24 < m.length → eachF (fun _ row => matRowE m.length row) 0 m = matE m) := fun h => by rw [matE, if_neg h]
  have HSTOP := Lib.hid (fun (k : Nat) (r : List Int) h1 h2 h3 h4 => matE_stop (m := m) (k := k) (r := r) h1 h2 h3 h4)
  generalize hn : m.length = n at *
  have HN := Lib.hid hn
  clear hn
  go_enter Tryz.func46, Tryz.ntmps46
  by_cases h24 : 24 < n
  · have HR := Lib.hid (HM24.out h24)
    have t24 : decide (24 < (n : Int)) = true := by simp; omega
    clear h24
    go_wp2
    go_ret
    exact ⟨ret_i64 HR.out.symm, rfl⟩
  have t24 : decide (24 < (n : Int)) = false := by simp; omega
  have HR0 := Lib.hid (HM0.out h24)
  have H24 := Lib.hid h24
  have hn24 : n ≤ 24 := by omega
  clear h24 HM24 HM0
  go_wp2_with fail
  go_loop [3] (fun i => ∃ k : Nat, k ≤ n ∧ i = .int .i64 k ∧ Hid (eachF (fun _ row => matRowE n row) k (m.drop k) = eachF (fun _ row => matRowE n row) 0 m)) (fun i => n - (intOf i).toNat)
  case atStart => exact ⟨0, Nat.zero_le _, rfl, rfl⟩
  case round =>
    obtain ⟨k, hk, rfl, he⟩ := hrel
    by_cases hlt : k < n
    · have hkm : k < m.length := by rw [HN.out]; exact hlt
      have hr : m[k]? = some m[k] := List.getElem?_eq_getElem hkm
      obtain ⟨b, o, Ar, cr, hA, hrow⟩ := row_of HH.out hr
      subst hA
      obtain ⟨d0, d1⟩ := hrow w (Below.refl _ _)
      have HST := Lib.hid (fun h0 => HSTOP.out _ _ H24.out hr he.out h0)
      have HGO := Lib.hid (fun h0 => eachF_go (f := fun _ row => matRowE n row) hr h0 he.out)
      generalize m[k] = r at *
      have hrl := d1.le
      have HD1 := Lib.hid d1
      generalize hrn : r.length = rn at *
      have HRN := Lib.hid hrn
      clear hr hkm hrow d1 he
      by_cases hs : rn = n
      · subst hs
        have tne : ((rn : Int) != (rn : Int)) = false := by simp
        have HRE := Lib.hid (matRow_else (n := rn) (r := r) HRN.out)
        clear hrn
        go_wp2_with fail
        clear tne
        go_loop [4] (fun i => ∃ j : Nat, j ≤ rn ∧ i = .int .i64 j ∧ Hid (∀ x ∈ r.take j, entryE x = 0)) (fun i => rn - (intOf i).toNat)
        case atStart => exact ⟨0, Nat.zero_le _, rfl, fun x hx => by simp at hx⟩
        case round =>
          obtain ⟨j, hj, rfl, HA⟩ := hrel
          by_cases hjl : j < rn
          · obtain ⟨b2, o2, x, hA2, hx, cx⟩ := Rd.int (q := .i64) (l := r) HD1.out hjl
            subst hA2
            have HX := Lib.hid hx
            clear hx
            cases hb : entB x with
            | true =>
              have hx0 := entB_true.1 hb
              have HB := Lib.hid hb
              have HX0 := Lib.hid hx0
              clear hb hx0
              go_wp2_with (go_at_call 107; refine (refEntry_any _ _).mono ?_; rw [HB.out]; rintro e w' ⟨rfl, rfl⟩)
              go_round
              case rel => exact ⟨j + 1, by omega, by go_num, fun y hy => by
                rw [take_at HX.out] at hy
                rcases List.mem_append.1 hy with hy | hy
                · exact HA.out y hy
                · obtain rfl := List.mem_singleton.1 hy; exact HX0.out⟩
              case measure => simp [intOf]; omega
            | false =>
              have e3 := entries_bad r 0 ⟨x, List.mem_of_getElem? HX.out, by rw [entB_false hb]; decide⟩
              have HR : Hid (matE m = 3) := by
                show _ = _
                rw [HST.out (by rw [HRE.out, e3]; decide), HRE.out, e3]
              have HB := Lib.hid hb
              clear hb e3
              go_wp2_with (go_at_call 107; refine (refEntry_any _ _).mono ?_; rw [HB.out]; rintro e w' ⟨rfl, rfl⟩)
              go_ret
              exact ⟨ret_i64 HR.out.symm, rfl⟩
          · obtain rfl : j = rn := by omega
            have hall := HA.out
            rw [List.take_of_length_le (Nat.le_of_eq HRN.out)] at hall
            have HG := Lib.hid (HGO.out (by rw [HRE.out, entries_zero.2 hall]; simp))
            have tjj : decide ((j : Int) < (j : Int)) = false := by simp
            clear hall HA
            go_wp2
            go_round
            case rel => exact ⟨k + 1, by omega, by go_num, HG.out⟩
            case measure => simp [intOf]; omega
      · have HR : Hid (matE m = 2) := by
          show _ = _
          have e2 := matRow_shape (n := n) (r := r) (by rw [HRN.out]; exact hs)
          rw [HST.out (by rw [e2]; decide), e2]
        have tne : ((rn : Int) != (n : Int)) = true := by simp; omega
        clear hs
        go_wp2
        go_ret
        exact ⟨ret_i64 HR.out.symm, rfl⟩
    · obtain rfl : k = n := by omega
      have HR : Hid (matE m = 0) := by
        show _ = _
        rw [← HR0.out]
        exact eachF_end (n := k) (by rw [HN.out]; exact Nat.le_refl _) he.out
      have tkk : decide ((k : Int) < (k : Int)) = false := by simp
      clear he
      go_wp2
      go_ret
      exact ⟨ret_i64 HR.out.symm, rfl⟩
/-- CheckList's answer -/
def listE (m : IMat) (x : List Int) : Int := if x.length ≠ m.length then 2 else eachF (fun _ n => entryE n) 0 x
set_option maxRecDepth 100000 in
set_option maxHeartbeats 2000000 in
theorem refCheckList_any (w : World) (v vx : Value) (m : IMat) (x : List Int) (h : RdRows w (· < w.heap.size) v m) (hx : Rd w (· < w.heap.size) 1 vx x.length (x.map (Value.int .i64))) :
    Calls Tryz.prog 60 #[v, vx] w fun e w' => e = .returned (.int .i64 (listE m x)) ∧ w = w' := by
  obtain ⟨vs, g1, _⟩ := h
  obtain ⟨A, c, rfl, _, _, _⟩ := g1.open_
  obtain ⟨Ax, cx, rfl, _, _, _⟩ := hx.open_
  have hl := g1.le
  have hxl := hx.le
  have HX := Lib.hid hx
  have HD : Hid (listE m x = if x.length ≠ m.length then 2 else eachF (fun _ n => entryE n) 0 x) := rfl
  generalize hn : m.length = n at *
  generalize hnx : x.length = nx at *
  have HNX := Lib.hid hnx
  clear g1 hx hn hnx
  go_enter Tryz.func60, Tryz.ntmps60
  by_cases hs : nx = n
  case neg =>
    have HR : Hid (listE m x = 2) := by show _ = _; rw [HD.out, if_pos hs]
    have tne : ((nx : Int) != (n : Int)) = true := by simp; omega
    clear hs
    go_wp2
    go_ret
    exact ⟨ret_i64 HR.out.symm, rfl⟩
  subst hs
  have HR : Hid (listE m x = eachF (fun _ n => entryE n) 0 x) := by show _ = _; rw [HD.out, if_neg (by simp)]
  have tne : ((nx : Int) != (nx : Int)) = false := by simp
  clear HD
  go_wp2_with fail
  clear tne
  go_loop [5] (fun i => ∃ j : Nat, j ≤ nx ∧ i = .int .i64 j ∧ Hid (∀ y ∈ x.take j, entryE y = 0)) (fun i => nx - (intOf i).toNat)
  case atStart => exact ⟨0, Nat.zero_le _, rfl, fun y hy => by simp at hy⟩
  case round =>
    obtain ⟨j, hj, rfl, HA⟩ := hrel
    by_cases hjl : j < nx
    · obtain ⟨b2, o2, y, hA2, hy, cy⟩ := Rd.int (q := .i64) (l := x) HX.out hjl
      subst hA2
      have HY := Lib.hid hy
      clear hy
      cases hb : entB y with
      | true =>
        have hx0 := entB_true.1 hb
        have HB := Lib.hid hb
        have HX0 := Lib.hid hx0
        clear hb hx0
        go_wp2_with (go_at_call 107; refine (refEntry_any _ _).mono ?_; rw [HB.out]; rintro e w' ⟨rfl, rfl⟩)
        go_round
        case rel => exact ⟨j + 1, by omega, by go_num, fun z hz => by
          rw [take_at HY.out] at hz
          rcases List.mem_append.1 hz with hz | hz
          · exact HA.out z hz
          · obtain rfl := List.mem_singleton.1 hz; exact HX0.out⟩
        case measure => simp [intOf]; omega
      | false =>
        have HR3 : Hid (listE m x = 3) := by
          show _ = _
          rw [HR.out, entries_bad x 0 ⟨y, List.mem_of_getElem? HY.out, by rw [entB_false hb]; decide⟩]
        have HB := Lib.hid hb
        clear hb
        go_wp2_with (go_at_call 107; refine (refEntry_any _ _).mono ?_; rw [HB.out]; rintro e w' ⟨rfl, rfl⟩)
        go_ret
        exact ⟨ret_i64 HR3.out.symm, rfl⟩
    · obtain rfl : j = nx := by omega
      have hall := HA.out
      rw [List.take_of_length_le (Nat.le_of_eq HNX.out)] at hall
      have HR0 : Hid (listE m x = 0) := by show _ = _; rw [HR.out, entries_zero.2 hall]
      have tjj : decide ((j : Int) < (j : Int)) = false := by simp
      clear hall HA
      go_wp2
      go_ret
      exact ⟨ret_i64 HR0.out.symm, rfl⟩
set_option maxRecDepth 100000 in
set_option maxHeartbeats 2000000 in
theorem refShortMatrix_any (w : World) (v : Value) (m : IMat) (h : RdRows w (· < w.heap.size) v m) :
    Calls Tryz.prog 45 #[v] w fun e w' => IsB e ∧ w = w' := by
  have HH := Lib.hid h
  obtain ⟨vs, g1, _⟩ := h
  obtain ⟨A, c, rfl, _, _, _⟩ := g1.open_
  have hl := g1.le
  clear g1
  generalize hn : m.length = n at *
  have HN := Lib.hid hn
  clear hn
  go_enter Tryz.func45, Tryz.ntmps45
  by_cases h1 : 28 < n
  · have t1 : decide (28 < (n : Int)) = true := by simp; omega
    clear h1
    go_wp2
    go_ret
    exact ⟨⟨_, rfl⟩, rfl⟩
  have t1 : decide (28 < (n : Int)) = false := by simp; omega
  clear h1
  go_wp2_with fail
  go_loop [3] (fun i => ∃ k : Nat, k ≤ n ∧ i = .int .i64 k) (fun i => n - (intOf i).toNat)
  case atStart => exact ⟨0, Nat.zero_le _, rfl⟩
  case round =>
    obtain ⟨k, hk, rfl⟩ := hrel
    by_cases hlt : k < n
    · have hkm : k < m.length := by rw [HN.out]; exact hlt
      have hr : m[k]? = some m[k] := List.getElem?_eq_getElem hkm
      obtain ⟨b, o, Ar, cr, hA, hrow⟩ := row_of HH.out hr
      subst hA
      obtain ⟨d0, d1⟩ := hrow w (Below.refl _ _)
      have hrl := d1.le
      generalize m[k] = r at *
      generalize r.length = rn at *
      clear hr hkm hrow d1
      by_cases h2 : 30 < rn
      · have t2 : decide (30 < (rn : Int)) = true := by simp; omega
        clear h2
        go_wp2
        go_ret
        exact ⟨⟨_, rfl⟩, rfl⟩
      · have t2 : decide (30 < (rn : Int)) = false := by simp; omega
        clear h2
        go_wp2
        go_round
        case rel => exact ⟨k + 1, by omega, by go_num⟩
        case measure => simp [intOf]; omega
    · have tkn : decide ((k : Int) < n) = false := by simp; omega
      go_wp2
      go_ret
      exact ⟨⟨_, rfl⟩, rfl⟩
end Go.Proofs.YtjfhncnpmelopaaGreatDoor
/- Walks of the reference: unlimited, limited, product, Product. -/
namespace Go.Sheet
/-- entries of a matrix with holes -/
def HBd (A x : Int) : Prop := x = hole ∨ -A ≤ x ∧ x ≤ A
theorem swap_bd {A x : Int} (h : XB A x) : HBd A (swapX x) := by
  unfold swapX
  by_cases hx : x = noth
  · rw [if_pos hx]; exact .inl rfl
  · rw [if_neg hx]
    rcases h with h | h
    · exact absurd h hx
    · exact .inr h
theorem unlM_at {m : IMat} {k : Nat} {r : List Int} (h : m[k]? = some r) : (unlM m)[k]? = some (r.map unlX) := by rw [unlM, List.getElem?_map, h]; rfl
theorem unlM_len (m : IMat) : (unlM m).length = m.length := by simp [unlM]
theorem map_snoc {f : Int → Int} {r : List Int} {j : Nat} {x : Int} (h : r[j]? = some x) : (r.map f).take (j + 1) = (r.map f).take j ++ [f x] :=
  take_at (by rw [List.getElem?_map, h]; rfl)
theorem limM_at {m : IMat} {k : Nat} {r : List Int} (h : m[k]? = some r) : (m.take (k + 1)).map (fun r => r.map limX) = (m.take k).map (fun r => r.map limX) ++ [r.map limX] := by
  rw [take_at h, List.map_append]; rfl
theorem limM_bad {m : IMat} {r : List Int} {x : Int} (hr : r ∈ m) (hx : x ∈ r) (hb : limBad x = true) : limM m = ([], 4) := by
  rw [limM, if_pos (List.any_eq_true.2 ⟨r, hr, List.any_eq_true.2 ⟨x, hx, hb⟩⟩)]
theorem limM_good {m : IMat} (h : ∀ r ∈ m, ∀ x ∈ r, limBad x = false) : limM m = (m.map fun r => r.map limX, 0) := by
  rw [limM, if_neg]
  intro hh
  obtain ⟨r, hr, hx⟩ := List.any_eq_true.1 hh
  obtain ⟨x, hx, hb⟩ := List.any_eq_true.1 hx
  rw [h r hr x hx] at hb; cases hb
theorem limBad_outB (x : Int) : limBad x = (!(x == -1000000000000000) && outB x (-999999999) 999999999) := rfl
theorem rdot_go {acc y z t : Int} {r x : List Int} {k : Nat} (hy : r[k]? = some y) (hz : x[k]? = some z) (e : rdot acc (r.drop k) (x.drop k) = t) : rdot (rstep acc y z) (r.drop (k + 1)) (x.drop (k + 1)) = t := by
  rw [← e, drop_at hy, drop_at hz, rdot]
theorem rdot_end {acc t : Int} {r x : List Int} {k : Nat} (h : r.length ≤ k) (e : rdot acc (r.drop k) (x.drop k) = t) : acc = t := by
  rw [← e, List.drop_of_length_le h, rdot]; intros; contradiction
theorem rmul_at {a b : IMat} {n k : Nat} {r : List Int} (la : a.length = n) (h : a[k]? = some r) : (rmul a b)[k]? = some ((List.range n).map fun j => rdot hole r (col b j)) := by
  rw [rmul, List.getElem?_map, h, la]; rfl
theorem rmul_len (a b : IMat) : (rmul a b).length = a.length := by simp [rmul]
theorem take_set_same {l : List Int} {k : Nat} {x : Int} : (l.set k x).take k = l.take k := by
  rw [List.take_set, List.set_eq_of_length_le (by simp; omega)]
theorem take_succ_set {l : List Int} {k : Nat} {x : Int} (h : k < l.length) : (l.set k x).take (k + 1) = l.take k ++ [x] := by
  rw [take_at (x := x) (by rw [List.getElem?_set, if_pos rfl, if_pos h]), take_set_same]
end Go.Sheet
namespace Go.Proofs.YtjfhncnpmelopaaGreatDoor
open Go.RowKit Go.Mem Go.Sheet
set_option maxRecDepth 100000 in
set_option maxHeartbeats 4000000 in
theorem refUnlimited_any (W : World) (v : Value) (m : IMat) (h : RdRows W (· < W.heap.size) v m) (hl : m.length ≤ 1000) (hl2 : ∀ r ∈ m, r.length ≤ 1000) :
    Calls Tryz.prog 127 #[v] W fun e w' => ∃ v', e = .returned v' ∧ Below W.heap.size W w' ∧ RdRows w' (· < w'.heap.size) v' (unlM m) := by
  obtain ⟨vs0, g1, _⟩ := id h
  generalize hn : m.length = n at *
  obtain ⟨A, c, rfl, _, _, _⟩ := g1.open_
  have HH := Lib.hid h
  have HN := Lib.hid hn
  have HL2 := Lib.hid hl2
  have HUL : Hid ((unlM m).length = n) := (unlM_len m).trans hn
  clear h g1 hn hl2
  have S0 := (St.refl W).row_nil 33 1
  go_enter Tryz.func127, Tryz.ntmps127
  go_wp2_with fail
  go_loopw [4, 3] (fun i v w' => ∃ (k : Nat) (vs : List Value), k ≤ n ∧ i = .int .i64 k ∧ Hid (vs.length = k) ∧ St W w' ([row 33 1 v k vs] ++ ownT 3 vs ((unlM m).take k))) (fun i _ _ => n - (intOf i).toNat)
  case atStart => exact ⟨0, [], Nat.zero_le _, rfl, rfl, S0⟩
  case round =>
    obtain ⟨k, vs, hk, rfl, HV, S⟩ := hrel
    clear S0
    by_cases hlt : k < n
    · have hkm : k < m.length := by rw [HN.out]; exact hlt
      have hr : m[k]? = some m[k] := List.getElem?_eq_getElem hkm
      obtain ⟨b, o, Ar, cr, hA, hrow⟩ := row_of HH.out hr
      subst hA
      have HU := Lib.hid (unlM_at hr)
      have hrl := HL2.out _ (List.getElem_mem hkm)
      generalize m[k] = r at *
      have HROW := Lib.hid hrow
      generalize hrn : r.length = rn at *
      have HRN := Lib.hid hrn
      have HS := Lib.hid S
      obtain ⟨wA, hwA⟩ : ∃ w, w = wr := ⟨_, rfl⟩
      subst hwA
      have HBA := Lib.hid HS.out.bel
      clear hr hkm hrow S hrn
      go_wp2_with fail
      have S1 := (St.refl wA).row_nil 3 1
      go_loopw [6, 5] (fun i v w' => ∃ (j : Nat), j ≤ rn ∧ i = .int .i64 j ∧ St wA w' [row 3 1 v j (ints ((r.map unlX).take j))]) (fun i _ _ => rn - (intOf i).toNat)
      case atStart => exact ⟨0, Nat.zero_le _, rfl, S1⟩
      case round =>
        obtain ⟨j, hj, rfl, S2⟩ := hrel
        clear S1
        have HBR := Lib.hid (HBA.out.trans (S2.bel.mono HBA.out.size))
        obtain ⟨d0, d1⟩ := HROW.out _ HBR.out
        by_cases hjl : j < rn
        · obtain ⟨b2, o2, x, hA2, hx, cx⟩ := Rd.int (q := .i64) (l := r) d1 hjl
          subst hA2
          have HMS := Lib.hid (map_snoc (f := unlX) hx)
          have HX : Hid (unlX x = if x = -1000000000 then -1000000000000000 else x) := rfl
          clear hx d1
          by_cases hn0 : x = -1000000000
          · have HXX : Hid (unlX x = -1000000000000000) := by show _ = _; rw [HX.out, if_pos hn0]
            have hxb : (x == -1000000000) = true := by simpa using hn0
            clear hn0 HX
            go_wp2_with (at_builtin; refine wpList_append_st eltI rfl _ _ rfl rfl (S2.alloc _) (k := 0) rfl rfl (rd_one (by simp)) (one_int _ _) (by omega) (by omega) ?_; intro v' w' S' _)
            go_roundw
            case rel => exact ⟨j + 1, by omega, by go_num, by rw [HMS.out, HXX.out]; simpa [ints] using S'⟩
            case measure => simp [intOf]; omega
          · have HXX : Hid (unlX x = x) := by show _ = _; rw [HX.out, if_neg hn0]
            have hxb : (x == -1000000000) = false := by simpa using hn0
            clear hn0 HX
            go_wp2_with (at_builtin; refine wpList_append_st eltI rfl _ _ rfl rfl (S2.alloc _) (k := 0) rfl rfl (rd_one (by simp)) (one_int _ _) (by omega) (by omega) ?_; intro v' w' S' _)
            go_roundw
            case rel => exact ⟨j + 1, by omega, by go_num, by rw [HMS.out, HXX.out]; simpa [ints] using S'⟩
            case measure => simp [intOf]; omega
        · obtain rfl : j = rn := by omega
          rw [List.take_of_length_le (by rw [List.length_map, HRN.out]; exact Nat.le_refl _)] at S2
          have S6 := HS.out.call S2
          obtain ⟨Av, cv, rfl, _, _, _⟩ := (S2.row_rd (i := 0) rfl).open_
          have tjj : decide ((j : Int) < (j : Int)) = false := by simp
          have HS6 := Lib.hid S6
          clear S6 S2 d1
          go_wp2_with (at_builtin; refine wpList_append_st eltL rfl _ _ rfl rfl (HS6.out.alloc _) (k := 0) rfl rfl (rd_one (by simp)) one_slice (by omega) (by omega) ?_; intro v' w' S' _)
          go_roundw
          case rel =>
            refine ⟨k + 1, vs ++ [.slice Av j cv], by omega, by go_num, by show _ = _; simp [HV.out], ?_⟩
            rw [take_at HU.out, ownT_snoc (by rw [HV.out, List.length_take, HUL.out]; omega), List.length_map, HRN.out]
            simpa using S'
          case measure => simp [intOf]; omega
    · obtain rfl : k = n := by omega
      rw [List.take_of_length_le (Nat.le_of_eq HUL.out)] at S
      have HRW := Lib.hid (ownT_rows S (k := 0) rfl (by rw [HV.out, HUL.out]))
      have hbW := S.bel
      have tkk : decide ((k : Int) < (k : Int)) = false := by simp
      clear S
      go_wp2
      go_ret
      exact ⟨_, rfl, hbW, HRW.out⟩
set_option maxRecDepth 100000 in
set_option maxHeartbeats 4000000 in
theorem refLimited_any (W : World) (v : Value) (m : IMat) (h : RdRows W (· < W.heap.size) v m) (hl : m.length ≤ 1000) (hl2 : ∀ r ∈ m, r.length ≤ 1000) :
    Calls Tryz.prog 125 #[v] W (RetRows W (limM m)) := by
  obtain ⟨vs0, g1, _⟩ := id h
  generalize hn : m.length = n at *
  obtain ⟨A, c, rfl, _, _, _⟩ := g1.open_
  have HH := Lib.hid h
  have HN := Lib.hid hn
  have HL2 := Lib.hid hl2
  clear h g1 hn hl2
  have S0 := (St.refl W).row_nil 33 1
  go_enter Tryz.func125, Tryz.ntmps125
  go_wp2_with fail
  go_loopw [5, 4] (fun i v w' => ∃ (k : Nat) (vs : List Value), k ≤ n ∧ i = .int .i64 k ∧ Hid (vs.length = k) ∧ Hid (∀ r ∈ m.take k, ∀ x ∈ r, limBad x = false) ∧ St W w' ([row 33 1 v k vs] ++ ownT 3 vs ((m.take k).map fun r => r.map limX))) (fun i _ _ => n - (intOf i).toNat)
  case atStart => exact ⟨0, [], Nat.zero_le _, rfl, rfl, fun r hr => by simp at hr, S0⟩
  case round =>
    obtain ⟨k, vs, hk, rfl, HV, HG, S⟩ := hrel
    clear S0
    by_cases hlt : k < n
    · have hkm : k < m.length := by rw [HN.out]; exact hlt
      have hr : m[k]? = some m[k] := List.getElem?_eq_getElem hkm
      obtain ⟨b, o, Ar, cr, hA, hrow⟩ := row_of HH.out hr
      subst hA
      have HU := Lib.hid (limM_at hr)
      have HT := Lib.hid (take_at hr)
      have hrl := HL2.out _ (List.getElem_mem hkm)
      have HMEM := Lib.hid (List.getElem_mem hkm)
      generalize m[k] = r at *
      have HROW := Lib.hid hrow
      generalize hrn : r.length = rn at *
      have HRN := Lib.hid hrn
      have HS := Lib.hid S
      obtain ⟨wA, hwA⟩ : ∃ w, w = wr := ⟨_, rfl⟩
      subst hwA
      have HBA := Lib.hid HS.out.bel
      clear hr hkm hrow S hrn
      go_wp2_with fail
      have S1 := (St.refl wA).row_nil 3 1
      go_loopw [7, 6] (fun i v w' => ∃ (j : Nat), j ≤ rn ∧ i = .int .i64 j ∧ Hid (∀ x ∈ r.take j, limBad x = false) ∧ St wA w' [row 3 1 v j (ints ((r.map limX).take j))]) (fun i _ _ => rn - (intOf i).toNat)
      case atStart => exact ⟨0, Nat.zero_le _, rfl, fun x hx => by simp at hx, S1⟩
      case round =>
        obtain ⟨j, hj, rfl, HG2, S2⟩ := hrel
        clear S1
        have HBR := Lib.hid (HBA.out.trans (S2.bel.mono HBA.out.size))
        obtain ⟨d0, d1⟩ := HROW.out _ HBR.out
        by_cases hjl : j < rn
        · obtain ⟨b2, o2, x, hA2, hx, cx⟩ := Rd.int (q := .i64) (l := r) d1 hjl
          subst hA2
          have HMS := Lib.hid (map_snoc (f := limX) hx)
          have HX : Hid (limX x = if x = -1000000000000000 then -1000000000 else x) := rfl
          have HLB := Lib.hid (limBad_outB x)
          have HXT := Lib.hid (take_at hx)
          have HXM := Lib.hid (List.mem_of_getElem? hx)
          clear hx d1
          by_cases hn0 : x = -1000000000000000
          · have HXX : Hid (limX x = -1000000000) := by show _ = _; rw [HX.out, if_pos hn0]
            have hxb : (x == -1000000000000000) = true := by simpa using hn0
            have HGX : Hid (limBad x = false) := by show _ = _; rw [HLB.out, hxb]; rfl
            clear hn0 HX HLB
            go_wp2_with (at_builtin; refine wpList_append_st eltI rfl _ _ rfl rfl (S2.alloc _) (k := 0) rfl rfl (rd_one (by simp)) (one_int _ _) (by omega) (by omega) ?_; intro v' w' S' _)
            go_roundw
            case rel => exact ⟨j + 1, by omega, by go_num, fun y hy => by
              rw [HXT.out] at hy
              rcases List.mem_append.1 hy with hy | hy
              · exact HG2.out y hy
              · obtain rfl := List.mem_singleton.1 hy; exact HGX.out, by rw [HMS.out, HXX.out]; simpa [ints] using S'⟩
            case measure => simp [intOf]; omega
          · have HXX : Hid (limX x = x) := by show _ = _; rw [HX.out, if_neg hn0]
            have hxb : (x == -1000000000000000) = false := by simpa using hn0
            clear hn0 HX
            cases hob : outB x (-999999999) 999999999 with
            | true =>
              have HF : Hid (limM m = ([], 4)) := limM_bad HMEM.out HXM.out (by rw [HLB.out, hxb, hob]; rfl)
              have HOB := Lib.hid hob
              have hbW := HBR.out
              clear hob
              go_wp2_with (go_at_call 52; refine (outB_any _ _ _ _).mono ?_; rw [HOB.out]; rintro e w' ⟨rfl, rfl⟩)
              go_ret2
              rw [HF.out]
              exact ⟨_, rfl, hbW, RdRows.nil _⟩
            | false =>
              have HGX : Hid (limBad x = false) := by show _ = _; rw [HLB.out, hxb, hob]; rfl
              have HOB := Lib.hid hob
              clear hob
              go_wp2_with (first
                | (go_at_call 52; refine (outB_any _ _ _ _).mono ?_; rw [HOB.out]; rintro e w' ⟨rfl, rfl⟩)
                | (at_builtin; refine wpList_append_st eltI rfl _ _ rfl rfl (S2.alloc _) (k := 0) rfl rfl (rd_one (by simp)) (one_int _ _) (by omega) (by omega) ?_; intro v' w' S' _))
              go_roundw
              case rel => exact ⟨j + 1, by omega, by go_num, fun y hy => by
                rw [HXT.out] at hy
                rcases List.mem_append.1 hy with hy | hy
                · exact HG2.out y hy
                · obtain rfl := List.mem_singleton.1 hy; exact HGX.out, by rw [HMS.out, HXX.out]; simpa [ints] using S'⟩
              case measure => simp [intOf]; omega
        · obtain rfl : j = rn := by omega
          rw [List.take_of_length_le (by rw [List.length_map, HRN.out]; exact Nat.le_refl _)] at S2
          have hg2 := HG2.out
          rw [List.take_of_length_le (Nat.le_of_eq HRN.out)] at hg2
          have HG3 := Lib.hid hg2
          have S6 := HS.out.call S2
          obtain ⟨Av, cv, rfl, _, _, _⟩ := (S2.row_rd (i := 0) rfl).open_
          have tjj : decide ((j : Int) < (j : Int)) = false := by simp
          have HS6 := Lib.hid S6
          clear S6 S2 d1 hg2
          go_wp2_with (at_builtin; refine wpList_append_st eltL rfl _ _ rfl rfl (HS6.out.alloc _) (k := 0) rfl rfl (rd_one (by simp)) one_slice (by omega) (by omega) ?_; intro v' w' S' _)
          go_roundw
          case rel =>
            refine ⟨k + 1, vs ++ [.slice Av j cv], by omega, by go_num, by show _ = _; simp [HV.out], fun r' hr' => ?_, ?_⟩
            · rw [HT.out] at hr'
              rcases List.mem_append.1 hr' with hr' | hr'
              · exact HG.out r' hr'
              · obtain rfl := List.mem_singleton.1 hr'; exact HG3.out
            · rw [HU.out, ownT_snoc (by rw [HV.out, List.length_map, List.length_take, HN.out]; omega), List.length_map, HRN.out]
              simpa using S'
          case measure => simp [intOf]; omega
    · obtain rfl : k = n := by omega
      have hg := HG.out
      rw [List.take_of_length_le (Nat.le_of_eq HN.out)] at S hg
      have HF := Lib.hid (limM_good hg)
      have HRW := Lib.hid (ownT_rows S (k := 0) rfl (by rw [HV.out, List.length_map, HN.out]))
      have hbW := S.bel
      have tkk : decide ((k : Int) < (k : Int)) = false := by simp
      clear S hg
      go_wp2
      go_ret2
      rw [HF.out]
      exact ⟨_, rfl, hbW, HRW.out⟩
set_option maxRecDepth 100000 in
set_option maxHeartbeats 4000000 in
theorem refproduct_any (W : World) (va vb : Value) (a b : IMat) (n : Nat) (A B : Int) (ha : RdRows W (· < W.heap.size) va a) (hb : RdRows W (· < W.heap.size) vb b) (la : a.length = n) (lb : b.length = n) (xa : ∀ r ∈ a, r.length = n ∧ ∀ x ∈ r, HBd A x) (xb : ∀ r ∈ b, r.length = n ∧ ∀ x ∈ r, HBd B x) (h24 : n ≤ 24) (h0 : 0 ≤ A ∧ A ≤ 1000000000000) (h1 : 0 ≤ B ∧ B ≤ 1000000000000) :
    Calls Tryz.prog 126 #[va, vb] W fun e w' => ∃ v', e = .returned v' ∧ Below W.heap.size W w' ∧ RdRows w' (· < w'.heap.size) v' (rmul a b) := by
  have HA := Lib.hid ha
  have HB := Lib.hid hb
  obtain ⟨vsa, g1, _⟩ := ha
  obtain ⟨vsb, g3, _⟩ := hb
  rw [la] at g1
  rw [lb] at g3
  obtain ⟨Aa, ca, rfl, _, _, _⟩ := g1.open_
  obtain ⟨Ab, cb, rfl, _, _, _⟩ := g3.open_
  clear g1 g3
  have HXA := Lib.hid xa
  have HXB := Lib.hid xb
  have HLA := Lib.hid la
  have HLB := Lib.hid lb
  have HML : Hid ((rmul a b).length = n) := (rmul_len a b).trans la
  clear xa xb la lb
  go_enter Tryz.func126, Tryz.ntmps126
  go_wp2_with fail
  have S0 := (St.refl W).row_nil 33 1
  go_loopw [6, 5] (fun i v w' => ∃ (k : Nat) (vs : List Value), k ≤ n ∧ i = .int .i64 k ∧ Hid (vs.length = k) ∧ St W w' ([row 33 1 v k vs] ++ ownT 3 vs ((rmul a b).take k))) (fun i _ _ => n - (intOf i).toNat)
  case atStart => exact ⟨0, [], Nat.zero_le _, rfl, rfl, S0⟩
  case round =>
    obtain ⟨k, vs, hk, rfl, HV, S⟩ := hrel
    clear S0
    by_cases hlt : k < n
    · have hka : k < a.length := by rw [HLA.out]; exact hlt
      have hra : a[k]? = some a[k] := List.getElem?_eq_getElem hka
      obtain ⟨ba, oa, Ar, cr, hAa, hrow⟩ := row_of HA.out hra
      subst hAa
      obtain ⟨hrl, hrb⟩ := HXA.out _ (List.getElem_mem hka)
      have HMA := Lib.hid (rmul_at (b := b) HLA.out hra)
      generalize a[k] = r at *
      rw [hrl] at hrow
      have HRL := Lib.hid hrl
      have HRB := Lib.hid hrb
      have HROW := Lib.hid hrow
      obtain ⟨RW, hRW⟩ : ∃ RW, (List.range n).map (fun j => rdot hole r (col b j)) = RW := ⟨_, rfl⟩
      have HRW : Hid (RW.length = n ∧ ∀ j, j < n → RW[j]? = some (rdot hole r (col b j))) := by
        subst hRW
        refine ⟨by simp, fun j hj => ?_⟩
        rw [List.getElem?_map, List.getElem?_range hj]; rfl
      rw [hRW] at HMA
      have HS := Lib.hid S
      obtain ⟨wA, hwA⟩ : ∃ w, w = wr := ⟨_, rfl⟩
      subst hwA
      have HBR := Lib.hid HS.out.bel
      clear hra hrl hrb hrow hka hRW S
      go_wp2_with (first
        | (at_make; refine wpList_make_st eltI rfl _ _ rfl rfl rfl (St.refl wA) (n := n) (by omega) (by omega) ?_; intro w4 g S4 hg4 hb4)
        | fail)
      have hmc : (madeCells (Value.int .i64 0).cells (n * 1)).toList = ints (List.replicate n 0) := by
        show (madeCells #[.int .i64 0] (n * 1)).toList = _
        rw [toList_madeCells_one, ints]; simp
      rw [hmc] at S4
      simp only [List.nil_append] at S4
      clear hmc hg4 hb4
      go_loopw [8] (fun i w' => ∃ (m : Nat) (X : List Int), m ≤ n ∧ i = .int .i64 m ∧ Hid (X.length = n) ∧ Hid (X.take m = RW.take m) ∧ St wA w' [row 3 1 (.slice (some ⟨g, 0, none⟩) n n) n (ints X)]) (fun i _ => n - (intOf i).toNat)
      case atStart => exact ⟨0, _, Nat.zero_le _, rfl, List.length_replicate, rfl, S4⟩
      case round =>
        obtain ⟨m, X, hm, rfl, HXL, HXT, S2⟩ := hrel
        clear S4
        have HBR2 := Lib.hid (HBR.out.trans (S2.bel.mono HBR.out.size))
        by_cases hml : m < n
        · have c0 : wr.cell? ⟨g, m, none⟩ = some (.int .i64 (X.getD m 0)) := by
            rw [(S2.row_own (i := 0) rfl).cellAt m (by omega), ints, List.getElem?_map, List.getElem?_eq_getElem (by rw [HXL.out]; exact hml), List.getD_eq_getElem?_getD, List.getElem?_eq_getElem (by rw [HXL.out]; exact hml)]; rfl
          have f0 := (S2.row_own (i := 0) rfl).frozenAt m
          have S3 := S2.row_set (i := 0) rfl m (.int .i64 (-1000000000000000))
          simp only [List.set_cons_zero] at S3
          rw [show (ints X).set m (.int .i64 (-1000000000000000)) = ints (X.set m (-1000000000000000)) by rw [ints, ints, List.map_set]] at S3
          have HS3 := Lib.hid S3
          have HRD := Lib.hid (HRW.out.2 m hml)
          clear S2 S3
          generalize X.getD m 0 = x0 at *
          go_wp2_with fail
          clear c0 f0
          go_loopw [9] (fun i w' => ∃ (j : Nat) (Y : List Int) (acc : Int), j ≤ n ∧ i = .int .i64 j ∧ Hid (Y.length = n ∧ Y.take m = RW.take m ∧ Y[m]? = some acc) ∧ Hid (rdot acc (r.drop j) ((col b m).drop j) = rdot hole r (col b m)) ∧ St wA w' [row 3 1 (.slice (some ⟨g, 0, none⟩) n n) n (ints Y)]) (fun i _ => n - (intOf i).toNat)
          case atStart => exact ⟨0, _, -1000000000000000, Nat.zero_le _, rfl, ⟨by rw [List.length_set]; exact HXL.out, by rw [take_set_same]; exact HXT.out, by rw [List.getElem?_set, if_pos rfl, if_pos (by rw [HXL.out]; exact hml)]⟩, rfl, HS3.out⟩
          case round =>
            obtain ⟨j, Y, acc, hj, rfl, HY, he, S4⟩ := hrel
            clear HS3
            have HBR3 := Lib.hid (HBR.out.trans (S4.bel.mono HBR.out.size))
            by_cases hjl : j < n
            · obtain ⟨d0, d1⟩ := HROW.out _ HBR3.out
              obtain ⟨b2, o2, x, hA2, hx, cx⟩ := Rd.int (q := .i64) (l := r) d1 hjl
              subst hA2
              have hjb : j < b.length := by rw [HLB.out]; exact hjl
              have hrbj : b[j]? = some b[j] := List.getElem?_eq_getElem hjb
              obtain ⟨hbl, hbb⟩ := HXB.out _ (List.getElem_mem hjb)
              obtain ⟨bb, ob, bb', ob', cb', y, hAb, k1, hcb', hy, k2⟩ := rows_at (HB.out.later HBR3.out) hrbj hbl hml
              subst hAb
              have hxb := HRB.out x (List.mem_of_getElem? hx)
              have hyb := hbb y (List.mem_of_getElem? hy)
              have hcol : (col b m)[j]? = some y := by
                rw [col, List.getElem?_map, hrbj]
                show some (b[j].getD m 0) = _
                rw [List.getD_eq_getElem?_getD, hy]; rfl
              have HGO := Lib.hid (rdot_go hx hcol he.out)
              have HST : Hid (rstep acc x y = if -1000000000000000 < x ∧ -1000000000000000 < y then max acc (x + y) else acc) := rfl
              clear hx hrbj hy hcol he d1 hjb hbl hbb
              by_cases hx0 : -1000000000000000 < x
              · have tx : decide (-1000000000000000 < x) = true := by simpa using hx0
                by_cases hy0 : -1000000000000000 < y
                · have ty : decide (-1000000000000000 < y) = true := by simpa using hy0
                  have hx1 : -1000000000000 ≤ x ∧ x ≤ 1000000000000 := by rcases hxb with e | e <;> (try unfold hole at e) <;> omega
                  have hy1 : -1000000000000 ≤ y ∧ y ≤ 1000000000000 := by rcases hyb with e | e <;> (try unfold hole at e) <;> omega
                  obtain ⟨mx, hmx⟩ : ∃ mx, max acc (x + y) = mx := ⟨_, rfl⟩
                  have HMX : Hid (rstep acc x y = mx) := by
                    show _ = _
                    rw [HST.out, if_pos ⟨hx0, hy0⟩, ← hmx]
                  have c0 : wr.cell? ⟨g, m, none⟩ = some (.int .i64 acc) := by
                    rw [(S4.row_own (i := 0) rfl).cellAt m (by omega), ints, List.getElem?_map, HY.out.2.2]; rfl
                  have HS4 := Lib.hid S4
                  clear S4 HST hxb hyb hx0 hy0
                  go_wp2_with fail
                  refine wp_cls 23 (fun w' => ∃ n, w' = wr.drewN n) (by kernel_rfl) (by kernel_rfl) ⟨1, rfl⟩ ?_
                  simp only [List.take_succ_cons, List.take_zero, List.drop_succ_cons, List.drop_zero]
                  generalize hK : (fun w' => ∃ n, w' = wr.drewN n) = K
                  intro hne
                  have kw : ∀ y : Wd K, ∃ n, y.w = wr.drewN n := by subst hK; exact fun y => y.h
                  have y0 : ∀ y : Wd K, y.w.cell? ⟨g, m, none⟩ = some (.int .i64 acc) := fun y => by obtain ⟨n, e⟩ := kw y; rw [e]; exact c0
                  have y1 : ∀ y : Wd K, y.w.cell? ⟨ba, oa + k, none⟩ = some (.slice (some ⟨b2, o2, none⟩) n cr) := fun y => by obtain ⟨n, e⟩ := kw y; rw [e]; exact d0
                  have y2 : ∀ y : Wd K, y.w.cell? ⟨b2, o2 + j, none⟩ = some (.int .i64 x) := fun y => by obtain ⟨n, e⟩ := kw y; rw [e]; exact cx
                  have y3 : ∀ y : Wd K, y.w.cell? ⟨bb, ob + j, none⟩ = some (.slice (some ⟨bb', ob', none⟩) n cb') := fun y => by obtain ⟨n, e⟩ := kw y; rw [e]; exact k1
                  have y4 : ∀ z : Wd K, z.w.cell? ⟨bb', ob' + m, none⟩ = some (.int .i64 y) := fun y => by obtain ⟨n, e⟩ := kw y; rw [e]; exact k2
                  clear hK c0 d0 cx k1 k2
                  repeat (go_big_quiet_step ((fail)))
                  refine wpQuiet_nil ?_
                  intro yw
                  obtain ⟨nn, hyn⟩ := kw yw
                  have SY := HS4.out.drewN nn
                  rw [← hyn] at SY
                  clear y0 y1 y2 y3 y4 kw hyn hne
                  generalize yw.w = wY at SY ⊢
                  clear yw
                  have e1 : wY.cell? ⟨g, m, none⟩ = some (.int .i64 acc) := by
                    rw [(SY.row_own (i := 0) rfl).cellAt m (by omega), ints, List.getElem?_map, HY.out.2.2]; rfl
                  have e2 := (SY.row_own (i := 0) rfl).frozenAt m
                  have S6 := SY.row_set (i := 0) rfl m (.int .i64 mx)
                  simp only [List.set_cons_zero] at S6
                  rw [show (ints Y).set m (.int .i64 mx) = ints (Y.set m mx) by rw [ints, ints, List.map_set]] at S6
                  have HS6 := Lib.hid S6
                  clear SY S6
                  go_wp2_with fail
                  go_roundw
                  case rel => exact ⟨j + 1, Y.set m mx, mx, by omega, by go_num, ⟨by rw [List.length_set]; exact HY.out.1, by rw [take_set_same]; exact HY.out.2.1, by rw [List.getElem?_set, if_pos rfl, if_pos (by rw [HY.out.1]; exact hml)]⟩, by show _ = _; rw [← HMX.out]; exact HGO.out, HS6.out⟩
                  case measure => simp [intOf]; omega
                · have ty : decide (-1000000000000000 < y) = false := by simpa using hy0
                  have HMX : Hid (rstep acc x y = acc) := by show _ = _; rw [HST.out, if_neg (fun h => hy0 h.2)]
                  have HS4 := Lib.hid S4
                  clear S4 HST hxb hyb hx0 hy0
                  go_wp2
                  go_roundw
                  case rel => exact ⟨j + 1, Y, acc, by omega, by go_num, HY.out, by show _ = _; rw [← HGO.out, HMX.out], HS4.out⟩
                  case measure => simp [intOf]; omega
              · have tx : decide (-1000000000000000 < x) = false := by simpa using hx0
                have HMX : Hid (rstep acc x y = acc) := by show _ = _; rw [HST.out, if_neg (fun h => hx0 h.1)]
                have HS4 := Lib.hid S4
                clear S4 HST hxb hyb hx0
                go_wp2
                go_roundw
                case rel => exact ⟨j + 1, Y, acc, by omega, by go_num, HY.out, by show _ = _; rw [← HGO.out, HMX.out], HS4.out⟩
                case measure => simp [intOf]; omega
            · obtain rfl : j = n := by omega
              have HE := Lib.hid (rdot_end (k := j) (by rw [HRL.out]; exact Nat.le_refl _) he.out)
              have HYT : Hid (Y.take (m + 1) = RW.take (m + 1)) := by
                show _ = _
                rw [take_at HY.out.2.2, take_at HRD.out, HY.out.2.1, HE.out]
              have tjj : decide ((j : Int) < (j : Int)) = false := by simp
              have HS4 := Lib.hid S4
              clear S4 he
              go_wp2
              go_roundw
              case rel => exact ⟨m + 1, Y, by omega, by go_num, HY.out.1, HYT.out, HS4.out⟩
              case measure => simp [intOf]; omega
        · obtain rfl : m = n := by omega
          have hX : X = RW := by
            have := HXT.out
            rwa [List.take_of_length_le (Nat.le_of_eq HXL.out), List.take_of_length_le (Nat.le_of_eq HRW.out.1)] at this
          subst hX
          have S6 := HS.out.call S2
          have tjj : decide ((m : Int) < (m : Int)) = false := by simp
          have HS6 := Lib.hid S6
          clear S6 S2 HXT
          go_wp2_with (at_builtin; refine wpList_append_st eltL rfl _ _ rfl rfl (HS6.out.alloc _) (k := 0) rfl rfl (rd_one (by simp)) one_slice (by omega) (by omega) ?_; intro v' w' S' _)
          go_roundw
          case rel =>
            refine ⟨k + 1, vs ++ [.slice (some ⟨g, 0, none⟩) m m], by omega, by go_num, by show _ = _; simp [HV.out], ?_⟩
            rw [take_at HMA.out, ownT_snoc (by rw [HV.out, List.length_take, HML.out]; omega), HRW.out.1]
            simpa using S'
          case measure => simp [intOf]; omega
    · obtain rfl : k = n := by omega
      rw [List.take_of_length_le (Nat.le_of_eq HML.out)] at S
      have HR := Lib.hid (ownT_rows S (k := 0) rfl (by rw [HV.out, HML.out]))
      have hbW := S.bel
      have tkk : decide ((k : Int) < (k : Int)) = false := by simp
      clear S
      go_wp2
      go_ret
      exact ⟨_, rfl, hbW, HR.out⟩
end Go.Proofs.YtjfhncnpmelopaaGreatDoor
