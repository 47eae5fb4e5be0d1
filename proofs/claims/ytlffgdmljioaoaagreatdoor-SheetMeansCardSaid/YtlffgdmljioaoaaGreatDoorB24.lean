/- Part 24 of the walks of the golf union's program: QV3, QP1, QW2, QW3, WR11, WS1, WR12. -/
import Derived.Test.YtlffgdmljioaoaaGreatDoorB23
import Derived.Test.YtlffgdmljioaoaaGreatDoorB03
import Derived.Test.YtlffgdmljioaoaaGreatDoorB08
import Derived.Test.YtlffgdmljioaoaaGreatDoorB21
import Derived.Deep.CutRange
import Derived.Test.YtlffgdmljioaoaaGreatDoorB20
import Derived.Test.YtlffgdmljioaoaaGreatDoorB09
import Derived.Test.YtlffgdmljioaoaaGreatDoorB19
set_option linter.unusedVariables false
set_option linter.unusedSimpArgs false
set_option linter.unusedSectionVars false
set_option linter.constructorNameAsVariable false
/- Walks: the program's CheckCycle. -/
namespace Go.Sheet
def pcE (m : IMat) (cy : List Int) : Int := if matE m = 0 then cycE m.length m cy else matE m
def pcT (m : IMat) (cy : List Int) : ByteArray := if matE m = 0 then cycT m.length m cy else ⟨#[]⟩
end Go.Sheet
namespace Go.Proofs.YtlffgdmljioaoaaGreatDoor
open Go.RowKit Go.Mem Go.Sheet
set_option maxRecDepth 100000 in
set_option maxHeartbeats 2000000 in
theorem checkC_any (W : World) (v vc : Value) (m : IMat) (cy : List Int) (hL : cy.length ≤ 40) (hI : ∀ w, Below W.heap.size W w → ∀ s, -1000000000000000 ≤ s → s ≤ 1000000000000000 → ItoaAt s (tB (Lib.itoa s)) w) (h : RdRows W (· < W.heap.size) v m) (hc : Rd W (· < W.heap.size) 1 vc cy.length (cy.map (Value.int .i64))) :
    Calls Tryz.prog 9 #[v, vc] W (RetCyc W (pcT m cy) (pcE m cy)) := by
  have HCM := Lib.hid (checkMatrix_any W v m h)
  have HCC := Lib.hid (fun (h0 : matE m = 0) w (hb : Below W.heap.size W w) => checkCycle_any w v vc m.length m cy (matOk_of h0) hL (h.later hb) (hc.later hb))
  have HH := Lib.hid h
  have HC := Lib.hid hc
  obtain ⟨vs, g1, _⟩ := h
  obtain ⟨A, c, rfl, _, _, _⟩ := g1.open_
  obtain ⟨A2, c2, rfl, _, _, _⟩ := hc.open_
  clear g1 hc
  have HPE : Hid (pcE m cy = if matE m = 0 then cycE m.length m cy else matE m) := Lib.hid rfl
  have HPT : Hid (pcT m cy = if matE m = 0 then cycT m.length m cy else ⟨#[]⟩) := Lib.hid rfl
  have HT := Lib.hid (fun e h h0 => cycT_bad (n := m.length) (m := m) (cy := cy) (e := e) h h0)
  have HTO := Lib.hid (fun h => cycT_ok (n := m.length) (m := m) (cy := cy) h)
  have HN1 : Hid (cycE m.length m cy = 0 → 0 < cy.length ∧ cyE1 m.length cy = 0 ∧ ∀ i, i < cy.length → cyA m cy i ≠ NONE) := Lib.hid (fun h => by
    have hk := (cycE_zero _ _ _).1 h
    refine ⟨hk.ne, ?_, hk.ed⟩
    by_cases h1 : cyE1 m.length cy = 0
    · exact h1
    · rw [cycE_one (by have := hk.ne; omega) _ h1 rfl] at h; exact h)
  have HAT := Lib.hid (fun (h0 : matE m = 0) (h : cyE1 m.length cy = 0) (i : Nat) (hi : i < cy.length) => cyA_at (matOk_of h0) h hi)
  have HBD := Lib.hid (fun (h0 : matE m = 0) (h : cyE1 m.length cy = 0) => cySum_bd (matOk_of h0) h)
  have HSU : Hid (cycS m cy = cySum m cy cy.length) := Lib.hid rfl
  have HIT := Lib.hid hI
  clear hI
  generalize hLn : cy.length = L at *
  clear hLn
  generalize hnn : m.length = n at *
  clear hnn
  go_enter Tryz.func9, Tryz.ntmps9
  go_wp2_with fail
  refine HCM.out.mono ?_
  rintro e w2 ⟨rfl, hb2⟩
  have HB2 := Lib.hid hb2
  clear hb2 HCM
  by_cases hm : matE m = 0
  · have HC2 := Lib.hid (HCC.out hm w2 HB2.out)
    have HAT2 := Lib.hid (HAT.out hm)
    have HBD2 := Lib.hid (HBD.out hm)
    have HPE2 : Hid (pcE m cy = cycE n m cy) := Lib.hid (by rw [HPE.out, if_pos hm])
    have HPT2 : Hid (pcT m cy = cycT n m cy) := Lib.hid (by rw [HPT.out, if_pos hm])
    rw [hm]
    clear HCC HAT HBD HPE HPT hm
    go_wp2_with fail
    refine HC2.out.mono ?_
    rintro e w3 ⟨rfl, hb3⟩
    have HB3 := Lib.hid (HB2.out.trans (hb3.mono HB2.out.size))
    clear hb3 HC2 HB2
    by_cases h0 : cycE n m cy = 0
    · obtain ⟨hLp, hE1, hno⟩ := HN1.out h0
      have HE0 := Lib.hid h0
      have HE1 := Lib.hid hE1
      have HNO := Lib.hid hno
      rw [h0]
      clear HN1 h0 hE1 hno
      go_wp2_with fail
      go_loopw [8, 24] (fun s i w' => ∃ j : Nat, j ≤ L ∧ i = .int .i64 j ∧ s = .int .i64 (cySum m cy j) ∧ Below W.heap.size W w') (fun s i _ => L - (intOf i).toNat)
      case atStart => exact ⟨0, Nat.zero_le _, rfl, rfl, HB3.out⟩
      case round =>
        obtain ⟨j, hj, rfl, rfl, hb⟩ := hrel
        obtain ⟨hs1, hs2⟩ := HBD2.out HE1.out j hj (fun i hi => HNO.out i (by omega))
        have HB := Lib.hid hb
        have HCW := Lib.hid (HC.out.later hb)
        have HHW := Lib.hid (HH.out.later hb)
        clear hb HB3
        by_cases hjk : j < L
        · obtain ⟨P, a, b, r, x, hP, hPe, hca, hcb, han, hbn, hr, hrl, hrb, hA, hxb⟩ := HAT2.out HE1.out j hjk
          have HSS : Hid (cySum m cy (j + 1) = cySum m cy j + x) := Lib.hid (by rw [← hA]; rfl)
          have hxn : x ≠ NONE := by rw [← hA]; exact HNO.out j hjk
          have hx2 : -999999999 ≤ x ∧ x ≤ 999999999 := hxb.resolve_left hxn
          obtain ⟨b1, o1, x1, hA1, hx1, cx1⟩ := Rd.int (q := .i64) (l := cy) HCW.out hjk
          obtain ⟨b2, o2, x2, hA2, hx2', cx2⟩ := Rd.int (q := .i64) (l := cy) HCW.out hP
          subst hA1
          cases hA2
          obtain rfl : x1 = (a : Int) := by rw [hca] at hx1; exact (Option.some.inj hx1).symm
          obtain rfl : x2 = (b : Int) := by rw [hcb] at hx2'; exact (Option.some.inj hx2').symm
          obtain ⟨b3, o3, Ar, cr, hA3, hrow⟩ := row_of HHW.out hr
          subst hA3
          obtain ⟨d0, d1⟩ := hrow wr (Below.refl _ _)
          rw [hrl] at d0 d1
          obtain ⟨b4, o4, x4, hA4, hx4, cx4⟩ := Rd.int (q := .i64) (l := r) d1 hbn
          subst hA4
          obtain rfl : x4 = x := by rw [hrb] at hx4; exact (Option.some.inj hx4).symm
          have hmod : Int.tmod ((j : Int) + (L : Int) - 1) (L : Int) = (P : Int) := by
            rw [hPe, Int.tmod_eq_emod_of_nonneg (by omega), show (j : Int) + (L : Int) - 1 = ((j + L - 1 : Nat) : Int) by omega]
            rfl
          clear hPe hca hcb hx1 hx2' hrow hrl hrb hA hx4 hr d1 hxn hxb
          generalize hsg : cySum m cy j = sg at *
          have hw1 : IntKind.i64.wrap ((j : Int) + L) = (j : Int) + L := IntWalk.i64_in _ (by omega)
          have hw2 : IntKind.i64.wrap ((j : Int) + L - 1) = (j : Int) + L - 1 := IntWalk.i64_in _ (by omega)
          have hw3 : IntKind.i64.wrap (P : Int) = (P : Int) := IntWalk.i64_in _ (by omega)
          have hw4 : IntKind.i64.wrap (sg + x4) = sg + x4 := IntWalk.i64_in _ (by omega)
          have hL0 : ¬ L = 0 := by omega
          have hLz : ¬ (L : Int) = 0 := by omega
          clear hsg
          go_wp2_with fail
          go_quiet (fail)
          clear hw1 hw2 hw3 hw4
          go_wp2_with fail
          go_roundw
          case rel => exact ⟨j + 1, by omega, by go_num, by rw [HSS.out], bel_drewN HB.out _⟩
          case measure => simp [intOf]; omega
        · obtain rfl : j = L := by omega
          have HT2 := Lib.hid (HTO.out HE0.out)
          have tjj : decide ((j : Int) < (j : Int)) = false := by simp
          have HOF := Lib.hid (cof_any wr (cySum m cy j) j (by omega) (by omega) (fun s h1 h2 => HIT.out wr HB.out s h1 h2))
          have HST : Hid (cycS m cy = cySum m cy j) := HSU
          generalize cySum m cy j = sg at *
          go_wp2_with fail
          refine HOF.out.mono ?_
          rintro e w5 ⟨rfl, hb5⟩
          go_wp2
          go_ret2
          exact retCyc (by rw [HPT2.out, HT2.out, HST.out]) (by rw [HPE2.out, HE0.out]) (HB.out.trans (hb5.mono HB.out.size))
    · have tz : (cycE n m cy != 0) = true := by simpa using h0
      have HR := Lib.hid (HT.out _ rfl h0)
      clear h0
      go_wp2_with fail
      go_ret2
      exact retCyc (by rw [HPT2.out, HR.out]) HPE2.out.symm HB3.out
  · have tz : (matE m != 0) = true := by simpa using hm
    have HPE2 : Hid (pcE m cy = matE m) := Lib.hid (by rw [HPE.out, if_neg hm])
    have HPT2 : Hid (pcT m cy = ⟨#[]⟩) := Lib.hid (by rw [HPT.out, if_neg hm])
    clear hm
    go_wp2_with fail
    go_ret2
    exact retCyc HPT2.out.symm HPE2.out.symm HB2.out
end Go.Proofs.YtlffgdmljioaoaaGreatDoor
/- The reference's search over all cycles, step by step: plain. -/
namespace Go.Sheet
def BT : BO → ByteArray
  | none => ⟨#[]⟩
  | some y => tB (txtL y.1 y.2)
theorem digits_ne (n : Nat) : Lib.decDigits n ≠ [] := by
  rw [Lib.decDigits]
  split
  · simp
  · simp
theorem itoa_ne (z : Int) : Lib.itoa z ≠ [] := by
  unfold Lib.itoa
  split
  · simp
  · exact digits_ne _
theorem txtL_ne (p q : Int) : txtL p q ≠ [] := by
  unfold txtL
  intro h
  exact itoa_ne _ (List.append_eq_nil_iff.1 h).1
section
variable {n : Nat} {m : IMat}
def stepQ (n : Nat) (m : IMat) (f : Nat) (p : List Nat) (b : BO) (k : Nat) : BO := if at2 m k (p.getD (p.length - 1) 0) = NONE ∨ k ∈ p then b else pathsF n m f (p ++ [k]) b
def pathsG (n : Nat) (m : IMat) (f : Nat) (p : List Nat) (t : Nat) (b : BO) : BO := (List.range' (p.getD 0 0 + 1) t).foldl (stepQ n m f p) b
theorem pathsG_succ (f : Nat) (p : List Nat) (t : Nat) (b : BO) : pathsG n m f p (t + 1) b = stepQ n m f p (pathsG n m f p t b) (p.getD 0 0 + 1 + t) := by
  rw [pathsG, List.range'_1_concat, List.foldl_append]; rfl
theorem pathsF_G (f : Nat) (p : List Nat) (b : BO) : pathsF n m (f + 1) p b = pathsG n m f p (n - (p.getD 0 0 + 1)) (upC n m p b) := rfl
theorem pathsG_good (f : Nat) (p : List Nat) (t : Nat) (b : BO) (h : GoodB n m b) : GoodB n m (pathsG n m f p t b) := by
  induction t with
  | zero => exact h
  | succ t ih =>
    rw [pathsG_succ, stepQ]
    split
    · exact ih
    · exact (pathsF_inv _ _ _ ih).1
/-- is the list's mean the best so far? -/
def upD (n : Nat) (m : IMat) (p : List Nat) (b : BO) : Bool := decide (cycE n m (natL p) = 0) && (match b with | none => true | some y => decide (y.1 * (p.length : Int) < cycS m (natL p) * y.2))
theorem upC_D (p : List Nat) (b : BO) : upC n m p b = if upD n m p b then some (cycS m (natL p), (p.length : Int)) else b := by
  unfold upC upD upB
  by_cases h : cycE n m (natL p) = 0
  · rw [if_pos h, decide_eq_true h]
    cases b with
    | none => rfl
    | some y =>
      simp only [Bool.true_and, decide_eq_true_eq]
  · rw [if_neg h, decide_eq_false h]; rfl
theorem upD_zero {p : List Nat} {b : BO} (h : upD n m p b = true) : cycE n m (natL p) = 0 := by
  unfold upD at h
  rw [Bool.and_eq_true] at h
  exact of_decide_eq_true h.1
structure PathOk (n f : Nat) (p : List Nat) : Prop where
  ne : 0 < p.length
  lt : ∀ x ∈ p, x < n
  two : ∀ i j, i < j → j < p.length → p.getD i 0 ≠ p.getD j 0
  len : p.length + f = n + 1
theorem PathOk.fuel {f : Nat} {p : List Nat} (h : PathOk n f p) : ∃ f', f = f' + 1 := by
  cases f with
  | succ f => exact ⟨f, rfl⟩
  | zero =>
    have hl := h.len
    obtain ⟨t1, t2, h1, h2, e⟩ := pigeonQ (f := fun t => p.getD t 0) (N := n) (k := p.length) (fun t ht => h.lt _ (by
      show p.getD t 0 ∈ p
      rw [List.getD_eq_getElem?_getD, List.getElem?_eq_getElem ht]; exact List.getElem_mem ht)) (by omega)
    exact absurd e (h.two t1 t2 h1 h2)
theorem PathOk.snoc {f : Nat} {p : List Nat} (h : PathOk n (f + 1) p) {k : Nat} (hk : k < n) (hno : ¬ k ∈ p) : PathOk n f (p ++ [k]) := by
  refine ⟨by simp, fun x hx => ?_, fun i j hij hj => ?_, by have := h.len; simp; omega⟩
  · rcases List.mem_append.1 hx with hx | hx
    · exact h.lt x hx
    · rw [List.mem_singleton.1 hx]; exact hk
  · rw [List.length_append, List.length_singleton] at hj
    have hi : i < p.length := by omega
    have e1 : (p ++ [k]).getD i 0 = p.getD i 0 := by rw [List.getD_eq_getElem?_getD, List.getElem?_append_left hi, ← List.getD_eq_getElem?_getD]
    rw [e1]
    by_cases hjl : j < p.length
    · have e2 : (p ++ [k]).getD j 0 = p.getD j 0 := by rw [List.getD_eq_getElem?_getD, List.getElem?_append_left hjl, ← List.getD_eq_getElem?_getD]
      rw [e2]; exact h.two i j hij hjl
    · obtain rfl : j = p.length := by omega
      have e2 : (p ++ [k]).getD p.length 0 = k := by simp
      rw [e2]
      intro e
      apply hno
      rw [← e, List.getD_eq_getElem?_getD, List.getElem?_eq_getElem hi]
      exact List.getElem_mem hi
theorem PathOk.one {i : Nat} (hi : i < n) : PathOk n n [i] := ⟨by simp, fun x hx => by rw [List.mem_singleton.1 hx]; exact hi, fun a b hab hb => by simp at hb; omega, by simp; omega⟩
theorem CycOk.len_le {cy : List Int} (h : CycOk n m cy) : cy.length ≤ n := by
  refine Nat.le_of_not_lt fun hlt => ?_
  obtain ⟨t1, t2, h1, h2, e⟩ := pigeonQ (f := fun t => (cy.getD t 0).toNat) (N := n) (k := cy.length) (fun t ht => by have := h.lt t ht; show (cy.getD t 0).toNat < n; omega) hlt
  have a := h.lt t1 (by omega)
  have b := h.lt t2 h2
  have e : (cy.getD t1 0).toNat = (cy.getD t2 0).toNat := e
  exact h.two t2 t1 h1 h2 (by omega)
theorem cySum_rng {cy : List Int} (hm : MatOk n m) (h : CycOk n m cy) : -((cy.length : Int) * 999999999) ≤ cycS m cy ∧ cycS m cy ≤ (cy.length : Int) * 999999999 := by
  have hs : ∀ k, k ≤ cy.length → -((k : Int) * 999999999) ≤ cySum m cy k ∧ cySum m cy k ≤ (k : Int) * 999999999 := by
    intro k
    induction k with
    | zero => intro _; simp [cySum]
    | succ k ih =>
      intro hk
      have ih := ih (by omega)
      have hP : (k + cy.length - 1) % cy.length < cy.length := Nat.mod_lt _ (by omega)
      have h1 := h.lt k (by omega)
      have h2 := h.lt _ hP
      have h3 := h.ed k (by omega)
      have hb := hm.bd (cy.getD k 0).toNat (cy.getD ((k + cy.length - 1) % cy.length) 0).toNat (by omega) (by omega)
      have hb : cyA m cy k = NONE ∨ -999999999 ≤ cyA m cy k ∧ cyA m cy k ≤ 999999999 := hb
      have hb := hb.resolve_left h3
      rw [cySum]
      have e : (((k + 1 : Nat)) : Int) = (k : Int) + 1 := by omega
      rw [e]
      omega
  exact hs _ (Nat.le_refl _)
def BdB (b : BO) : Prop := ∀ y, b = some y → (-6000000000 ≤ y.1 ∧ y.1 ≤ 6000000000) ∧ 1 ≤ y.2 ∧ y.2 ≤ 6
theorem GoodB.bd {b : BO} (hm : MatOk n m) (hn : n ≤ 6) (h : GoodB n m b) : BdB b := by
  intro y e
  obtain ⟨cy, hc, rfl⟩ := h y e
  have h1 := cySum_rng hm hc
  have h2 := hc.len_le
  have h3 := hc.ne
  show (-6000000000 ≤ cycS m cy ∧ cycS m cy ≤ 6000000000) ∧ 1 ≤ (cy.length : Int) ∧ (cy.length : Int) ≤ 6
  omega
end
def meanG (n : Nat) (m : IMat) (t : Nat) : BO := (List.range t).foldl (fun b i => pathsF n m n [i] b) none
theorem meanG_succ (n : Nat) (m : IMat) (t : Nat) : meanG n m (t + 1) = pathsF n m n [t] (meanG n m t) := by
  rw [meanG, List.range_succ, List.foldl_append]; rfl
theorem meanG_good (n : Nat) (m : IMat) (t : Nat) : GoodB n m (meanG n m t) := by
  induction t with
  | zero => intro y e; cases e
  | succ t ih => rw [meanG_succ]; exact (pathsF_inv _ _ _ ih).1
end Go.Sheet
/- Walks of the reference's paths. -/
namespace Go.Proofs.YtlffgdmljioaoaaGreatDoor
open Go.RowKit Go.Mem Go.Sheet
/-- Cmp on fractions' texts: its sign -/
def CmpOk : Prop := ∀ (w : World) (p q p' q' : Int), (-6000000000 ≤ p ∧ p ≤ 6000000000) → (1 ≤ q ∧ q ≤ 6) → (-6000000000 ≤ p' ∧ p' ≤ 6000000000) → (1 ≤ q' ∧ q' ≤ 6) →
  Calls Tryz.prog 26 #[.string (tB (txtL p q)), .string (tB (txtL p' q'))] w fun e w' => (∃ z : Int, e = .returned (.int .i64 z) ∧ (0 < z ↔ p' * q < p * q')) ∧ Below w.heap.size w w'
def RetBO (W : World) (b : BO) (e : Ending) (w' : World) : Prop := e = .returned (.string (BT b)) ∧ Below W.heap.size W w'
set_option maxRecDepth 100000 in
set_option maxHeartbeats 2000000 in
theorem paths_any (HCMP : Hid CmpOk) (n : Nat) (m : IMat) (v : Value) (hm : MatOk n m) (hn : n ≤ 6) : ∀ (f : Nat) (w : World) (vp : Value) (p : List Nat) (b : BO), PathOk n f p → GoodB n m b → RdRows w (· < w.heap.size) v m →
    Rd w (· < w.heap.size) 1 vp p.length ((natL p).map (Value.int .i64)) → Calls Tryz.prog 59 #[v, vp, .string (BT b)] w (RetBO w (pathsF n m f p b)) := by
  intro f
  induction f with
  | zero => intro w vp p b hp; obtain ⟨f', h⟩ := hp.fuel; cases h
  | succ f ih =>
  intro w vp p b hp hb h hc
  have HIH := Lib.hid ih
  have HP := Lib.hid hp
  have HGB := Lib.hid hb
  have HMO := Lib.hid hm
  have HH := Lib.hid h
  have HC := Lib.hid hc
  have hpl : p.length ≤ n := by have := hp.len; omega
  have hpn := hp.ne
  have HRC := Lib.hid (refCycle_any w v vp n m (natL p) hm (by omega) h (by rw [natL_len]; exact hc) (by rw [natL_len]; omega))
  obtain ⟨vs, g1, _⟩ := h
  rw [hm.len] at g1
  obtain ⟨A, c, rfl, _, _, _⟩ := g1.open_
  obtain ⟨A2, c2, rfl, _, _, _⟩ := hc.open_
  have HT := Lib.hid (fun h0 => cycT_ok (n := n) (m := m) (cy := natL p) h0)
  have HUB : Hid (GoodB n m (upC n m p b)) := Lib.hid (upC_inv p hb).1
  have HUP : Hid (upC n m p b = if cycE n m (natL p) = 0 then upB b (cycS m (natL p), (p.length : Int)) else b) := Lib.hid rfl
  clear ih hp hb hm hc g1
  go_enter Tryz.func59, Tryz.ntmps59
  go_wp2_with fail
  refine HRC.out.mono ?_
  rintro e w2 ⟨rfl, hb2⟩
  go_upto_region 2 with fail
  go_cut [29] from 12 to 29 (fun s wx => s = .bool (upD n m p b) ∧ Below w.heap.size w wx)
  case first =>
    by_cases h0 : cycE n m (natL p) = 0
    · have HT0 := Lib.hid (HT.out h0)
      have HQ := Lib.hid (CycOk.len_le ((cycE_zero _ _ _).1 h0))
      have hrg := cySum_rng HMO.out ((cycE_zero _ _ _).1 h0)
      rw [natL_len] at hrg
      cases b with
      | none =>
        have HD : Hid (upD n m p none = true) := Lib.hid (by unfold upD; rw [decide_eq_true h0]; rfl)
        have t0 : (cycE n m (natL p) == 0) = true := by simpa using h0
        have te : (BT none).toList.isEmpty = true := by rw [show BT none = tB [] from rfl, tB_list]; rfl
        clear h0
        go_wp2
        go_meet
        case rel => exact ⟨by rw [HD.out], hb2⟩
      | some y =>
        have hbd := HGB.out.bd HMO.out hn y rfl
        have HD : Hid (upD n m p (some y) = decide (y.1 * (p.length : Int) < cycS m (natL p) * y.2)) := Lib.hid (by unfold upD; rw [decide_eq_true h0, Bool.true_and])
        have hcm := HCMP.out w2 (cycS m (natL p)) p.length y.1 y.2 (by omega) (by omega) hbd.1 hbd.2
        rw [show ((p.length : Nat) : Int) = ((natL p).length : Int) by rw [natL_len], ← HT0.out, show tB (txtL y.1 y.2) = BT (some y) from rfl, natL_len] at hcm
        have HCM := Lib.hid hcm
        clear hcm
        have t0 : (cycE n m (natL p) == 0) = true := by simpa using h0
        have te : (BT (some y)).toList.isEmpty = false := by rw [show BT (some y) = tB (txtL y.1 y.2) from rfl, tB_list, List.isEmpty_eq_false_iff]; exact txtL_ne _ _
        clear h0
        go_wp2_with fail
        refine HCM.out.mono ?_
        rintro e w3 ⟨⟨z, rfl, hz⟩, hb3⟩
        have HZ : Hid (decide (0 < z) = upD n m p (some y)) := Lib.hid (by rw [HD.out]; exact decide_eq_decide.2 hz)
        have HB3 := Lib.hid (hb2.trans (hb3.mono hb2.size))
        clear hz hb3
        go_wp2
        go_meet
        case rel => exact ⟨congrArg Value.bool HZ.out, HB3.out⟩
    · have HD : Hid (upD n m p b = false) := Lib.hid (by unfold upD; rw [decide_eq_false h0, Bool.false_and])
      have t0 : (cycE n m (natL p) == 0) = false := by simpa using h0
      clear h0
      go_wp2
      go_meet
      case rel => exact ⟨by rw [HD.out], hb2⟩
  case rest =>
    obtain ⟨rfl, hbc⟩ := hcut
    go_upto_if 29 with fail
    go_cut [2] from 29 to 30 (fun s wx => s = .string (BT (upC n m p b)) ∧ wx = wc)
    case first =>
      cases hD : upD n m p b with
      | true =>
        have HD : Hid (upC n m p b = some (cycS m (natL p), (p.length : Int))) := Lib.hid (by rw [upC_D, hD]; rfl)
        have HT0 := Lib.hid (HT.out (upD_zero hD))
        clear hD
        go_wp2
        go_meet
        case rel => exact ⟨by rw [HD.out, HT0.out, natL_len]; rfl, rfl⟩
      | false =>
        have HD : Hid (upC n m p b = b) := Lib.hid (by rw [upC_D, hD]; rfl)
        clear hD
        go_wp2
        go_meet
        case rel => exact ⟨by rw [HD.out], rfl⟩
    case rest =>
      obtain ⟨rfl, rfl⟩ := hcut
      have HBC := Lib.hid hbc
      have HFG : Hid (pathsF n m (f + 1) p b = pathsG n m f p (n - (p.getD 0 0 + 1)) (upC n m p b)) := Lib.hid (pathsF_G f p b)
      generalize upC n m p b = b1 at *
      obtain ⟨b0, o0, x0, hA0, hx0, c0⟩ := Rd.int (q := .i64) (l := natL p) (HC.out.later HBC.out) hpn
      subst hA0
      obtain ⟨p0, hp0⟩ : ∃ p0, p0 = p.getD 0 0 := ⟨_, rfl⟩
      have hp0n : p0 < n := by rw [hp0]; exact HP.out.lt _ (by rw [List.getD_eq_getElem?_getD, List.getElem?_eq_getElem hpn]; exact List.getElem_mem hpn)
      obtain rfl : x0 = (p0 : Int) := by
        have h1 := natL_getD p 0
        rw [List.getD_eq_getElem?_getD, hx0, ← hp0] at h1
        exact h1
      have HP0 := Lib.hid hp0
      rw [← hp0] at HFG
      rw [Nat.add_zero] at c0
      clear hbc hx0 hp0 HT HUP HRC hb2
      go_wp2_with fail
      go_loopw [9, 2] (fun ix s w' => ∃ t i : Nat, t ≤ n - (p0 + 1) ∧ Hid (i = p0 + 1 + t) ∧ ix = .int .i64 (i : Int) ∧ s = .string (BT (pathsG n m f p t b1)) ∧ Below w.heap.size w w') (fun i _ _ => n - (intOf i).toNat)
      case atStart => exact ⟨0, p0 + 1, Nat.zero_le _, rfl, by go_num, rfl, HBC.out⟩
      case round =>
        obtain ⟨t, i, ht, HI, rfl, rfl, hbw⟩ := hrel
        have HBW := Lib.hid hbw
        clear hbw HBC c0
        by_cases hlt : i < n
        · have hil : i < m.length := by rw [HMO.out.len]; exact hlt
          have hr : m[i]? = some m[i] := List.getElem?_eq_getElem hil
          have hrl : m[i].length = n := HMO.out.row _ (List.getElem_mem hil)
          obtain ⟨b1', o1, Ar, cr, hA3, hrow⟩ := row_of (HH.out.later HBW.out) hr
          subst hA3
          obtain ⟨d0, d1⟩ := hrow wr (Below.refl _ _)
          rw [hrl] at d0 d1
          obtain ⟨l1, hl1⟩ : ∃ l1, l1 = p.length - 1 := ⟨_, rfl⟩
          obtain ⟨b2, o2, x2, hA2, hx2, c2'⟩ := Rd.int (q := .i64) (l := natL p) (HC.out.later HBW.out) (show l1 < p.length by omega)
          cases hA2
          obtain ⟨pl, hpl2⟩ : ∃ pl, pl = p.getD l1 0 := ⟨_, rfl⟩
          have hpln : pl < n := by rw [hpl2]; exact HP.out.lt _ (by rw [List.getD_eq_getElem?_getD, List.getElem?_eq_getElem (show l1 < p.length by omega)]; exact List.getElem_mem _)
          obtain rfl : x2 = (pl : Int) := by
            have h1 := natL_getD p l1
            rw [List.getD_eq_getElem?_getD, hx2, ← hpl2] at h1
            exact h1
          obtain ⟨b4, o4, x, hA4, hx4, cx4⟩ := Rd.int (q := .i64) (l := m[i]) d1 hpln
          subst hA4
          have HX : Hid (at2 m i (p.getD (p.length - 1) 0) = x) := Lib.hid (by
            rw [← hl1, ← hpl2, at2, List.getD_eq_getElem?_getD, List.getD_eq_getElem?_getD, hr]
            show ((m[i])[pl]?).getD 0 = x
            rw [hx4]; rfl)
          have HL1 := Lib.hid hl1
          have HPL := Lib.hid hpl2
          have HGO := Lib.hid (pathsG_good f p t b1 HUB.out)
          have HGS : Hid (pathsG n m f p (t + 1) b1 = stepQ n m f p (pathsG n m f p t b1) i) := Lib.hid (by rw [pathsG_succ, ← HP0.out, HI.out])
          have hw1 : IntKind.i64.wrap ((p.length : Int) - 1) = (l1 : Int) := by rw [IntWalk.i64_in _ (by omega)]; omega
          have hw2 : ((p.length : Int) - 1).toNat = l1 := by omega
          have hw3 : 0 ≤ (p.length : Int) - 1 := by omega
          have hw4 : l1 < p.length := by omega
          generalize pathsG n m f p t b1 = bt at *
          generalize m[i] = r at *
          clear hr hrl hrow d1 hx2 hpl2 hx4 hl1
          go_wp2_with fail
          go_quiet (fail)
          clear hw1 hw2 hw3 hw4 d0 c2' cx4
          have HBN : Hid (Below w.heap.size w (wr.drewN nq)) := Lib.hid (bel_drewN HBW.out _)
          generalize wr.drewN nq = wy at *
          clear HBW
          go_wp2_with fail
          generalize hbad : (x == -1000000000) = bad0
          have HBAD := Lib.hid hbad
          clear hbad
          have HCY := Lib.hid (HC.out.later HBN.out)
          go_loop [10, 11] (fun bd j => ∃ k : Nat, k ≤ p.length ∧ j = .int .i64 k ∧ bd = .bool (bad0 || decide (i ∈ p.take k))) (fun bd j => p.length - (intOf j).toNat)
          case atStart => exact ⟨0, Nat.zero_le _, rfl, by simp⟩
          case round =>
            obtain ⟨k, hk, rfl, rfl⟩ := hrel
            by_cases hkl : k < p.length
            · obtain ⟨b5, o5, x5, hA5, hx5, cx5⟩ := Rd.int (q := .i64) (l := natL p) HCY.out hkl
              cases hA5
              have hpk : p[k]? = some p[k] := List.getElem?_eq_getElem hkl
              obtain rfl : x5 = ((p[k] : Nat) : Int) := by
                have h1 := natL_getD p k
                rw [List.getD_eq_getElem?_getD, hx5, List.getD_eq_getElem?_getD, hpk] at h1
                exact h1
              have HTK : Hid (decide (i ∈ p.take (k + 1)) = (decide (i ∈ p.take k) || decide (i = p[k]))) := Lib.hid (by
                rw [take_at hpk, Bool.eq_iff_iff, decide_eq_true_eq, List.mem_append, List.mem_singleton, Bool.or_eq_true, decide_eq_true_eq, decide_eq_true_eq])
              generalize p[k] = pk at *
              clear hx5 hpk
              cases hbd : (bad0 || decide (i ∈ p.take k)) with
              | true =>
                have HBD := Lib.hid hbd
                clear hbd
                go_wp2_with fail
                go_round
                case rel => exact ⟨k + 1, by omega, by go_num, by rw [HTK.out, ← Bool.or_assoc, HBD.out]; rfl⟩
                case measure => simp [intOf]; omega
              | false =>
                have HBD := Lib.hid hbd
                clear hbd
                go_wp2_with fail
                go_round
                case rel => exact ⟨k + 1, by omega, by go_num, by rw [HTK.out, ← Bool.or_assoc, HBD.out, Bool.false_or]; congr 1; rw [Bool.eq_iff_iff]; simp; omega⟩
                case measure => simp [intOf]; omega
            · obtain rfl : k = p.length := by omega
              rw [List.take_length]
              have tkk : decide ((p.length : Int) < (p.length : Int)) = false := by simp
              cases hbd : (bad0 || decide (i ∈ p)) with
              | true =>
                have HS : Hid (stepQ n m f p bt i = bt) := Lib.hid (by
                  rw [stepQ, if_pos]
                  rw [HX.out]
                  rw [Bool.or_eq_true, ← HBAD.out] at hbd
                  simpa [NONE] using hbd)
                clear hbd
                go_wp2_with fail
                go_roundw
                case rel => exact ⟨t + 1, i + 1, by have := HI.out; omega, by have := HI.out; show _ = _; omega, by go_num, by rw [HGS.out, HS.out], HBN.out⟩
                case measure => simp [intOf]; omega
              | false =>
                have hno : ¬ (x = NONE ∨ i ∈ p) := by
                  intro h
                  have : (bad0 || decide (i ∈ p)) = true := by
                    rw [Bool.or_eq_true, ← HBAD.out]
                    simpa [NONE] using h
                  rw [this] at hbd; cases hbd
                have HS : Hid (stepQ n m f p bt i = pathsF n m f (p ++ [i]) bt) := Lib.hid (by rw [stepQ, HX.out, if_neg hno])
                have HSN := Lib.hid (HP.out.snoc hlt (fun h => hno (.inr h)))
                clear hbd hno
                have U1 := (St.refl wy).row_new (e := 3) (size := 1) (n := 0) #[] (by unfold maxLen; omega) rfl
                simp only [List.cons_append, List.nil_append] at U1
                go_wp2_with (at_builtin; first
                  | (refine wpList_append_st eltI rfl _ _ rfl rfl U1 (k := 0) rfl rfl (HCY.out.later U1.bel) (ints_one _ _) (by omega) (by omega) ?_; intro v5 w5 U2 _; have U3 := U2.blk_new #[.int .i64 (i : Int)] 3; simp only [List.set_cons_zero, List.cons_append, List.nil_append] at U3)
                  | (refine wpList_append_st eltI rfl _ _ rfl rfl U3 (k := 0) rfl rfl (rd_of_blk U3 (i := 1) rfl) (one_int _ _) (by omega) (by omega) ?_; intro v6 w6 U4 _; simp only [List.set_cons_zero] at U4))
                have BW6 := HBN.out.trans (U4.bel.mono HBN.out.size)
                have RD : Rd w6 (· < w6.heap.size) 1 v6 (p ++ [i]).length ((natL (p ++ [i])).map (Value.int .i64)) := by
                  have h4 := (U4.row_rd (i := 0) rfl).mono (S' := (· < w6.heap.size)) (fun b _ h => h.2)
                  simpa [natL] using h4
                have HCALL := Lib.hid (HIH.out w6 v6 (p ++ [i]) bt HSN.out HGO.out (HH.out.later BW6) RD)
                have HB6 := Lib.hid BW6
                clear U1 U3 U4 RD BW6
                refine HCALL.out.mono ?_
                rintro e w7 ⟨rfl, hb7⟩
                have HB7 := Lib.hid (HB6.out.trans (hb7.mono HB6.out.size))
                clear hb7
                go_wp2_with fail
                go_roundw
                case rel => exact ⟨t + 1, i + 1, by have := HI.out; omega, by have := HI.out; show _ = _; omega, by go_num, by rw [HGS.out, HS.out], HB7.out⟩
                case measure => simp [intOf]; omega
        · have HTE : Hid (t = n - (p0 + 1)) := Lib.hid (by have := HI.out; omega)
          have tkk : decide ((i : Int) < (n : Int)) = false := by simp; omega
          go_wp2
          go_ret
          exact ⟨by rw [HFG.out, ← HTE.out]; rfl, HBW.out⟩
set_option maxRecDepth 100000 in
set_option maxHeartbeats 1000000 in
theorem refMean_any (HCMP : Hid CmpOk) (n : Nat) (m : IMat) (w : World) (v : Value) (hm : MatOk n m) (hn : n ≤ 6) (h : RdRows w (· < w.heap.size) v m) :
    Calls Tryz.prog 17 #[v] w (RetBO w (refMeanF n m)) := by
  have HPA := Lib.hid (paths_any HCMP n m v hm hn n)
  have HH := Lib.hid h
  obtain ⟨vs, g1, _⟩ := h
  rw [hm.len] at g1
  obtain ⟨A, c, rfl, _, _, _⟩ := g1.open_
  clear g1 hm
  have HR : Hid (refMeanF n m = meanG n m n) := Lib.hid rfl
  go_enter Tryz.func17, Tryz.ntmps17
  go_wp2_with fail
  go_loopw [4, 3] (fun ix s w' => ∃ t : Nat, t ≤ n ∧ ix = .int .i64 (t : Int) ∧ s = .string (BT (meanG n m t)) ∧ Below w.heap.size w w') (fun ix _ _ => n - (intOf ix).toNat)
  case atStart => exact ⟨0, Nat.zero_le _, rfl, rfl, Below.refl _ _⟩
  case round =>
    obtain ⟨t, ht, rfl, rfl, hb⟩ := hrel
    by_cases hlt : t < n
    · have U1 := (St.refl wr).blk_new #[.int .i64 (t : Int)] 3
      have hb1 := hb.trans (U1.bel.mono hb.size)
      have hrd : Rd (wr.alloc (.cells #[.int .i64 (t : Int)] 3)) (· < (wr.alloc (.cells #[.int .i64 (t : Int)] 3)).heap.size) 1 (.slice (some ⟨wr.heap.size, 0, none⟩) 1 1) [t].length ((natL [t]).map (Value.int .i64)) := rd_new wr (size := 1) (m := 1) #[.int .i64 (t : Int)] 3 rfl (by omega) _ (by simp)
      have HCALL := Lib.hid (HPA.out _ _ [t] (meanG n m t) (PathOk.one hlt) (meanG_good n m t) (HH.out.later hb1) hrd)
      have HB1 := Lib.hid hb1
      have HS : Hid (meanG n m (t + 1) = pathsF n m n [t] (meanG n m t)) := Lib.hid (meanG_succ n m t)
      clear hb hb1 hrd U1
      go_wp2_with fail
      refine HCALL.out.mono ?_
      rintro e w7 ⟨rfl, hb7⟩
      have HB7 := Lib.hid (HB1.out.trans (hb7.mono HB1.out.size))
      clear hb7
      go_wp2_with fail
      go_roundw
      case rel => exact ⟨t + 1, by omega, by go_num, by rw [HS.out], HB7.out⟩
      case measure => simp [intOf]; omega
    · obtain rfl : t = n := by omega
      have tkk : decide ((t : Int) < (t : Int)) = false := by simp
      go_wp2
      go_ret
      exact ⟨by rw [HR.out]; rfl, hb⟩
end Go.Proofs.YtlffgdmljioaoaaGreatDoor
/- Walk of the reference's Holes. -/
namespace Go.Sheet
/-- a row of the reference's Holes, its first k numbers made -/
def holesR (l : List Int) (i k : Nat) : List Int := (List.range l.length).map fun j => if j < k then (if j ≤ i then sumF ((l.take (i + 1)).drop j) else NONE) else 0
theorem holesR_len (l : List Int) (i k : Nat) : (holesR l i k).length = l.length := by simp [holesR]
theorem holesR_zero (l : List Int) (i : Nat) : holesR l i 0 = List.replicate l.length 0 := by
  rw [holesR, List.map_congr_left (g := fun _ => 0) (fun j _ => by simp), List.map_const', List.length_range]
theorem holesR_end (l : List Int) (i : Nat) : holesR l i l.length = holesRow l i := by
  refine List.map_congr_left fun j hj => ?_
  rw [if_pos (List.mem_range.1 hj)]
theorem holesR_set {l : List Int} {i k : Nat} (hk : k < l.length) {x : Int} (hx : x = if k ≤ i then sumF ((l.take (i + 1)).drop k) else NONE) : (holesR l i k).set k x = holesR l i (k + 1) := by
  refine List.ext_getElem? fun j => ?_
  by_cases e : k = j
  · subst e
    rw [List.getElem?_set_self (by rw [holesR_len]; exact hk), holesR, List.getElem?_map, List.getElem?_range hk, Option.map_some, if_pos (by omega), hx]
  · rw [List.getElem?_set_ne e]
    by_cases hj : j < l.length
    · simp only [holesR, List.getElem?_map, List.getElem?_range hj, Option.map_some]
      have h1 : j < k + 1 ↔ j < k := by omega
      simp only [h1]
    · rw [List.getElem?_eq_none (by rw [holesR_len]; omega), List.getElem?_eq_none (by rw [holesR_len]; omega)]
theorem sumF_seg {l : List Int} {j k : Nat} {x : Int} (hjk : j ≤ k) (hx : l[k]? = some x) : sumF ((l.take (k + 1)).drop j) = sumF ((l.take k).drop j) + x := by
  have hk : k < l.length := (List.getElem?_eq_some_iff.1 hx).1
  rw [take_at hx, List.drop_append_of_le_length (by rw [List.length_take]; omega), sumF_append]
  simp [sumF]
theorem sumF_rngQ {l : List Int} (h : ∀ x ∈ l, 1 ≤ x ∧ x ≤ 10000) : ∀ s : List Int, (∀ x ∈ s, x ∈ l) → 0 ≤ sumF s ∧ sumF s ≤ 10000 * (s.length : Int)
  | [], _ => by simp [sumF]
  | y :: s, hs => by
    have h1 := h y (hs y (List.mem_cons_self ..))
    have h2 := sumF_rngQ h s (fun x hx => hs x (List.mem_cons_of_mem _ hx))
    simp only [sumF, List.length_cons]
    omega
end Go.Sheet
namespace Go.Proofs.YtlffgdmljioaoaaGreatDoor
open Go.RowKit Go.Mem Go.Sheet
set_option maxRecDepth 100000 in
set_option maxHeartbeats 1000000 in
theorem refHoles_any (W : World) (v : Value) (l : List Int) (h : Rd W (· < W.heap.size) 1 v l.length (l.map (Value.int .i64))) (h0 : holesE l = 0) :
    Calls Tryz.prog 15 #[v] W fun e w' => ∃ v', e = .returned v' ∧ Below W.heap.size W w' ∧ RdRows w' (· < w'.heap.size) v' (holesT l l.length) := by
  obtain ⟨hn0, hn24, hbd⟩ := holesE_ok h0
  have HBD := Lib.hid hbd
  have HH := Lib.hid h
  obtain ⟨A, c, rfl, _, _, _⟩ := h.open_
  obtain ⟨b, o, x0, hA, _, _⟩ := h.int (k := 0) hn0
  subst hA
  generalize HN : l.length = n at *
  have HN := Lib.hid HN
  clear h h0 hbd
  have S0 := (St.refl W).row_nil 23 1
  simp only [List.nil_append] at S0
  go_enter Tryz.func15, Tryz.ntmps15
  go_wp2_with fail
  go_loopw [4, 3] (fun i v w' => ∃ (k : Nat) (vs : List Value), k ≤ n ∧ i = .int .i64 k ∧ Hid (vs.length = k) ∧ St W w' ([row 23 1 v k vs] ++ ownT 3 vs (holesT l k))) (fun i _ _ => n - (intOf i).toNat)
  case atStart => exact ⟨0, [], Nat.zero_le _, rfl, rfl, by simpa [ownT] using S0⟩
  case round =>
    obtain ⟨k, vs, hk, rfl, HV, S⟩ := hrel
    clear S0
    by_cases hlt : k < n
    · have HSS := Lib.hid S
      clear S
      go_wp2_with (at_make; refine wpList_make_st eltI rfl _ _ rfl rfl rfl HSS.out (n := n) (by omega) (by omega) ?_; intro w4 g S4 hg4 hb4)
      have hS5 : St W w4 ([row 3 1 (.slice (some ⟨g, 0, none⟩) n n) n (ints (holesR l k 0))] ++ ([row 23 1 u3 k vs] ++ ownT 3 vs (holesT l k))) := by
        rw [holesR_zero, HN.out]
        have := S4.perm (L' := [row 3 1 (.slice (some ⟨g, 0, none⟩) n n) n (madeCells #[.int .i64 0] (n * 1)).toList] ++ ([row 23 1 u3 k vs] ++ ownT 3 vs (holesT l k))) List.perm_append_comm
        rw [show (madeCells #[Value.int .i64 0] (n * 1)).toList = ints (List.replicate n 0) by simp [madeCells, ints, Nat.mod_one, List.map_const']] at this
        exact this
      clear S4
      go_wp2_with fail
      go_loopw [6] (fun i w' => ∃ (j : Nat), j ≤ n ∧ i = .int .i64 j ∧ St W w' ([row 3 1 (.slice (some ⟨g, 0, none⟩) n n) n (ints (holesR l k j))] ++ ([row 23 1 u3 k vs] ++ ownT 3 vs (holesT l k)))) (fun i _ => n - (intOf i).toNat)
      case atStart => exact ⟨0, Nat.zero_le _, rfl, hS5⟩
      case round =>
        obtain ⟨j, hj, rfl, S⟩ := hrel
        clear hS5
        by_cases hjl : j < n
        · obtain ⟨g', cap', hv, _, _, _, hcell, hfz⟩ := S.row_form (i := 0) rfl (by omega)
          cases hv
          have hjn : j < (ints (holesR l k j)).length := by rw [ints, List.length_map, holesR_len, HN.out]; omega
          have e1 := hcell j (by omega)
          rw [List.getElem?_eq_getElem hjn] at e1
          have e2 := hfz j
          have S1 := S.row_set (i := 0) rfl j (.int .i64 NONE)
          have HS1 := Lib.hid S1
          have e3 := (S1.row_form (i := 0) rfl (by omega))
          clear hcell hfz S
          by_cases hjk : j ≤ k
          · have S2 := S1.row_set (i := 0) rfl j (.int .i64 0)
            have HS2 := Lib.hid S2
            obtain ⟨g', cap', hv, _, _, _, hcell, hfz⟩ := e3
            cases hv
            have f1 := hcell j (by omega)
            have f2 := hfz j
            clear hcell hfz S1 S2 HS1
            simp only [NONE] at f1 f2
            have tjk : decide ((j : Int) ≤ (k : Int)) = true := by simp; omega
            go_wp2_with fail
            go_loopw [7] (fun i w' => ∃ (q : Nat), j ≤ q ∧ q ≤ k + 1 ∧ i = .int .i64 q ∧ St W w' ([row 3 1 (.slice (some ⟨g, 0, none⟩) n n) n (ints ((holesR l k j).set j (sumF ((l.take q).drop j))))] ++ ([row 23 1 u3 k vs] ++ ownT 3 vs (holesT l k)))) (fun i _ => k + 1 - (intOf i).toNat)
            case atStart => exact ⟨j, Nat.le_refl _, by omega, rfl, by
              have h2 := HS2.out
              rw [List.drop_of_length_le (by rw [List.length_take]; omega)]
              rw [show ints ((holesR l k j).set j (sumF [])) = ((ints (holesR l k j)).set j (.int .i64 NONE)).set j (.int .i64 0) by rw [List.set_set, ints, ints, List.map_set]; rfl]
              exact h2⟩
            case round =>
              obtain ⟨q, hjq, hq, rfl, S⟩ := hrel
              clear HS2 f1 f2 e1 e2
              by_cases hqk : q < k + 1
              · obtain ⟨bx, ox, x, hAx, hx, cx⟩ := Rd.int (q := .i64) (l := l) (HH.out.below S.bel) (show q < n by omega)
                cases hAx
                obtain ⟨g', cap', hv, _, _, _, hcell, hfz⟩ := S.row_form (i := 0) rfl (by omega)
                cases hv
                have hx10 := HBD.out x (List.mem_of_getElem? hx)
                have hsb := sumF_rngQ HBD.out ((l.take q).drop j) (fun y hy => List.mem_of_mem_take (List.mem_of_mem_drop hy))
                have hsl : ((l.take q).drop j).length ≤ 24 := by rw [List.length_drop, List.length_take, HN.out]; omega
                have f1 := hcell j (by omega)
                rw [show (ints ((holesR l k j).set j (sumF ((l.take q).drop j))))[j]? = some (.int .i64 (sumF ((l.take q).drop j))) by rw [ints, List.getElem?_map, List.getElem?_set_self (by rw [holesR_len, HN.out]; omega)]; rfl] at f1
                have f2 := hfz j
                have HSE := Lib.hid (sumF_seg (l := l) hjq hx)
                have HSS := Lib.hid S
                clear hcell hfz S hx
                generalize sumF ((l.take q).drop j) = sm at *
                have hw1 : IntKind.i64.wrap (sm + x) = sm + x := IntWalk.i64_in _ (by omega)
                have hqkb : decide ((q : Int) ≤ (k : Int)) = true := by simp; omega
                clear hsb hsl
                have S9 : St W (wr.setCell ⟨g, j, none⟩ (.int .i64 (sm + x))).drew ([row 3 1 (.slice (some ⟨g, 0, none⟩) n n) n (ints ((holesR l k j).set j (sumF ((l.take (q + 1)).drop j))))] ++ ([row 23 1 u3 k vs] ++ ownT 3 vs (holesT l k))) := by
                  have h := (HSS.out.row_set (i := 0) rfl j (.int .i64 (sm + x))).drew
                  rw [HSE.out, show ints ((holesR l k j).set j (sm + x)) = (ints ((holesR l k j).set j sm)).set j (.int .i64 (sm + x)) by rw [ints, ints, List.map_set, List.map_set, List.set_set]]
                  exact h
                have HS9 := Lib.hid S9
                clear S9 HSS
                go_wp2_with fail
                go_region
                go_wp2
                go_roundw
                case rel => exact ⟨q + 1, by omega, by omega, by go_num, HS9.out⟩
                case measure => simp [intOf]; omega
              · obtain rfl : q = k + 1 := by omega
                have hqkb : decide (((k + 1 : Nat) : Int) ≤ (k : Int)) = false := by simp; omega
                have HSET := Lib.hid (holesR_set (l := l) (i := k) (k := j) (by rw [HN.out]; omega) (x := sumF ((l.take (k + 1)).drop j)) (by rw [if_pos hjk]))
                rw [HSET.out] at S
                have HSS := Lib.hid S
                clear S
                go_wp2
                go_roundw
                case rel => exact ⟨j + 1, by omega, by go_num, HSS.out⟩
                case measure => simp [intOf]; omega
          · have tjk : decide ((j : Int) ≤ (k : Int)) = false := by simp; omega
            have HSET := Lib.hid (holesR_set (l := l) (i := k) (k := j) (by rw [HN.out]; omega) (x := NONE) (by rw [if_neg hjk]))
            have HS3 : Hid (St W (wr.setCell ⟨g, j, none⟩ (.int .i64 NONE)) ([row 3 1 (.slice (some ⟨g, 0, none⟩) n n) n (ints (holesR l k (j + 1)))] ++ ([row 23 1 u3 k vs] ++ ownT 3 vs (holesT l k)))) := Lib.hid (by
              rw [← HSET.out, ints, List.map_set]
              exact HS1.out)
            clear HS1 S1 e3
            go_wp2_with fail
            go_roundw
            case rel => exact ⟨j + 1, by omega, by go_num, HS3.out⟩
            case measure => simp [intOf]; omega
        · obtain rfl : j = n := by omega
          have tjj : decide ((j : Int) < (j : Int)) = false := by simp
          have hre := holesR_end l k
          rw [HN.out] at hre
          rw [hre] at S
          have HSS := Lib.hid S
          clear S hre
          go_wp2_with (at_builtin; refine wpList_append_st eltL rfl _ _ rfl rfl (HSS.out.alloc _) (k := 1) rfl rfl (rd_one (by simp)) one_slice (by omega) (by omega) ?_; intro v' w' S' _)
          have S6 : St W w' ([row 23 1 v' (k + 1) (vs ++ [.slice (some ⟨g, 0, none⟩) j j])] ++ ownT 3 (vs ++ [.slice (some ⟨g, 0, none⟩) j j]) (holesT l (k + 1))) := by
            rw [holesT_succ, ownT_snoc (by rw [HV.out, holesT_len]), holesRow_len, HN.out]
            have := S'.perm (L' := [row 23 1 v' (k + 1) (vs ++ [.slice (some ⟨g, 0, none⟩) j j])] ++ (ownT 3 vs (holesT l k) ++ [row 3 1 (.slice (some ⟨g, 0, none⟩) j j) j (ints (holesRow l k))])) (List.Perm.trans (List.Perm.swap _ _ _) (.cons _ (List.perm_append_comm (l₁ := [_]))))
            exact this
          have HS6 := Lib.hid S6
          clear S' S6
          go_roundw
          case rel => exact ⟨k + 1, _, by omega, by go_num, by show _ = _; simp [HV.out], HS6.out⟩
          case measure => simp [intOf]; omega
    · obtain rfl : k = n := by omega
      have tkk : decide ((k : Int) < (k : Int)) = false := by simp
      have hr := ownT_rows S (k := 0) rfl (by rw [HV.out, holesT_len])
      have HR := Lib.hid hr
      have HBF := Lib.hid S.bel
      clear S hr
      go_wp2
      go_ret
      exact ⟨_, rfl, HBF.out, HR.out⟩
end Go.Proofs.YtlffgdmljioaoaaGreatDoor
/- Walks of the reference: ShortPace, CheckPace. -/
namespace Go.Sheet
end Go.Sheet
namespace Go.Proofs.YtlffgdmljioaoaaGreatDoor
open Go.RowKit Go.Mem Go.Sheet
end Go.Proofs.YtlffgdmljioaoaaGreatDoor
/- Walks: what the law's package builds and compares: slots, requests, SameTable. -/
namespace Go.Sheet
def slots0 : List Slot := [⟨480, 1, 1⟩, ⟨490, 1, 1⟩]
def ws0 : List Wish := [⟨0, 5⟩, ⟨1, 3⟩]
def ws1 : List Wish := [⟨0, 4⟩]
def ws2 : List Wish := [⟨1, 1⟩]
def reqs0 (v0 v1 v2 : Value) : List Value :=
  [.string ⟨#[97, 110, 110]⟩, .bool false, v0, .string ⟨#[98, 101, 110]⟩, .bool false, v1, .string ⟨#[99, 97, 116]⟩, .bool true, v2]
end Go.Sheet
namespace Go.Proofs.YtlffgdmljioaoaaGreatDoor
open Go.RowKit Go.Mem Go.Sheet
set_option maxRecDepth 100000 in
set_option maxHeartbeats 1000000 in
theorem slots_any (W : World) : Calls Tryz.prog 29 #[] W fun e w' => ∃ g, e = .returned (.slice (some ⟨g, 0, none⟩) 2 2) ∧ St W w' [row 70 3 (.slice (some ⟨g, 0, none⟩) 2 2) 2 (slots0.flatMap Slot.cells)] := by
  have S1 := (St.refl W).row_new (e := 70) (size := 3) (n := 2) #[.int .i64 480, .int .i64 1, .int .i64 1, .int .i64 490, .int .i64 1, .int .i64 1] (by unfold maxLen; omega) rfl
  have HS1 := Lib.hid S1
  clear S1
  go_enter Tryz.func29, Tryz.ntmps29
  go_wp2_with fail
  go_ret
  exact ⟨_, rfl, HS1.out⟩
set_option maxRecDepth 100000 in
set_option maxHeartbeats 1000000 in
theorem requests_any (W : World) : Calls Tryz.prog 30 #[] W fun e w' => ∃ g g0 g1 g2, e = .returned (.slice (some ⟨g, 0, none⟩) 3 3) ∧
    St W w' [row 122 2 (.slice (some ⟨g0, 0, none⟩) 2 2) 2 (ws0.flatMap Wish.cells), row 122 2 (.slice (some ⟨g1, 0, none⟩) 1 1) 1 (ws1.flatMap Wish.cells), row 122 2 (.slice (some ⟨g2, 0, none⟩) 1 1) 1 (ws2.flatMap Wish.cells),
      row 73 3 (.slice (some ⟨g, 0, none⟩) 3 3) 3 (reqs0 (.slice (some ⟨g0, 0, none⟩) 2 2) (.slice (some ⟨g1, 0, none⟩) 1 1) (.slice (some ⟨g2, 0, none⟩) 1 1))] := by
  have S1 := (St.refl W).row_new (e := 122) (size := 2) (n := 2) #[.int .i64 0, .int .i64 5, .int .i64 1, .int .i64 3] (by unfold maxLen; omega) rfl
  have S2 := S1.row_new (e := 122) (size := 2) (n := 1) #[.int .i64 0, .int .i64 4] (by unfold maxLen; omega) rfl
  have S3 := S2.row_new (e := 122) (size := 2) (n := 1) #[.int .i64 1, .int .i64 1] (by unfold maxLen; omega) rfl
  have S4 := S3.row_new (e := 73) (size := 3) (n := 3) #[.string ⟨#[97, 110, 110]⟩, .bool false, .slice (some ⟨W.heap.size, 0, none⟩) 2 2, .string ⟨#[98, 101, 110]⟩, .bool false, .slice (some ⟨W.heap.size + 1, 0, none⟩) 1 1, .string ⟨#[99, 97, 116]⟩, .bool true, .slice (some ⟨W.heap.size + 1 + 1, 0, none⟩) 1 1] (by unfold maxLen; omega) rfl
  simp only [World.size_alloc, List.nil_append, List.cons_append] at S4
  have HS4 := Lib.hid S4
  clear S1 S2 S3 S4
  go_enter Tryz.func30, Tryz.ntmps30
  go_wp2_with fail
  go_ret
  exact ⟨W.heap.size + 1 + 1 + 1, W.heap.size, W.heap.size + 1, W.heap.size + 1 + 1, rfl, HS4.out⟩
set_option maxRecDepth 100000 in
set_option maxHeartbeats 1000000 in
theorem sameTable_any (w : World) (F F' : Nat → Prop) (va vb : Value) (a b : IMat) (ha : RdRows w F va a) (hb : RdRows w F' vb b) :
    Calls Tryz.prog 23 #[va, vb] w fun r w' => r = .returned (.bool (decide (a = b))) ∧ ∃ q, w' = w.drewN q := by
  obtain ⟨vs, a1, a2⟩ := ha
  obtain ⟨us, b1, b2⟩ := hb
  generalize HL : a.length = n at *
  generalize HM : b.length = m at *
  have hn := a1.le
  have hm := b1.le
  obtain ⟨A, c, rfl, _, _, a1⟩ := a1.open_
  obtain ⟨A', c', rfl, _, _, b1⟩ := b1.open_
  have HL := Lib.hid HL
  have HM := Lib.hid HM
  have HA2 : Hid (∀ (i : Nat) (x : Value) (r : List Int), vs[i]? = some x → a[i]? = some r → Rd w F 1 x r.length (ints r)) := a2
  have HB2 : Hid (∀ (i : Nat) (x : Value) (r : List Int), us[i]? = some x → b[i]? = some r → Rd w F' 1 x r.length (ints r)) := b2
  clear a2 b2
  go_enter Tryz.func23, Tryz.ntmps23
  by_cases hnm : n = m
  · subst hnm
    go_wp2
    go_loopw [5] (fun i w' => ∃ (k q : Nat), k ≤ n ∧ i = .int .i64 k ∧ w' = w.drewN q ∧ Hid (∀ j, j < k → a[j]? = b[j]?)) (fun i _ => n - (intOf i).toNat)
    case atStart => exact ⟨0, 0, Nat.zero_le _, rfl, rfl, fun j hj => by omega⟩
    case round =>
      obtain ⟨k, q, hk, rfl, hwr, he⟩ := hrel
      by_cases hlt : k < n
      · obtain ⟨b1', o, x, rfl, hx, hc⟩ := a1.val hlt
        obtain ⟨b2', o2, y, rfl, hy, hd⟩ := b1.val hlt
        have hka : k < a.length := by rw [HL.out]; exact hlt
        have hkb : k < b.length := by rw [HM.out]; exact hlt
        have hra : a[k]? = some a[k] := List.getElem?_eq_getElem hka
        have hrb : b[k]? = some b[k] := List.getElem?_eq_getElem hkb
        have hx' := HA2.out k x _ hx hra
        have hy' := HB2.out k y _ hy hrb
        generalize a[k] = ra at *
        generalize b[k] = rb at *
        have HC := Lib.hid (fun q => sameInts_any (w.drewN q) _ _ x y ra rb (hx'.now.later (below_drewN (Below.refl _ _) q)) (hy'.now.later (below_drewN (Below.refl _ _) q)))
        have hwk : ∃ q, wr = w.drewN q := ⟨q, hwr⟩
        clear hwr
        go_wp2_with fail
        refine wp_cls 9 (fun w' => ∃ q, w' = w.drewN q) (by kernel_rfl) (by kernel_rfl) (by obtain ⟨q, h⟩ := hwk; exact ⟨q + 1, by rw [h]; rfl⟩) ?_
        simp only [List.take_succ_cons, List.take_zero, List.drop_succ_cons, List.drop_zero]
        generalize hK : (fun w' => ∃ q, w' = w.drewN q) = K
        intro hne
        have kw : ∀ z : Wd K, ∃ q, z.w = w.drewN q := by subst hK; exact fun z => z.h
        have hK2 : ∀ z, (∃ q, z = w.drewN q) → K z := by subst hK; exact fun z h => h
        have y1 : ∀ z : Wd K, z.w.cell? ⟨b1', o + k, none⟩ = some x := fun z => by obtain ⟨q, e⟩ := kw z; rw [e]; exact hc
        have y2 : ∀ z : Wd K, z.w.cell? ⟨b2', o2 + k, none⟩ = some y := fun z => by obtain ⟨q, e⟩ := kw z; rw [e]; exact hd
        have HC2 : Hid (∀ z : Wd K, Calls Tryz.prog 24 #[x, y] z.w fun e w' => e = .returned (.bool (decide (ra = rb))) ∧ ∃ u : Wd K, w' = u.w) := fun z => by
          obtain ⟨q, e⟩ := kw z
          rw [e]
          refine (HC.out q).mono ?_
          rintro e w' ⟨h1, q', rfl⟩
          exact ⟨h1, ⟨⟨_, hK2 _ ⟨q + q', World.drewN_drewN _ _ _⟩⟩, rfl⟩⟩
        clear hK hK2 HC hwk
        have HRA := Lib.hid hra
        have HRB := Lib.hid hrb
        clear hx' hy' hra hrb hx hy
        generalize hdd : decide (ra = rb) = d at *
        have HDD := Lib.hid hdd
        clear hdd
        repeat (go_big_quiet_step ((go_at_call 24; exact HC2.out _)))
        refine wpQuiet_nil ?_
        intro z
        have hq := kw z
        clear kw y1 y2 hne HC2
        generalize z.w = wz at *
        cases d with
        | false =>
          go_wp2
          go_ret
          obtain ⟨q, rfl⟩ := hq
          exact ⟨ret_bool (by
            rw [eq_comm, decide_eq_false_iff_not]
            rintro rfl
            have := HDD.out
            rw [Option.some.inj (HRA.out.symm.trans HRB.out)] at this
            simp at this), q, rfl⟩
        | true =>
          go_wp2
          go_roundw
          case rel =>
            obtain ⟨q, rfl⟩ := hq
            exact ⟨k + 1, q, by omega, by go_num, rfl, fun j hj => by
              by_cases e : j = k
              · subst e; rw [HRA.out, HRB.out, show ra = rb by simpa using HDD.out]
              · exact he.out j (by omega)⟩
          case measure => simp [intOf]; omega
      · obtain rfl : k = n := by omega
        have hkb : decide ((k : Int) < k) = false := by simp
        subst hwr
        go_wp2
        go_ret
        exact ⟨ret_bool (by
          rw [eq_comm, decide_eq_true_iff]
          refine List.ext_getElem? fun j => ?_
          by_cases hj : j < k
          · exact he.out j hj
          · rw [List.getElem?_eq_none (by have := HL.out; omega), List.getElem?_eq_none (by have := HM.out; omega)]), q, rfl⟩
  · have hne : ((n : Int) != (m : Int)) = true := by simp; omega
    have HNE := Lib.hid hnm
    clear hnm
    go_wp2
    go_ret
    exact ⟨ret_bool (by
      rw [eq_comm, decide_eq_false_iff_not]
      rintro rfl
      exact HNE.out (HL.out.symm.trans HM.out)), 0, rfl⟩
end Go.Proofs.YtlffgdmljioaoaaGreatDoor
/- Walk of the law's package: table. -/
namespace Go.Sheet
/-- a table and an error are the wanted ones -/
def tabOk (l : IMat) (e bad : Int) (want : IMat) : Bool := if bad ≠ 0 then decide (l.length = 0) && (e == bad) else (e == 0) && decide (l = want)
theorem table_yes {l : IMat} {e bad : Int} {want : IMat} (h1 : bad ≠ 0 → l = [] ∧ e = bad) (h2 : bad = 0 → e = 0 ∧ l = want) : tabOk l e bad want = true := by
  rw [tabOk]
  by_cases h : bad ≠ 0
  · rw [if_pos h]; obtain ⟨a, b⟩ := h1 h; simp [a, b]
  · rw [if_neg h]; obtain ⟨a, b⟩ := h2 (by simpa using h); simp [a, b]
end Go.Sheet
namespace Go.Proofs.YtlffgdmljioaoaaGreatDoor
open Go.RowKit Go.Mem Go.Sheet
set_option maxRecDepth 100000 in
set_option maxHeartbeats 1000000 in
theorem table_any (w : World) (F F' : Nat → Prop) (va vb : Value) (l want : IMat) (e bad : Int) (ha : RdRows w F va l) (hb : RdRows w F' vb want) :
    Calls Tryz.prog 16 #[va, .int .i64 e, .int .i64 bad, vb] w fun r w' => r = .returned (.bool (tabOk l e bad want)) ∧ ∃ n, w' = w.drewN n := by
  have HC := Lib.hid (sameTable_any w F F' va vb l want ha hb)
  obtain ⟨vs, ha, _⟩ := ha
  generalize HL : l.length = n at *
  obtain ⟨A, c, rfl, _, _, _⟩ := ha.open_
  have hn := ha.le
  clear ha hb
  have HL := Lib.hid HL
  go_enter Tryz.func16, Tryz.ntmps16
  have HD : Hid (tabOk l e bad want = if bad ≠ 0 then decide (l.length = 0) && (e == bad) else (e == 0) && decide (l = want)) := rfl
  cases h1 : (bad != 0)
  · have h1' : ¬ bad ≠ 0 := by simpa using h1
    have HV : Hid (tabOk l e bad want = ((e == 0) && decide (l = want))) := by show _ = _; rw [HD.out, if_neg h1']
    clear h1' HD
    generalize decide (l = want) = r at *
    cases h2 : (e == 0)
    all_goals
      go_wp2_with (go_at_call 23; refine HC.out.mono ?_; rintro e w' ⟨rfl, ⟨q, rfl⟩⟩)
      go_ret
      exact ⟨ret_bool (by rw [HV.out, h2]; simp), by first | exact ⟨0, rfl⟩ | exact ⟨_, rfl⟩⟩
  · have h1' : bad ≠ 0 := by simpa using h1
    have HV : Hid (tabOk l e bad want = (((n : Int) == 0) && (e == bad))) := by show _ = _; rw [HD.out, if_pos h1', HL.out]; congr 1; rw [Bool.eq_iff_iff]; simp
    clear h1' HD
    cases h2 : ((n : Int) == 0)
    all_goals
      go_wp2
      go_ret
      exact ⟨ret_bool (by rw [HV.out, h2]; simp), 0, rfl⟩
end Go.Proofs.YtlffgdmljioaoaaGreatDoor
