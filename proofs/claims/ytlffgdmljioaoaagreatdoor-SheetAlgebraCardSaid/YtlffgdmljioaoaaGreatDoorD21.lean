/- Part 21 of the walks of the golf union's program: QW1, WT6, WV1, WV2. -/
import Derived.Test.YtlffgdmljioaoaaGreatDoorD03
import Derived.Test.YtlffgdmljioaoaaGreatDoorD08
import Derived.Test.YtlffgdmljioaoaaGreatDoorD20
import Derived.Test.YtlffgdmljioaoaaGreatDoorD01
import Derived.IntWalk
set_option linter.unusedVariables false
set_option linter.unusedSimpArgs false
set_option linter.unusedSectionVars false
set_option linter.constructorNameAsVariable false
/- Walk of the reference's CheckCycle. -/
namespace Go.Sheet
def cycT (n : Nat) (m : IMat) (cy : List Int) : ByteArray := if cycE n m cy = 0 then tB (txtL (cycS m cy) cy.length) else ⟨#[]⟩
def cyF1 (n : Nat) (cy : List Int) : Nat → Int → Int := fun i k => fst [whenE (decide (k < 0 ∨ (n : Int) ≤ k)) 10, whenE (decide (k ∈ cy.take i)) 9]
def cyF2 (m : IMat) (cy : List Int) : Nat → Int → Int := fun i _ => whenE (decide (cyA m cy i = NONE)) 7
theorem cyE1_F (n : Nat) (cy : List Int) : cyE1 n cy = eachF (cyF1 n cy) 0 cy := rfl
theorem cyE2_F (m : IMat) (cy : List Int) : cyE2 m cy = eachF (cyF2 m cy) 0 cy := rfl
theorem cyF1_out {n : Nat} {cy : List Int} {i : Nat} {x : Int} (h : outB x 0 ((n : Int) - 1) = true) : cyF1 n cy i x = 10 := by
  have : (x < 0 ∨ (n : Int) ≤ x) := by
    rw [outB, Bool.or_eq_true, decide_eq_true_eq, decide_eq_true_eq] at h
    omega
  simp [cyF1, fst, whenE, this]
theorem cyF1_two {n : Nat} {cy : List Int} {i : Nat} {x : Int} (h : outB x 0 ((n : Int) - 1) = false) (h2 : x ∈ cy.take i) : cyF1 n cy i x = 9 := by
  have : ¬ (x < 0 ∨ (n : Int) ≤ x) := by
    rw [outB_false] at h
    omega
  simp only [cyF1, fst, whenE, decide_eq_false this, decide_eq_true h2]
  rfl
theorem cyF1_ok {n : Nat} {cy : List Int} {i : Nat} {x : Int} (h : outB x 0 ((n : Int) - 1) = false) (h2 : ¬ x ∈ cy.take i) : cyF1 n cy i x = 0 := by
  have : ¬ (x < 0 ∨ (n : Int) ≤ x) := by
    rw [outB_false] at h
    omega
  simp only [cyF1, fst, whenE, decide_eq_false this, decide_eq_false h2]
  rfl
theorem cyE1_all {n : Nat} {cy : List Int} (h : cyE1 n cy = 0) {i : Nat} {x : Int} (hx : cy[i]? = some x) : ∃ a : Nat, x = a ∧ a < n := by
  rw [cyE1_F, eachF_zero] at h
  have h1 := h i x hx
  rw [Nat.zero_add] at h1
  cases hb : outB x 0 ((n : Int) - 1) with
  | true => rw [cyF1_out hb] at h1; cases h1
  | false =>
    rw [outB_false] at hb
    exact ⟨x.toNat, by omega, by omega⟩
theorem cycE_nil {n : Nat} {m : IMat} {cy : List Int} (h : cy.length = 0) : cycE n m cy = 12 := by rw [cycE, if_pos h]
theorem cycE_one {n : Nat} {m : IMat} {cy : List Int} (h : ¬ cy.length = 0) (e : Int) (h0 : e ≠ 0) (h1 : e = cyE1 n cy) : cycE n m cy = e := by
  rw [cycE, if_neg h, if_pos (by rw [← h1]; exact h0), h1]
theorem cycE_two {n : Nat} {m : IMat} {cy : List Int} (h : ¬ cy.length = 0) (h1 : cyE1 n cy = 0) : cycE n m cy = cyE2 m cy := by
  rw [cycE, if_neg h, if_neg (by rw [h1]; decide)]
theorem cycT_bad {n : Nat} {m : IMat} {cy : List Int} {e : Int} (h : cycE n m cy = e) (h0 : e ≠ 0) : cycT n m cy = ⟨#[]⟩ := by
  rw [cycT, if_neg (by rw [h]; exact h0)]
theorem cycT_ok {n : Nat} {m : IMat} {cy : List Int} (h : cycE n m cy = 0) : cycT n m cy = tB (txtL (cycS m cy) cy.length) := by
  rw [cycT, if_pos h]
theorem getD_of {cy : List Int} {i : Nat} {x : Int} (h : cy[i]? = some x) : cy.getD i 0 = x := by
  rw [List.getD_eq_getElem?_getD, h]; rfl
/-- a step of the second loop -/
theorem cyA_at {n : Nat} {m : IMat} {cy : List Int} (hm : MatOk n m) (h : cyE1 n cy = 0) {i : Nat} (hi : i < cy.length) :
    ∃ (P a b : Nat) (r : List Int) (x : Int), P < cy.length ∧ P = (i + cy.length - 1) % cy.length ∧ cy[i]? = some (a : Int) ∧ cy[P]? = some (b : Int) ∧ a < n ∧ b < n ∧ m[a]? = some r ∧ r.length = n ∧ r[b]? = some x ∧ cyA m cy i = x ∧ (x = NONE ∨ -999999999 ≤ x ∧ x ≤ 999999999) := by
  have hP : (i + cy.length - 1) % cy.length < cy.length := Nat.mod_lt _ (by omega)
  have e1 : cy[i]? = some cy[i] := List.getElem?_eq_getElem hi
  have e2 : cy[(i + cy.length - 1) % cy.length]? = some cy[(i + cy.length - 1) % cy.length] := List.getElem?_eq_getElem hP
  obtain ⟨a, ha, han⟩ := cyE1_all h e1
  obtain ⟨b, hb, hbn⟩ := cyE1_all h e2
  have hal : a < m.length := by rw [hm.len]; exact han
  have e3 : m[a]? = some m[a] := List.getElem?_eq_getElem hal
  have hrl : m[a].length = n := hm.row _ (List.getElem_mem hal)
  have hbl : b < m[a].length := by rw [hrl]; exact hbn
  have e4 : m[a][b]? = some m[a][b] := List.getElem?_eq_getElem hbl
  have e5 : at2 m a b = m[a][b] := by
    rw [at2, List.getD_eq_getElem?_getD, List.getD_eq_getElem?_getD, e3]
    show ((m[a])[b]?).getD 0 = _
    rw [e4]; rfl
  refine ⟨_, a, b, m[a], m[a][b], hP, rfl, by rw [e1, ha], by rw [e2, hb], han, hbn, e3, hrl, e4, ?_, ?_⟩
  · rw [cyA, cyP, getD_of e1, getD_of e2, ha, hb]
    exact e5
  · have := hm.bd a b han hbn
    rw [e5] at this
    exact this
theorem cySum_bd {n : Nat} {m : IMat} {cy : List Int} (hm : MatOk n m) (h : cyE1 n cy = 0) : ∀ k, k ≤ cy.length → (∀ i, i < k → cyA m cy i ≠ NONE) → -((k : Int) * 999999999) ≤ cySum m cy k ∧ cySum m cy k ≤ (k : Int) * 999999999
  | 0, _, _ => by simp [cySum]
  | k + 1, hk, hn => by
    have ih := cySum_bd hm h k (by omega) (fun i hi => hn i (by omega))
    obtain ⟨P, a, b, r, x, _, _, _, _, _, _, _, _, _, hx, hb⟩ := cyA_at hm h (show k < cy.length by omega)
    have := hn k (by omega)
    rw [hx] at this
    rw [cySum, hx]
    have e : (((k + 1 : Nat)) : Int) = (k : Int) + 1 := by omega
    rw [e]
    omega
end Go.Sheet
namespace Go.Proofs.YtlffgdmljioaoaaGreatDoor
open Go.RowKit Go.Mem Go.Sheet
theorem bel_drewN {B : Nat} {a w : World} (h : Below B a w) (n : Nat) : Below B a (w.drewN n) := ⟨h.os, h.tape, h.output, h.size, h.block⟩
def RetCyc (W : World) (t : ByteArray) (z : Int) (e : Ending) (w' : World) : Prop := e = .returned (.tuple #[.string t, .int .i64 z]) ∧ Below W.heap.size W w'
theorem retCyc {W w' : World} {t t' : ByteArray} {z z' : Int} (h1 : t' = t) (h2 : z' = z) (hb : Below W.heap.size W w') : RetCyc W t z (.returned (.tuple #[.string t', .int .i64 z'])) w' := by
  subst h1 h2; exact ⟨rfl, hb⟩
set_option maxRecDepth 100000 in
set_option maxHeartbeats 2000000 in
theorem refCycle_any (w : World) (v vc : Value) (n : Nat) (m : IMat) (cy : List Int) (hm : MatOk n m) (hn : n ≤ 24) (h : RdRows w (· < w.heap.size) v m) (hc : Rd w (· < w.heap.size) 1 vc cy.length (ints cy)) (hL : cy.length ≤ 40) :
    Calls Tryz.prog 10 #[v, vc] w (RetCyc w (cycT n m cy) (cycE n m cy)) := by
  have HH := Lib.hid h
  obtain ⟨vs, g1, _⟩ := h
  obtain ⟨A, c, rfl, _, _, _⟩ := g1.open_
  clear g1
  have HMO := Lib.hid hm
  rw [hm.len] at *
  have HC := Lib.hid hc
  obtain ⟨A2, c2, rfl, _, _, _⟩ := hc.open_
  clear hc hm
  have HCN : Hid (cy.length = 0 → cycE n m cy = 12) := Lib.hid (fun h => cycE_nil h)
  have HC1 := Lib.hid (fun h e h0 h1 => cycE_one (n := n) (m := m) (cy := cy) h e h0 h1)
  have HC2 := Lib.hid (fun h h1 => cycE_two (n := n) (m := m) (cy := cy) h h1)
  have HT := Lib.hid (fun e h h0 => cycT_bad (n := n) (m := m) (cy := cy) (e := e) h h0)
  have HTO := Lib.hid (fun h => cycT_ok (n := n) (m := m) (cy := cy) h)
  have HAT := Lib.hid (fun (h : cyE1 n cy = 0) (i : Nat) (hi : i < cy.length) => cyA_at HMO.out h hi)
  have HBD := Lib.hid (fun (h : cyE1 n cy = 0) => cySum_bd HMO.out h)
  have HSU : Hid (cycS m cy = cySum m cy cy.length) := Lib.hid rfl
  generalize hLn : cy.length = L at *
  have HLN := Lib.hid hLn
  clear hLn
  go_enter Tryz.func10, Tryz.ntmps10
  by_cases h0 : L = 0
  · subst h0
    have HR := Lib.hid (HCN.out rfl)
    have t0 : (((0 : Nat) : Int) == 0) = true := rfl
    go_wp2
    go_ret2
    exact retCyc (HT.out _ HR.out (by decide)).symm HR.out.symm (Below.refl _ _)
  have tL : ((L : Int) == 0) = false := by simp; omega
  have HL0 := Lib.hid h0
  have hL1 : 1 ≤ L := by omega
  clear h0 HCN
  go_wp2_with fail
  go_loopw [6] (fun i w' => ∃ k : Nat, k ≤ L ∧ i = .int .i64 k ∧ Below w.heap.size w w' ∧ Hid (eachF (cyF1 n cy) k (cy.drop k) = eachF (cyF1 n cy) 0 cy)) (fun i _ => L - (intOf i).toNat)
  case atStart => exact ⟨0, Nat.zero_le _, rfl, Below.refl _ _, rfl⟩
  case round =>
    obtain ⟨k, hk, rfl, hb1, he⟩ := hrel
    have HCW := Lib.hid (HC.out.later hb1)
    have HW := Lib.hid hb1
    clear hb1
    by_cases hlt : k < L
    · obtain ⟨b, o, x, hA, hx, cx⟩ := Rd.int (q := .i64) (l := cy) HCW.out hlt
      subst hA
      have HX := Lib.hid hx
      have HST := Lib.hid (fun h0 => eachF_stop (f := cyF1 n cy) hx h0 he.out)
      have HGO := Lib.hid (fun h0 => eachF_go (f := cyF1 n cy) hx h0 he.out)
      clear hx he
      cases hb : outB x 0 ((n : Int) - 1) with
      | true =>
        have e1 : cyF1 n cy k x = 10 := cyF1_out hb
        have HR : Hid (cycE n m cy = 10) := Lib.hid (HC1.out HL0.out 10 (by decide) (by rw [cyE1_F, ← HST.out (by rw [e1]; decide), e1]))
        have HB := Lib.hid hb
        clear hb e1
        go_wp2_with (go_at_call 13; refine (outB_any _ _ _ _).mono ?_; rw [HB.out]; rintro e w' ⟨rfl, rfl⟩)
        go_ret2
        exact retCyc (HT.out _ HR.out (by decide)).symm HR.out.symm HW.out
      | false =>
        have HB := Lib.hid hb
        clear hb
        go_wp2_with (go_at_call 13; refine (outB_any _ _ _ _).mono ?_; rw [HB.out]; rintro e w' ⟨rfl, rfl⟩)
        have HCUR : Hid (Below w.heap.size w wr) := HW
        clear HCW cx HW
        generalize hwr : wr = w9 at *
        clear hwr
        go_loopw [7] (fun i w' => ∃ j : Nat, j ≤ k ∧ i = .int .i64 j ∧ Below w.heap.size w w' ∧ Hid (¬ x ∈ cy.take j)) (fun i _ => k - (intOf i).toNat)
        case atStart => exact ⟨0, Nat.zero_le _, rfl, HCUR.out, fun h => by simp at h⟩
        case round =>
          obtain ⟨j, hj, rfl, hb1, hno⟩ := hrel
          have HW := Lib.hid hb1
          have HCW := Lib.hid (HC.out.later hb1)
          clear hb1
          by_cases hjk : j < k
          · obtain ⟨b2, o2, y, hA2, hy, cyy⟩ := Rd.int (q := .i64) (l := cy) HCW.out (show j < L by omega)
            obtain ⟨b3, o3, x3, hA3, hx3, cx⟩ := Rd.int (q := .i64) (l := cy) HCW.out (show k < L by omega)
            cases hA2
            cases hA3
            obtain rfl : x3 = x := by rw [HX.out] at hx3; exact (Option.some.inj hx3).symm
            have HY := Lib.hid hy
            clear hy hx3
            by_cases hyx : y = x3
            · subst hyx
              have hmem : y ∈ cy.take k := by
                rw [List.mem_take_iff_getElem]
                obtain ⟨h1, h2⟩ := List.getElem?_eq_some_iff.1 HY.out
                exact ⟨j, by omega, h2⟩
              have e1 : cyF1 n cy k y = 9 := cyF1_two HB.out hmem
              have HR : Hid (cycE n m cy = 9) := Lib.hid (HC1.out HL0.out 9 (by decide) (by rw [cyE1_F, ← HST.out (by rw [e1]; decide), e1]))
              have tyy : (y == y) = true := by simp
              clear e1 hmem
              go_wp2_with fail
              go_quiet (fail)
              go_wp2_with fail
              go_ret2
              exact retCyc (HT.out _ HR.out (by decide)).symm HR.out.symm ((bel_drewN HW.out _))
            · have tyx : (y == x3) = false := by simpa using hyx
              have HNX := Lib.hid hyx
              clear hyx
              go_wp2_with fail
              go_quiet (fail)
              go_wp2_with fail
              go_roundw
              case rel => exact ⟨j + 1, by omega, by go_num, (bel_drewN HW.out _), fun hmem => by
                rw [take_at HY.out] at hmem
                rcases List.mem_append.1 hmem with hmem | hmem
                · exact hno.out hmem
                · exact HNX.out (List.mem_singleton.1 hmem).symm⟩
              case measure => simp [intOf]; omega
          · obtain rfl : j = k := by omega
            have HG := Lib.hid (HGO.out (by rw [cyF1_ok HB.out hno.out]; decide))
            have tjj : decide ((j : Int) < (j : Int)) = false := by simp
            clear hno
            go_wp2
            go_roundw
            case rel => exact ⟨j + 1, by omega, by go_num, HW.out, HG.out⟩
            case measure => simp [intOf]; omega
    · obtain rfl : k = L := by omega
      have HE1 : Hid (cyE1 n cy = 0) := Lib.hid (by
        rw [cyE1_F]
        exact eachF_end (n := k) (by rw [HLN.out]; exact Nat.le_refl _) he.out)
      have HEC := Lib.hid (HC2.out HL0.out HE1.out)
      have HHW := Lib.hid (HH.out.later HW.out)
      have tkk : decide ((k : Int) < (k : Int)) = false := by simp
      clear he
      go_wp2_with fail
      clear tkk
      go_loop [8, 9] (fun s i => ∃ j : Nat, j ≤ k ∧ i = .int .i64 j ∧ s = .int .i64 (cySum m cy j) ∧ Hid (∀ i, i < j → cyA m cy i ≠ NONE) ∧ Hid (eachF (cyF2 m cy) j (cy.drop j) = eachF (cyF2 m cy) 0 cy)) (fun s i => k - (intOf i).toNat)
      case atStart => exact ⟨0, Nat.zero_le _, rfl, rfl, fun i hi => by omega, rfl⟩
      case round =>
        obtain ⟨j, hj, rfl, rfl, hno, he⟩ := hrel
        obtain ⟨hs1, hs2⟩ := HBD.out HE1.out j hj hno.out
        by_cases hjk : j < k
        · obtain ⟨P, a, b, r, x, hP, hPe, hca, hcb, han, hbn, hr, hrl, hrb, hA, hxb⟩ := HAT.out HE1.out j hjk
          have HSS : Hid (cySum m cy (j + 1) = cySum m cy j + x) := Lib.hid (by rw [← hA]; rfl)
          have HA := Lib.hid hA
          obtain ⟨b1, o1, x1, hA1, hx1, cx1⟩ := Rd.int (q := .i64) (l := cy) HCW.out hjk
          obtain ⟨b2, o2, x2, hA2, hx2, cx2⟩ := Rd.int (q := .i64) (l := cy) HCW.out hP
          subst hA1
          cases hA2
          obtain rfl : x1 = (a : Int) := by rw [hca] at hx1; exact (Option.some.inj hx1).symm
          obtain rfl : x2 = (b : Int) := by rw [hcb] at hx2; exact (Option.some.inj hx2).symm
          obtain ⟨b3, o3, Ar, cr, hA3, hrow⟩ := row_of HHW.out hr
          subst hA3
          obtain ⟨d0, d1⟩ := hrow wr (Below.refl _ _)
          rw [hrl] at d0 d1
          obtain ⟨b4, o4, x4, hA4, hx4, cx4⟩ := Rd.int (q := .i64) (l := r) d1 hbn
          subst hA4
          obtain rfl : x4 = x := by rw [hrb] at hx4; exact (Option.some.inj hx4).symm
          have HST := Lib.hid (fun h0 => eachF_stop (f := cyF2 m cy) hca h0 he.out)
          have HGO := Lib.hid (fun h0 => eachF_go (f := cyF2 m cy) hca h0 he.out)
          have hmod : Int.tmod ((j : Int) + (k : Int) - 1) (k : Int) = (P : Int) := by
            rw [hPe, Int.tmod_eq_emod_of_nonneg (by omega), show (j : Int) + (k : Int) - 1 = ((j + k - 1 : Nat) : Int) by omega]
            rfl
          clear hPe hca hcb hx1 hx2 hrow hrl hrb hA hx4 hr he d1
          by_cases hxn : x4 = NONE
          · have e1 : cyF2 m cy j (a : Int) = 7 := by show whenE (decide (cyA m cy j = NONE)) 7 = 7; rw [HA.out, hxn]; rfl
            have HR : Hid (cycE n m cy = 7) := Lib.hid (by
              rw [HEC.out, cyE2_F, ← HST.out (by rw [e1]; decide), e1])
            have hxv : x4 = -1000000000 := hxn
            subst hxv
            clear hxn e1 hxb
            go_wp2_with fail
            go_ret2
            exact retCyc (HT.out _ HR.out (by decide)).symm HR.out.symm HW.out
          · have e1 : cyF2 m cy j (a : Int) = 0 := by show whenE (decide (cyA m cy j = NONE)) 7 = 0; rw [HA.out, decide_eq_false hxn]; rfl
            have HG := Lib.hid (HGO.out (by rw [e1]; decide))
            have HXN := Lib.hid hxn
            have hxe : (x4 == -1000000000) = false := by simpa [NONE] using hxn
            have hx2 : -999999999 ≤ x4 ∧ x4 ≤ 999999999 := by rcases hxb with h | h; · exact absurd h hxn
                                                              · exact h
            clear hxn e1 hxb
            generalize hsg : cySum m cy j = sg at *
            have HSG := Lib.hid hsg
            clear hsg
            go_wp2_with fail
            go_round
            case rel => exact ⟨j + 1, by omega, by go_num, by rw [HSS.out], fun i hi => by
              rcases Nat.lt_or_eq_of_le (Nat.le_of_lt_succ hi) with h | h
              · exact hno.out i h
              · subst h; rw [HA.out]; exact HXN.out, HG.out⟩
            case measure => simp [intOf]; omega
        · obtain rfl : j = k := by omega
          have HR : Hid (cycE n m cy = 0) := Lib.hid (by
            rw [HEC.out, cyE2_F]
            exact eachF_end (n := j) (by rw [HLN.out]; exact Nat.le_refl _) he.out)
          have HT2 := Lib.hid (HTO.out HR.out)
          have tjj : decide ((j : Int) < (j : Int)) = false := by simp
          have HOF := Lib.hid (rof_any wr (cySum m cy j) j (by omega) (by omega))
          have HST : Hid (cycS m cy = cySum m cy j) := HSU
          generalize cySum m cy j = sg at *
          clear he
          go_wp2_with fail
          refine HOF.out.mono ?_
          rintro e w2 ⟨rfl, hb2⟩
          go_wp2
          go_ret2
          exact retCyc (by rw [HT2.out, HST.out]) HR.out.symm (HW.out.trans (hb2.mono HW.out.size))
end Go.Proofs.YtlffgdmljioaoaaGreatDoor
/- Walks: Holes. -/
namespace Go.Mem
theorem Rd.sub {w : World} {S : Nat → Prop} {b o n c k j : Nat} {xs : List Value} (h : Rd w S 1 (.slice (some ⟨b, o, none⟩) n c) n xs) (hk : k ≤ j) (hj : j ≤ n) : Rd w S 1 (.slice (some ⟨b, o + k, none⟩) (j - k) (c - k)) (j - k) ((xs.take j).drop k) := by
  obtain ⟨A, c', hv, h1, h2, h3, h4, h5⟩ := h
  injection hv with e1 e2 e3
  subst e1 e3
  refine ⟨_, _, rfl, by omega, by omega, by simp; omega, (fun h => by cases h), fun h0 => ?_⟩
  obtain ⟨b', o', hA, hS, hb, hc⟩ := h5 (by omega)
  cases hA
  refine ⟨b, o + k, rfl, hS, hb, fun i u hu => ?_⟩
  have hi : i < j - k := by have := (List.getElem?_eq_some_iff.1 hu).1; simp at this; omega
  rw [List.getElem?_drop, List.getElem?_take_of_lt (by omega)] at hu
  have := hc (k + i) u hu
  rwa [← Nat.add_assoc] at this
end Go.Mem
namespace Go.Sheet
/-- a row of Holes, its first k numbers made -/
def holesP (l : List Int) (i k : Nat) : List Int := (List.range l.length).map fun j => if j < k then sumF ((l.take (i + 1)).drop j) else NONE
theorem holesP_len (l : List Int) (i k : Nat) : (holesP l i k).length = l.length := by simp [holesP]
theorem holesP_zero (l : List Int) (i : Nat) : holesP l i 0 = List.replicate l.length NONE := by
  rw [holesP, List.map_congr_left (g := fun _ => NONE) (fun j _ => by simp), List.map_const', List.length_range]
theorem holesP_end (l : List Int) (i : Nat) : holesP l i (i + 1) = holesRow l i := by
  refine List.map_congr_left fun j _ => ?_
  by_cases h : j ≤ i
  · rw [if_pos (by omega), if_pos h]
  · rw [if_neg (by omega), if_neg h]
theorem holesP_set {l : List Int} {i k : Nat} (hk : k < l.length) : (holesP l i k).set k (sumF ((l.take (i + 1)).drop k)) = holesP l i (k + 1) := by
  refine List.ext_getElem? fun j => ?_
  by_cases e : k = j
  · subst e
    rw [List.getElem?_set_self (by rw [holesP_len]; exact hk), holesP, List.getElem?_map, List.getElem?_range hk, Option.map_some, if_pos (by omega)]
  · rw [List.getElem?_set_ne e]
    by_cases hj : j < l.length
    · simp only [holesP, List.getElem?_map, List.getElem?_range hj, Option.map_some]
      by_cases h1 : j < k
      · rw [if_pos h1, if_pos (by omega)]
      · rw [if_neg h1, if_neg (by omega)]
    · rw [List.getElem?_eq_none (by rw [holesP_len]; omega), List.getElem?_eq_none (by rw [holesP_len]; omega)]
def holesT (l : List Int) (i : Nat) : IMat := (List.range i).map (holesRow l)
theorem holesT_succ (l : List Int) (i : Nat) : holesT l (i + 1) = holesT l i ++ [holesRow l i] := by
  rw [holesT, holesT, List.range_succ, List.map_append]; rfl
theorem holesT_len (l : List Int) (i : Nat) : (holesT l i).length = i := by simp [holesT]
theorem holesRow_len (l : List Int) (i : Nat) : (holesRow l i).length = l.length := by simp [holesRow]
theorem holesE_ok {l : List Int} (h : holesE l = 0) : 0 < l.length ∧ l.length ≤ 24 ∧ ∀ x ∈ l, 1 ≤ x ∧ x ≤ 10000 := by
  rw [holesE, fst_zero] at h
  simp only [List.mem_cons, List.not_mem_nil, or_false, forall_eq_or_imp, forall_eq] at h
  obtain ⟨h1, h2, h3⟩ := h
  rw [whenE_zero _ _ (by decide)] at h1 h2
  simp only [decide_eq_false_iff_not] at h1 h2
  exact ⟨by omega, by omega, eachF_out h3⟩
end Go.Sheet
namespace Go.Proofs.YtlffgdmljioaoaaGreatDoor
open Go.RowKit Go.Mem Go.Sheet
theorem holes1_any (W : World) (k n : Int) : Calls Tryz.prog 55 #[.int .i64 k, .int .i64 n] W fun e w' => e = .returned (.int .i64 (outE n 1 10000)) ∧ Below W.heap.size W w' := by
  go_enter Tryz.func55, Tryz.ntmps55
  go_wp2_with (go_at_call 56; refine (outside_any _ _ _ _).mono ?_; rintro e w' ⟨rfl, rfl⟩)
  go_ret
  exact ⟨rfl, Below.refl _ _⟩
set_option maxRecDepth 100000 in
set_option maxHeartbeats 1000000 in
theorem holes_any (W : World) (v : Value) (l : List Int) (h : Rd W (· < W.heap.size) 1 v l.length (l.map (Value.int .i64))) :
    Calls Tryz.prog 14 #[v] W (RetRows W (holes l)) := by
  have hE := enters Tryz.func55 (by kernel_rfl) rfl
  have HEA := Lib.hid (each_ints W v l 55 hE (fun n => outE n 1 10000) h holes1_any)
  have HH := Lib.hid h
  have hl := h.le
  obtain ⟨A, c, rfl, hnc, _, _⟩ := h.open_
  have HHL : Hid (holes l = if holesE l ≠ 0 then ([], holesE l) else (holesT l l.length, 0)) := rfl
  have HHE : Hid (fst [whenE ((l.length : Int) == 0) 12, whenE (decide (24 < (l.length : Int))) 5, eachF (fun _ n => outE n 1 10000) 0 l] = holesE l) := by
    show _ = _
    have e1 : ((l.length : Int) == 0) = decide (l.length = 0) := by rw [Bool.eq_iff_iff]; simp
    have e2 : decide (24 < (l.length : Int)) = decide (24 < l.length) := by simp; omega
    rw [holesE, e1, e2]
  have HOK : Hid (holesE l = 0 → 0 < l.length ∧ l.length ≤ 24 ∧ ∀ x ∈ l, 1 ≤ x ∧ x ≤ 10000) := holesE_ok
  generalize hX : eachF (fun _ n => outE n 1 10000) 0 l = X at *
  generalize HN : l.length = n at *
  have HN := Lib.hid HN
  clear h hE hX
  go_enter Tryz.func14, Tryz.ntmps14
  go_wp2_with (first | (go_at_call 53; refine (when_any _ _ _).mono ?_; rintro e w' ⟨rfl, rfl⟩))
  refine HEA.out.mono ?_
  rintro e w2 ⟨rfl, hb2⟩
  clear HEA
  have hb3 := hb2.alloc hb2.size (.cells #[.int .i64 (whenE ((n : Int) == 0) 12), .int .i64 (whenE (decide (24 < (n : Int))) 5), .int .i64 X] 28)
  go_wp2_with fail
  refine (first3 _ _ (whenE ((n : Int) == 0) 12) (whenE (decide (24 < (n : Int))) 5) X (by simp) (by simp) (by simp) (by simp)).mono ?_
  rw [HHE.out]
  rintro e w' ⟨rfl, rfl⟩
  generalize w2.alloc (.cells #[.int .i64 (whenE ((n : Int) == 0) 12), .int .i64 (whenE (decide (24 < (n : Int))) 5), .int .i64 X] 28) = w3 at *
  clear HHE hb2
  generalize holesE l = E at *
  by_cases h0 : (E != 0) = true
  · go_wp2
    go_ret2
    rw [HHL.out, if_pos (by simpa using h0)]
    exact ⟨_, rfl, hb3, RdRows.nil _⟩
  · have h0' : (E != 0) = false := by simpa using h0
    obtain ⟨hn0, hn24, hbd⟩ := HOK.out (by simpa using h0)
    have HS : Hid (holes l = (holesT l n, 0)) := by show _ = _; rw [HHL.out, if_neg (by simpa using h0)]
    have HBD := Lib.hid hbd
    have HB3 := Lib.hid hb3
    have S0 := (St.of_below hb3).row_nil 23 1
    obtain ⟨b, o, _, hA, _⟩ := HH.out.int (k := 0) hn0
    subst hA
    clear h0 hbd HOK HHL hb3
    go_wp2_with fail
    go_loopw [26, 5] (fun i v w' => ∃ (k : Nat) (vs : List Value), k ≤ n ∧ i = .int .i64 k ∧ Hid (vs.length = k) ∧ St W w' ([row 23 1 v k vs] ++ ownT 3 vs (holesT l k))) (fun i _ _ => n - (intOf i).toNat)
    case atStart => exact ⟨0, [], Nat.zero_le _, rfl, rfl, by simpa [ownT] using S0⟩
    case round =>
      obtain ⟨k, vs, hk, rfl, HV, S⟩ := hrel
      clear S0
      by_cases hlt : k < n
      · have HSS := Lib.hid S
        clear S
        go_wp2_with fail
        refine (repeat1_any _ wr.heap.size (-1000000000) n (by simp) (by omega)).mono ?_
        rintro e w4 ⟨g, rfl, S4⟩
        have S5 := ((HSS.out.alloc (.cells #[.int .i64 (-1000000000)] 3)).call S4).perm List.perm_append_comm
        have hS5 : St W w4 ([row 3 1 (.slice (some ⟨g, 0, none⟩) n n) n (ints (holesP l k 0))] ++ ([row 23 1 u5 k vs] ++ ownT 3 vs (holesT l k))) := by
          rw [holesP_zero, HN.out]
          simpa [ints, NONE] using S5
        clear S4 S5
        go_wp2_with fail
        go_loopw [35] (fun i w' => ∃ (j : Nat), j ≤ k + 1 ∧ i = .int .i64 j ∧ St W w' ([row 3 1 (.slice (some ⟨g, 0, none⟩) n n) n (ints (holesP l k j))] ++ ([row 23 1 u5 k vs] ++ ownT 3 vs (holesT l k)))) (fun i _ => k + 1 - (intOf i).toNat)
        case atStart => exact ⟨0, Nat.zero_le _, rfl, hS5⟩
        case round =>
          obtain ⟨j, hj, rfl, S⟩ := hrel
          clear hS5
          by_cases hjl : j < k + 1
          · have hsub := Rd.sub (HH.out.below S.bel) (k := j) (j := k + 1) (by omega) (by omega)
            rw [← List.map_take, ← List.map_drop] at hsub
            have hsl : ((l.take (k + 1)).drop j).length = k + 1 - j := by rw [List.length_drop, List.length_take, HN.out]; omega
            have HT := Lib.hid (total_any wr _ _ ((l.take (k + 1)).drop j) (by rw [hsl]; exact hsub) (fun y hy => by have := HBD.out y (List.mem_of_mem_take (List.mem_of_mem_drop hy)); omega) (by rw [hsl]; omega))
            obtain ⟨g', cap', hv, _, _, _, hcell, hfz⟩ := S.row_form (i := 0) rfl (by omega)
            cases hv
            have hjn : j < (ints (holesP l k j)).length := by rw [ints, List.length_map, holesP_len, HN.out]; omega
            have e1 := hcell j (by omega)
            rw [List.getElem?_eq_getElem hjn] at e1
            have e2 := hfz j
            have HST := Lib.hid (holesP_set (l := l) (i := k) (k := j) (by rw [HN.out]; omega))
            have HSS := Lib.hid S
            have hjkb : decide ((j : Int) < (k : Int) + 1) = true := by simp; omega
            clear hsub hsl hcell hfz S
            generalize sumF ((l.take (k + 1)).drop j) = sm at *
            have S6 := HSS.out.row_set (i := 0) rfl j (.int .i64 sm)
            have S7 : St W (wr.setCell ⟨g, j, none⟩ (.int .i64 sm)) ([row 3 1 (.slice (some ⟨g, 0, none⟩) n n) n (ints (holesP l k (j + 1)))] ++ ([row 23 1 u5 k vs] ++ ownT 3 vs (holesT l k))) := by
              rw [← HST.out, ints, List.map_set]
              exact S6
            have HS7 := Lib.hid S7
            clear S6 S7
            go_wp2_with fail
            refine HT.out.mono ?_
            rintro e w' ⟨rfl, rfl⟩
            go_wp2
            go_roundw
            case rel => exact ⟨j + 1, by omega, by go_num, HS7.out⟩
            case measure => simp [intOf]; omega
          · have hjkb : decide ((j : Int) < (k : Int) + 1) = false := by simp; omega
            obtain rfl : j = k + 1 := by omega
            rw [holesP_end] at S
            have HSS := Lib.hid S
            clear S
            go_wp2_with (at_builtin; refine wpList_append_st eltL rfl _ _ rfl rfl (HSS.out.alloc _) (k := 1) rfl rfl (rd_one (by simp)) one_slice (by omega) (by omega) ?_; intro v' w' S' _)
            have S6 : St W w' ([row 23 1 v' (k + 1) (vs ++ [.slice (some ⟨g, 0, none⟩) n n])] ++ ownT 3 (vs ++ [.slice (some ⟨g, 0, none⟩) n n]) (holesT l (k + 1))) := by
              rw [holesT_succ, ownT_snoc (by rw [HV.out, holesT_len]), holesRow_len, HN.out]
              have := S'.perm (L' := [row 23 1 v' (k + 1) (vs ++ [.slice (some ⟨g, 0, none⟩) n n])] ++ (ownT 3 vs (holesT l k) ++ [row 3 1 (.slice (some ⟨g, 0, none⟩) n n) n (ints (holesRow l k))])) (List.Perm.trans (List.Perm.swap _ _ _) (.cons _ (List.perm_append_comm (l₁ := [_]))))
              exact this
            have HS6 := Lib.hid S6
            clear S' S6
            go_roundw
            case rel => exact ⟨k + 1, _, by omega, by go_num, by show _ = _; simp [HV.out], HS6.out⟩
            case measure => simp [intOf]; omega
      · have hkb : decide ((k : Int) < n) = false := by simp; omega
        obtain rfl : k = n := by omega
        have hr := ownT_rows S (k := 0) rfl (by rw [HV.out, holesT_len])
        have HR := Lib.hid hr
        have HBF := Lib.hid S.bel
        clear S hr
        go_wp2
        go_ret2
        rw [HS.out]
        exact ⟨_, rfl, HBF.out, HR.out⟩
end Go.Proofs.YtlffgdmljioaoaaGreatDoor
/- Walks: walks. -/
namespace Go.Proofs.YtlffgdmljioaoaaGreatDoor
open Go.RowKit Go.Mem Go.Sheet
set_option maxRecDepth 100000 in
set_option maxHeartbeats 1000000 in
theorem walks_any (W : World) (v : Value) (m : IMat) (n : Nat) (h : RdRows W (· < W.heap.size) v m) (hm : SqOk n 999999999 m) (hn : n ≤ 24) :
    Calls Tryz.prog 97 #[v] W fun e w' => ∃ v', e = .returned v' ∧ Below W.heap.size W w' ∧ RdRows w' (· < w'.heap.size) v' (walksT m (n + 1)) := by
  have HH := Lib.hid h
  obtain ⟨vs0, h1, h2⟩ := h
  have HNM := Lib.hid hm.n_eq
  rw [hm.n_eq] at h1
  obtain ⟨A, c, rfl, _, _, _⟩ := h1.open_
  have H1 := Lib.hid h1
  have H2 : Hid (∀ (i : Nat) (x : Value) (r : List Int), vs0[i]? = some x → m[i]? = some r → Rd W (· < W.heap.size) 1 x r.length (ints r)) := h2
  have HM := Lib.hid hm
  clear h1 h2 hm
  go_enter Tryz.func97, Tryz.ntmps97
  go_wp2_with (refine wpList_make_st eltI rfl _ _ rfl (n := n) rfl rfl (St.refl W) (by omega) (by omega) ?_; intro w1 g S1 hg hb1)
  have hz : (madeCells (Value.int .i64 0).cells (n * 1)).toList = ints (dRow m 0) := by
    show (madeCells #[.int .i64 0] (n * 1)).toList = _
    rw [toList_madeCells_one, dRow, HNM.out, ints]; simp
  rw [hz] at S1
  have S2 : St W (w1.alloc (.cells #[.slice (some ⟨g, 0, none⟩) n n] 23)) ([row 23 1 (.slice (some ⟨w1.heap.size, 0, none⟩) 1 1) 1 [.slice (some ⟨g, 0, none⟩) n n]] ++ ownT 3 [.slice (some ⟨g, 0, none⟩) n n] (walksT m (0 + 1))) := by
    have e : ownT 3 [.slice (some ⟨g, 0, none⟩) n n] (walksT m (0 + 1)) = [row 3 1 (.slice (some ⟨g, 0, none⟩) n n) n (ints (dRow m 0))] := by
      show [row 3 1 _ (dRow m 0).length _] = _
      rw [dRow_len, HNM.out]
    rw [e]
    exact (S1.row_new (e := 23) (size := 1) (n := 1) #[.slice (some ⟨g, 0, none⟩) n n] (by unfold maxLen; omega) rfl).perm List.perm_append_comm
  have HS2 := Lib.hid S2
  clear hz S1 S2 hb1
  generalize w1.alloc (.cells #[.slice (some ⟨g, 0, none⟩) n n] 23) = w2 at *
  generalize hgg : w1.heap.size = gg at *
  clear hgg
  go_loopw [14, 3] (fun i v w' => ∃ (k : Nat) (vs : List Value), k ≤ n ∧ i = .int .i64 k ∧ Hid (vs.length = k + 1) ∧ St W w' ([row 23 1 v (k + 1) vs] ++ ownT 3 vs (walksT m (k + 1)))) (fun i _ _ => n - (intOf i).toNat)
  case atStart => exact ⟨0, [.slice (some ⟨g, 0, none⟩) n n], Nat.zero_le _, rfl, rfl, HS2.out⟩
  case round =>
    obtain ⟨k, vs, hk, rfl, HV, S⟩ := hrel
    clear HS2
    by_cases hlt : k < n
    · have S3 := (S.row_nil 3 1).perm (L' := [row 3 1 (.slice none 0 0) 0 []] ++ ([row 23 1 u3 (k + 1) vs] ++ ownT 3 vs (walksT m (k + 1)))) List.perm_append_comm
      have HS3 := Lib.hid S3
      clear S S3
      go_wp2_with fail
      go_loopw [19, 5] (fun i v w' => ∃ (j : Nat), j ≤ n ∧ i = .int .i64 j ∧ St W w' ([row 3 1 v j (ints ((m.take j).map fun r => timesR r (dRow m k)))] ++ ([row 23 1 u3 (k + 1) vs] ++ ownT 3 vs (walksT m (k + 1))))) (fun i _ _ => n - (intOf i).toNat)
      case atStart => exact ⟨0, Nat.zero_le _, rfl, HS3.out⟩
      case round =>
        obtain ⟨j, hj, rfl, S⟩ := hrel
        clear HS3
        by_cases hjl : j < n
        · obtain ⟨b, o, x, hA, hx, k1⟩ := (H1.out.below S.bel).val hjl
          subst hA
          have hjm : j < m.length := by rw [HNM.out]; exact hjl
          have hr : m[j]? = some m[j] := List.getElem?_eq_getElem hjm
          have hrd := (H2.out j x _ hx hr).later S.bel
          have hrl := HM.out.len _ (List.getElem_mem hjm)
          have hrb := HM.out.bd _ (List.getElem_mem hjm)
          have HG := Lib.hid (take_map (f := fun r => timesR r (dRow m k)) hr)
          generalize m[j] = r at *
          rw [hrl] at hrd
          obtain ⟨Ar, cr, rfl, _, _, _⟩ := hrd.open_
          have hT := ownT_rows (L := [row 3 1 u5 j (ints ((m.take j).map fun r => timesR r (dRow m k))), row 23 1 u3 (k + 1) vs]) S (k := 1) rfl (by rw [HV.out, walksT_len])
          obtain ⟨vs', t1, t2⟩ := hT
          rw [walksT_len] at t1
          obtain ⟨A3, c3, rfl, _, _, _⟩ := t1.open_
          obtain ⟨b3, o3, x3, hA, hx3, k2⟩ := t1.val (k := k) (by omega)
          subst hA
          have hd := t2 k x3 _ hx3 (walksT_at (by omega))
          rw [dRow_len, HNM.out] at hd
          obtain ⟨Ad, cd, rfl, _, _, _⟩ := hd.open_
          have HD := Lib.hid hd
          have HRD := Lib.hid hrd
          have hdb := dRow_bd HM.out (by omega) (by omega) k (by omega)
          have HTT := Lib.hid (fun w (hb : Below wr.heap.size wr w) => times_any w _ _ (.slice Ar n cr) (.slice Ad n cd) r (dRow m k) 999999999 (999999999 * k) (by rw [hrl]; exact HRD.out.later hb) (by rw [dRow_len, HNM.out]; exact HD.out.later hb) (by rw [hrl, dRow_len, HNM.out]; omega) hrb hdb (by omega) (by omega) (by omega))
          have hk1 : (k : Int) < (k : Int) + 1 := by omega
          have hk2 : k < k + 1 := by omega
          have HS := Lib.hid S
          have l1 := World.block_lt_of_cell? wr _ k1
          have l2 := World.block_lt_of_cell? wr _ k2
          generalize timesR r (dRow m k) = tv at *
          clear hx hr hrd hrl hrb t1 t2 hx3 hd hdb hjm S
          go_wp2_with fail
          refine wp_pre_tail 1 8 (fun w' => Below wr.heap.size wr w') (by kernel_rfl) (by kernel_rfl) (Below.refl _ _).drew ?_
          simp only [List.take_succ_cons, List.take_zero, List.drop_succ_cons, List.drop_zero, Nat.reduceSub]
          have hK2 : ∀ w w' : World, Below wr.heap.size wr w → Below w.heap.size w w' → Below wr.heap.size wr w' := fun w w' h h' => h.trans (h'.mono h.size)
          generalize hK : (fun w' => Below wr.heap.size wr w') = K
          intro hne
          have kb : ∀ y : Wd K, Below wr.heap.size wr y.w := by subst hK; exact fun y => y.h
          have hK3 : ∀ w w' : World, K w → Below w.heap.size w w' → K w' := by subst hK; exact hK2
          have y2 : ∀ y : Wd K, y.w.cell? ⟨b3, o3 + k, none⟩ = some (.slice Ad n cd) := fun y => ((kb y).cell (p := ⟨b3, o3 + k, none⟩) l2).trans k2
          clear hK hK2
          change wpQuiet _ _ _ _ (_ :: []) _
          go_big_quiet_step ((fail))
          refine wpQuiet_nil ?_
          repeat (go_big_quiet_step ((first | (go_at_call 46; exact cls_below hK3 (plus_any _)) | (go_at_call 47; exact cls_below hK3 (HTT.out _ (kb _))))))
          refine wpQuiet_nil ?_
          intro y
          have S1 := HS.out.ext (kb y)
          clear y2 kb hK3 hne k1 k2 l1 l2
          generalize y.w = w4 at *
          go_wp2_with (at_builtin; refine wpList_append_st eltI rfl _ _ rfl rfl (S1.alloc _) (k := 0) rfl rfl (rd_one (by simp)) (one_int _ _) (by omega) (by omega) ?_; intro v' w' S' _)
          refine NoPanic.normal ?_
          have S5 : St W w' ([row 3 1 v' (j + 1) (ints (((m.take j).map fun r => timesR r (dRow m k)) ++ [tv]))] ++ ([row 23 1 (.slice (some ⟨b3, o3, none⟩) (k + 1) c3) (k + 1) vs] ++ ownT 3 vs (walksT m (k + 1)))) := by
            simpa [ints] using S'
          have HS5 := Lib.hid S5
          clear S1 S' S5
          go_wp2
          go_roundw
          case rel => exact ⟨j + 1, by omega, by go_num, by rw [HG.out]; exact HS5.out⟩
          case measure => simp [intOf]; omega
        · have hjb : decide ((j : Int) < n) = false := by simp; omega
          obtain rfl : j = n := by omega
          rw [List.take_of_length_le (Nat.le_of_eq HNM.out)] at S
          obtain ⟨A5, c5, rfl, _, _, _⟩ := (S.row_rd (i := 0) rfl).open_
          have HS := Lib.hid S
          clear S
          go_wp2_with (at_builtin; refine wpList_append_st eltL rfl _ _ rfl rfl (HS.out.alloc _) (k := 1) rfl rfl (rd_one (by simp)) one_slice (by omega) (by omega) ?_; intro v' w' S' _)
          have S6 : St W w' ([row 23 1 v' (k + 1 + 1) (vs ++ [.slice A5 j c5])] ++ ownT 3 (vs ++ [.slice A5 j c5]) (walksT m (k + 1 + 1))) := by
            rw [walksT_succ m (k + 1), ownT_snoc (by rw [HV.out, walksT_len]), dRow_len, HNM.out, dRow, stepD]
            exact S'.perm (L' := [row 23 1 v' (k + 1 + 1) (vs ++ [.slice A5 j c5])] ++ (ownT 3 vs (walksT m (k + 1)) ++ [row 3 1 (.slice A5 j c5) j (ints (m.map fun r => timesR r (dRow m k)))])) (List.Perm.trans (List.Perm.swap _ _ _) (.cons _ (List.perm_append_comm (l₁ := [_]))))
          have HS6 := Lib.hid S6
          clear S' S6
          go_roundw
          case rel => exact ⟨k + 1, _, by omega, by go_num, by show _ = _; simp [HV.out], HS6.out⟩
          case measure => simp [intOf]; omega
    · have hkb : decide ((k : Int) < n) = false := by simp; omega
      obtain rfl : k = n := by omega
      have HR := Lib.hid (ownT_rows S (k := 0) rfl (by rw [HV.out, walksT_len]))
      have HBF := Lib.hid S.bel
      clear S
      go_wp2
      go_ret
      exact ⟨_, rfl, HBF.out, HR.out⟩
end Go.Proofs.YtlffgdmljioaoaaGreatDoor
/- Walks: greatest. -/
namespace Go.Sheet
open Go.RowKit Go.Mem
theorem rd_at2 {w : World} {S : Nat → Prop} {n i j N c : Nat} {A : Option Addr} {T : IMat} {x : Int} (h : RdRows w S (.slice A N c) T) (hl : ∀ r ∈ T, r.length = n) (hi : i < T.length) (hj : j < n) (hx : at2 T i j = x) :
    ∃ b o b' o' c', A = some ⟨b, o, none⟩ ∧ w.cell? ⟨b, o + i, none⟩ = some (.slice (some ⟨b', o', none⟩) n c') ∧ n ≤ c' ∧ w.cell? ⟨b', o' + j, none⟩ = some (.int .i64 x) := by
  have hr : T[i]? = some T[i] := List.getElem?_eq_getElem hi
  obtain ⟨b, o, b', o', c', m, h1, h2, h3, h4, h5⟩ := rows_at h hr (hl _ (List.getElem_mem hi)) hj
  refine ⟨b, o, b', o', c', h1, h2, h3, ?_⟩
  have : at2 T i j = m := by rw [at2, show T.getD i [] = T[i] by rw [List.getD_eq_getElem?_getD, hr, Option.getD_some], List.getD_eq_getElem?_getD, h4, Option.getD_some]
  rw [h5, ← this, hx]
theorem at2_walks {m : IMat} {k i j : Nat} (h : i < k) : at2 (walksT m k) i j = (dRow m i).getD j 0 := by
  rw [at2, show (walksT m k).getD i [] = dRow m i by rw [List.getD_eq_getElem?_getD, walksT_at h, Option.getD_some]]
theorem at2_walks_bd {n k i j : Nat} {b : Int} {m : IMat} (h : SqOk n b m) (hb : 0 ≤ b) (hb2 : b ≤ 30000000000) (hi : i < k) (hi2 : i ≤ 30) (hj : j < n) : XB (b * i) (at2 (walksT m k) i j) := by
  rw [at2_walks hi]
  have hl : j < (dRow m i).length := by rw [dRow_len, h.n_eq]; exact hj
  rw [List.getD_eq_getElem?_getD, List.getElem?_eq_getElem hl, Option.getD_some]
  exact dRow_bd h hb hb2 i hi2 _ (List.getElem_mem hl)
theorem karpIn_step {d : IMat} {n v k : Nat} {s t : Int × Int} (hk : k < n) (h : karpIn d n v (List.range' k (n - k)) s = t) :
    karpIn d n v (List.range' (k + 1) (n - (k + 1))) (if at2 d k v ≠ noth ∧ (at2 d n v - at2 d k v) * s.2 < s.1 * ((n : Int) - k) then (at2 d n v - at2 d k v, (n : Int) - k) else s) = t := by
  rw [← h, show n - k = (n - (k + 1)) + 1 by omega, List.range'_succ, karpIn]
theorem karpF_step {d : IMat} {n k : Nat} {b : Best3} {t : Best3} (hk : k < n) (h : karpF d n (List.range' k (n - k)) b = t) :
    karpF d n (List.range' (k + 1) (n - (k + 1))) (if at2 d n k = noth then b else karpUp b (karpV d n k)) = t := by
  rw [← h, show n - k = (n - (k + 1)) + 1 by omega, List.range'_succ, karpF]
theorem mul_bd {a b A B : Int} (ha : -A ≤ a ∧ a ≤ A) (hb : 0 ≤ b ∧ b ≤ B) : -(A * B) ≤ a * b ∧ a * b ≤ A * B := by
  rcases Int.le_total 0 a with h | h
  · have h1 := Int.mul_le_mul ha.2 hb.2 hb.1 (by omega)
    have h2 := Int.mul_nonneg h hb.1
    omega
  · have h1 := Int.mul_le_mul (show -a ≤ A by omega) hb.2 hb.1 (by omega)
    have h2 := Int.mul_nonneg (show 0 ≤ -a by omega) hb.1
    rw [Int.neg_mul] at h1 h2
    omega
end Go.Sheet
namespace Go.Proofs.YtlffgdmljioaoaaGreatDoor
open Go.RowKit Go.Mem Go.Sheet
set_option maxRecDepth 100000 in
set_option maxHeartbeats 2000000 in
theorem greatest_any (W : World) (v : Value) (m : IMat) (n : Nat) (h : RdRows W (· < W.heap.size) v m) (hm : SqOk n 999999999 m) (hn : n ≤ 24) :
    Calls Tryz.prog 44 #[v] W fun e w' => e = .returned (.tuple #[.int .i64 (greatestF m).num, .int .i64 (greatestF m).den, .bool (greatestF m).found]) ∧ Below W.heap.size W w' := by
  have HWK := Lib.hid (walks_any W v m n h hm hn)
  have HH := Lib.hid h
  obtain ⟨vs0, h1, h2⟩ := h
  have HNM := Lib.hid hm.n_eq
  rw [hm.n_eq] at h1
  obtain ⟨A, c, rfl, _, _, _⟩ := h1.open_
  have HM := Lib.hid hm
  clear h1 h2 hm
  go_enter Tryz.func44, Tryz.ntmps44
  go_wp2_with fail
  refine HWK.out.mono ?_
  rintro e w2 ⟨v2, rfl, hb2, hr2⟩
  clear HWK
  have HR := Lib.hid hr2
  have HB2 := Lib.hid hb2
  obtain ⟨vs2, t1, t2⟩ := hr2
  rw [walksT_len] at t1
  obtain ⟨A2, c2, rfl, _, _, _⟩ := t1.open_
  obtain ⟨b2, o2, _, hA, _⟩ := t1.val (k := 0) (by omega)
  subst hA
  have hlen : ∀ r ∈ walksT m (n + 1), r.length = n := by
    intro r hr
    obtain ⟨i, _, rfl⟩ := List.mem_map.1 hr
    rw [dRow_len, HNM.out]
  have HL := Lib.hid hlen
  have HBD := Lib.hid (fun (i j : Nat) (hi : i < n + 1) (hj : j < n) => at2_walks_bd (k := n + 1) HM.out (by omega) (by omega) hi (by omega) hj)
  have HTL := Lib.hid (walksT_len m (n + 1))
  have HZ : Hid (∀ j, j < n → at2 (walksT m (n + 1)) 0 j = 0) := fun j hj => by
    rw [at2_walks (by omega), dRow, List.getD_eq_getElem?_getD, List.getElem?_replicate, HNM.out, if_pos hj]; rfl
  have HG : Hid (greatestF m = karpF (walksT m (n + 1)) n (List.range' 0 (n - 0)) ⟨0, 1, false⟩) := by
    show _ = _
    rw [greatestF, HNM.out, Nat.sub_zero, List.range_eq_range']
  generalize walksT m (n + 1) = T at *
  generalize hGG : greatestF m = GF at *
  have HGG := Lib.hid hGG
  clear hGG
  clear t1 t2 hlen hb2
  go_wp2_with fail
  go_loopw [19, 7, 8, 9] (fun i vn vd vf w' => ∃ (k : Nat) (b : Best3), k ≤ n ∧ i = .int .i64 k ∧ vn = .int .i64 b.num ∧ vd = .int .i64 b.den ∧ vf = .bool b.found ∧ Below w2.heap.size w2 w' ∧ (-50000000000 ≤ b.num ∧ b.num ≤ 50000000000) ∧ (1 ≤ b.den ∧ b.den ≤ 24) ∧
    Hid (karpF T n (List.range' k (n - k)) b = GF)) (fun i _ _ _ _ => n - (intOf i).toNat)
  case atStart => exact ⟨0, ⟨0, 1, false⟩, Nat.zero_le _, rfl, rfl, rfl, rfl, Below.refl _ _, by dsimp only; omega, by dsimp only; omega, HG.out.symm⟩
  case round =>
    obtain ⟨k, ⟨num, den, found⟩, hk, rfl, rfl, rfl, rfl, hb, hnum, hden, he⟩ := hrel
    dsimp only at hnum hden
    by_cases hlt : k < n
    · obtain ⟨dn, hdn⟩ : ∃ x, at2 T n k = x := ⟨_, rfl⟩
      obtain ⟨b1, o1, b1', o1', c1', hA, k1, hc1, k2⟩ := rd_at2 (HR.out.later hb) HL.out (i := n) (j := k) (by rw [HTL.out]; omega) hlt hdn
      cases hA
      have hbdn := HBD.out n k (by omega) hlt
      rw [hdn] at hbdn
      have HSTEP := Lib.hid (karpF_step hlt he.out)
      have hnn1 : (n : Int) < (n : Int) + 1 := by omega
      have HDN := Lib.hid hdn
      clear hdn
      by_cases h0 : dn = noth
      · have h0b : (dn == -1125899906842624) = true := by rw [h0]; rfl
        have HN2 : Hid (karpF T n (List.range' (k + 1) (n - (k + 1))) ⟨num, den, found⟩ = GF) := by
          have := HSTEP.out
          rw [if_pos (by rw [HDN.out, h0])] at this
          exact this
        clear h0 hbdn
        go_wp2
        go_roundw
        case rel => exact ⟨k + 1, ⟨num, den, found⟩, by omega, by go_num, rfl, rfl, rfl, hb, hnum, hden, HN2.out⟩
        case measure => simp [intOf]; omega
      · have h0b : (dn == -1125899906842624) = false := by
          simp only [beq_eq_false_iff_ne, ne_eq]; exact h0
        have hdnb : -23999999976 ≤ dn ∧ dn ≤ 23999999976 := by
          rcases hbdn with h | h
          · exact absurd h h0
          · have : 999999999 * (n : Int) ≤ 23999999976 := by omega
            omega
        have HN2 : Hid (karpF T n (List.range' (k + 1) (n - (k + 1))) (karpUp ⟨num, den, found⟩ (karpV T n k)) = GF) := by
          have := HSTEP.out
          rw [if_neg (by rw [HDN.out]; exact h0)] at this
          exact this
        obtain ⟨b0, o0, b0', o0', c0', hA, e1, hc0, e2⟩ := rd_at2 (HR.out.later hb) HL.out (i := 0) (j := k) (by rw [HTL.out]; omega) hlt (HZ.out k hlt)
        cases hA
        rw [Nat.add_zero] at e1
        have HKV : Hid (karpIn T n k (List.range' 1 (n - 1)) (dn, n) = karpV T n k) := by
          show _ = _
          rw [karpV, HDN.out, HZ.out k hlt, Int.sub_zero]
        clear h0 hbdn HSTEP
        go_wp2_with fail
        go_quiet (fail)
        have hb3 := below_drewN hb nq
        clear k1 k2 e1 e2 hb
        generalize wr.drewN nq = w3 at *
        go_wp2_with fail
        go_loopw [13, 11, 12] (fun i vp vq w' => ∃ (j : Nat) (p q : Int), 1 ≤ j ∧ j ≤ n ∧ i = .int .i64 j ∧ vp = .int .i64 p ∧ vq = .int .i64 q ∧ Below w2.heap.size w2 w' ∧ (-50000000000 ≤ p ∧ p ≤ 50000000000) ∧ (1 ≤ q ∧ q ≤ n) ∧
          Hid (karpIn T n k (List.range' j (n - j)) (p, q) = karpV T n k)) (fun i _ _ _ => n - (intOf i).toNat)
        case atStart => exact ⟨1, dn, n, Nat.le_refl _, by omega, rfl, rfl, rfl, hb3, by omega, by omega, HKV.out⟩
        case round =>
          obtain ⟨j, p, q, hj1, hj, rfl, rfl, rfl, hb, hp, hq, hE⟩ := hrel
          clear HKV hb3
          by_cases hjl : j < n
          · obtain ⟨dk, hdk⟩ : ∃ x, at2 T j k = x := ⟨_, rfl⟩
            obtain ⟨b1, o1, b1', o1', c1', hA, k1, hc1, k2⟩ := rd_at2 (HR.out.later hb) HL.out (i := n) (j := k) (by rw [HTL.out]; omega) hlt HDN.out
            cases hA
            obtain ⟨b3, o3, b3', o3', c3', hA, k3, hc3, k4⟩ := rd_at2 (HR.out.later hb) HL.out (i := j) (j := k) (by rw [HTL.out]; omega) hlt hdk
            cases hA
            have hbdk := HBD.out j k (by omega) hlt
            rw [hdk] at hbdk
            have HS2 := Lib.hid (karpIn_step hjl hE.out)
            have hjn1 : (j : Int) < (n : Int) + 1 := by omega
            have HDK := Lib.hid hdk
            clear hdk
            by_cases h1 : dk = noth
            · have h1b : (dk != -1125899906842624) = false := by rw [h1]; rfl
              have HN3 : Hid (karpIn T n k (List.range' (j + 1) (n - (j + 1))) (p, q) = karpV T n k) := by
                have := HS2.out
                rw [if_neg (by rw [HDK.out]; exact fun h => h.1 h1)] at this
                exact this
              clear h1 hbdk HS2
              go_wp2_with fail
              go_quiet (fail)
              go_wp2
              go_roundw
              case rel => exact ⟨j + 1, p, q, by omega, by omega, by go_num, rfl, rfl, below_drewN hb _, hp, hq, HN3.out⟩
              case measure => simp [intOf]; omega
            · have h1b : (dk != -1125899906842624) = true := by simp only [bne_iff_ne, ne_eq]; exact h1
              have hdkb : -23999999976 ≤ dk ∧ dk ≤ 23999999976 := by
                rcases hbdk with h | h
                · exact absurd h h1
                · have : 999999999 * (j : Int) ≤ 23999999976 := by omega
                  omega
              have HS3 : Hid (karpIn T n k (List.range' (j + 1) (n - (j + 1))) (if (dn - dk) * q < p * ((n : Int) - j) then (dn - dk, (n : Int) - j) else (p, q)) = karpV T n k) := by
                have := HS2.out
                rw [HDN.out, HDK.out] at this
                by_cases hc : (dn - dk) * q < p * ((n : Int) - j)
                · rw [if_pos ⟨h1, hc⟩] at this; show _ = _; rw [if_pos hc]; exact this
                · rw [if_neg (fun h => hc h.2)] at this; show _ = _; rw [if_neg hc]; exact this
              have hm1 := mul_bd (a := dn - dk) (b := q) (A := 50000000000) (B := 24) (by omega) (by omega)
              have hm2 := mul_bd (a := p) (b := (n : Int) - j) (A := 50000000000) (B := 24) (by omega) (by omega)
              have hw1 : IntKind.i64.wrap (dn - dk) = dn - dk := IntWalk.i64_in _ (by omega)
              have hw2 : IntKind.i64.wrap ((dn - dk) * q) = (dn - dk) * q := IntWalk.i64_in _ (by omega)
              have hw3 : IntKind.i64.wrap ((n : Int) - j) = (n : Int) - j := IntWalk.i64_in _ (by omega)
              have hw4 : IntKind.i64.wrap (p * ((n : Int) - j)) = p * ((n : Int) - j) := IntWalk.i64_in _ (by omega)
              have hdd : -50000000000 ≤ dn - dk ∧ dn - dk ≤ 50000000000 := by omega
              have hnj : 1 ≤ (n : Int) - j ∧ (n : Int) - j ≤ n := by omega
              clear h1 hbdk HS2 hm1 hm2
              generalize hlhs : (dn - dk) * q = lhs at *
              generalize hrhs : p * ((n : Int) - j) = rhs at *
              by_cases hc : lhs < rhs
              · have hcb : decide (lhs < rhs) = true := by simpa using hc
                have HN3 : Hid (karpIn T n k (List.range' (j + 1) (n - (j + 1))) (dn - dk, (n : Int) - j) = karpV T n k) := by
                  have := HS3.out
                  rw [if_pos hc] at this
                  exact this
                clear hc HS3
                go_wp2_with fail
                go_quiet (fail)
                go_wp2_with fail
                go_quiet (fail)
                go_wp2
                go_roundw
                case rel => exact ⟨j + 1, dn - dk, (n : Int) - j, by omega, by omega, by go_num, rfl, rfl, below_drewN hb _, hdd, hnj, HN3.out⟩
                case measure => simp [intOf]; omega
              · have hcb : decide (lhs < rhs) = false := by simpa using hc
                have HN3 : Hid (karpIn T n k (List.range' (j + 1) (n - (j + 1))) (p, q) = karpV T n k) := by
                  have := HS3.out
                  rw [if_neg hc] at this
                  exact this
                clear hc HS3
                go_wp2_with fail
                go_quiet (fail)
                go_wp2
                go_roundw
                case rel => exact ⟨j + 1, p, q, by omega, by omega, by go_num, rfl, rfl, below_drewN hb _, hp, hq, HN3.out⟩
                case measure => simp [intOf]; omega
          · have hjb : decide ((j : Int) < n) = false := by simp; omega
            have hjb2 : decide (j < n) = false := by simp; omega
            have hjn : j = n := by omega
            have hpq : (p, q) = karpV T n k := by
              have := hE.out
              rwa [show n - j = 0 by omega, List.range'_zero, karpIn] at this
            have HN4 := HN2.out
            rw [← hpq] at HN4
            have HUP := Lib.hid HN4
            have hq24 : 1 ≤ q ∧ q ≤ 24 := by omega
            have hm1 := mul_bd (a := p) (b := den) (A := 50000000000) (B := 24) (by omega) (by omega)
            have hm2 := mul_bd (a := num) (b := q) (A := 50000000000) (B := 24) (by omega) (by omega)
            have hw1 : IntKind.i64.wrap (p * den) = p * den := IntWalk.i64_in _ (by omega)
            have hw2 : IntKind.i64.wrap (num * q) = num * q := IntWalk.i64_in _ (by omega)
            clear hpq HN4 hE hjn hm1 hm2
            cases found with
            | false =>
              have HUQ : Hid (karpF T n (List.range' (k + 1) (n - (k + 1))) ⟨p, q, true⟩ = GF) := by
                have := HUP.out
                rw [karpUp, if_pos (.inl rfl)] at this
                exact this
              go_wp2
              go_roundw
              case rel => exact ⟨k + 1, ⟨p, q, true⟩, by omega, by go_num, rfl, rfl, rfl, hb, hp, hq24, HUQ.out⟩
              case measure => simp [intOf]; omega
            | true =>
              by_cases hc : num * q < p * den
              · have HUQ : Hid (karpF T n (List.range' (k + 1) (n - (k + 1))) ⟨p, q, true⟩ = GF) := by
                  have := HUP.out
                  rw [karpUp, if_pos (.inr hc)] at this
                  exact this
                have hcb : decide (num * q < p * den) = true := by simpa using hc
                generalize hlhs : num * q = lhs at *
                generalize hrhs : p * den = rhs at *
                clear hc
                go_wp2
                go_roundw
                case rel => exact ⟨k + 1, ⟨p, q, true⟩, by omega, by go_num, rfl, rfl, rfl, hb, hp, hq24, HUQ.out⟩
                case measure => simp [intOf]; omega
              · have HUQ : Hid (karpF T n (List.range' (k + 1) (n - (k + 1))) ⟨num, den, true⟩ = GF) := by
                  have := HUP.out
                  rw [karpUp, if_neg (by simpa using hc)] at this
                  exact this
                have hcb : decide (num * q < p * den) = false := by simpa using hc
                generalize hlhs : num * q = lhs at *
                generalize hrhs : p * den = rhs at *
                clear hc
                go_wp2
                go_roundw
                case rel => exact ⟨k + 1, ⟨num, den, true⟩, by omega, by go_num, rfl, rfl, rfl, hb, hnum, hden, HUQ.out⟩
                case measure => simp [intOf]; omega
    · have hkb : decide ((k : Int) < n) = false := by simp; omega
      have hGF : GF = ⟨num, den, found⟩ := by
        have := he.out
        rw [show n - k = 0 by omega, List.range'_zero, karpF] at this
        exact this.symm
      have HGF := Lib.hid hGF
      clear hGF
      have HBF := Lib.hid (HB2.out.trans (hb.mono HB2.out.size))
      go_wp2
      go_ret3
      rw [HGG.out, HGF.out]
      exact ⟨rfl, HBF.out⟩
end Go.Proofs.YtlffgdmljioaoaaGreatDoor
