/- Walks of the reference: ShortPace, CheckPace. -/
import Derived.Test.YtjfhncnpmelopaaGreatDoorB10
import Derived.Test.YtjfhncnpmelopaaGreatDoorB11
import Derived.Test.YtjfhncnpmelopaaGreatDoorB14
import Derived.Test.YtjfhncnpmelopaaGreatDoorB09
set_option linter.unusedVariables false
set_option linter.unusedSimpArgs false
set_option linter.unusedSectionVars false
set_option linter.constructorNameAsVariable false
namespace Go.Sheet
theorem paceE1_cases (p : PC) : paceE1 p = if p.rd.length = 0 then 12 else if 24 < p.rd.length then 5 else if eachF (fun _ n => outE n 0 10000) 0 p.rd ≠ 0 then eachF (fun _ n => outE n 0 10000) 0 p.rd else if p.mi.length ≠ p.rd.length then 2 else 0 := by
  rw [paceE1]
  by_cases h1 : p.rd.length = 0
  · simp [fst, whenE, h1]
  · by_cases h2 : 24 < p.rd.length
    · simp [fst, whenE, h1, h2]
    · by_cases h3 : eachF (fun _ n => outE n 0 10000) 0 p.rd ≠ 0
      · simp [fst, whenE, h1, h2, h3]
      · simp only [ne_eq, Classical.not_not] at h3
        by_cases h4 : p.mi.length ≠ p.rd.length
        · simp [fst, whenE, h1, h2, h3, h4]
        · simp [fst, whenE, h1, h2, h3, h4]
theorem paceE2_cases (p : PC) : paceE2 p = if p.ho.length = 0 then 12 else if 36 < p.ho.length then 5 else eachF (fun _ n => outE n 1 8) 0 p.ho := by
  rw [paceE2]
  by_cases h1 : p.ho.length = 0
  · simp [fst, whenE, h1]
  · by_cases h2 : 36 < p.ho.length
    · simp [fst, whenE, h1, h2]
    · by_cases h3 : eachF (fun _ n => outE n 1 8) 0 p.ho = 0
      · simp [fst, whenE, h1, h2, h3]
      · simp [fst, whenE, h1, h2, h3]
end Go.Sheet
namespace Go.Proofs.YtjfhncnpmelopaaGreatDoor
open Go.RowKit Go.Mem Go.Sheet
set_option maxRecDepth 100000 in
set_option maxHeartbeats 1000000 in
theorem refShortPace_any (W : World) (vr vm vh : Value) (p : PC) (h : RdPace W (· < W.heap.size) vr vm vh p) :
    Calls Tryz.prog 26 #[.agg #[vr, vm, vh]] W fun e w' => IsB e ∧ Below W.heap.size W w' := by
  obtain ⟨h1, ⟨vs, h2, h2'⟩, h3⟩ := h
  have b1 := h1.le
  have b2 := h2.le
  have b3 := h3.le
  have hb := (Below.refl W.heap.size W).alloc (Nat.le_refl _) (.cells #[vr, vm, vh] 56)
  have h2w := h2.later hb
  have H2' : Hid (∀ (i : Nat) (x : Value) (r : List Int), vs[i]? = some x → p.mi[i]? = some r → Rd W (· < W.heap.size) 1 x r.length (ints r)) := h2'
  obtain ⟨Ar, cr, rfl, _, _, _⟩ := h1.open_
  obtain ⟨Am, cm, rfl, _, _, _⟩ := h2.open_
  obtain ⟨Ah, ch, rfl, _, _, _⟩ := h3.open_
  generalize p.rd.length = n1 at *
  generalize HN2 : p.mi.length = n2 at *
  have HN2 := Lib.hid HN2
  generalize p.ho.length = n3 at *
  have k0 : (W.alloc (.cells #[.slice Ar n1 cr, .slice Am n2 cm, .slice Ah n3 ch] 56)).cell? ⟨W.heap.size, 0, none⟩ = some (.slice Ar n1 cr) := by simp
  have k1 : (W.alloc (.cells #[.slice Ar n1 cr, .slice Am n2 cm, .slice Ah n3 ch] 56)).cell? ⟨W.heap.size, 1, none⟩ = some (.slice Am n2 cm) := by simp
  have k2 : (W.alloc (.cells #[.slice Ar n1 cr, .slice Am n2 cm, .slice Ah n3 ch] 56)).cell? ⟨W.heap.size, 2, none⟩ = some (.slice Ah n3 ch) := by simp
  clear h1 h2 h3 h2'
  go_enter Tryz.func26, Tryz.ntmps26
  by_cases g1 : 30 < n1
  · go_wp2
    go_ret
    exact ⟨⟨_, rfl⟩, hb⟩
  · by_cases g2 : 30 < n2
    · go_wp2
      go_ret
      exact ⟨⟨_, rfl⟩, hb⟩
    · by_cases g3 : 40 < n3
      · go_wp2
        go_ret
        exact ⟨⟨_, rfl⟩, hb⟩
      · go_wp2
        generalize W.alloc (.cells #[.slice Ar n1 cr, .slice Am n2 cm, .slice Ah n3 ch] 56) = w1 at *
        go_loop [3] (fun i => ∃ k : Nat, k ≤ n2 ∧ i = .int .i64 k) (fun i => n2 - (intOf i).toNat)
        case atStart => exact ⟨0, Nat.zero_le _, rfl⟩
        case round =>
          obtain ⟨k, hk, rfl⟩ := hrel
          by_cases hlt : k < n2
          · obtain ⟨b, o, y, rfl, hy, cy⟩ := h2w.val hlt
            have hrm : p.mi[k]? = some p.mi[k] := List.getElem?_eq_getElem (by rw [HN2.out]; exact hlt)
            obtain ⟨Ay, cy', rfl, _, _, _⟩ := (H2'.out k y _ hy hrm).open_
            have hrl := (H2'.out k _ _ hy hrm).le
            generalize p.mi[k].length = m at *
            clear hy hrm
            by_cases g4 : 40 < m
            · have g4' : decide (40 < (m : Int)) = true := by simp; omega
              go_wp2
              go_ret
              exact ⟨⟨_, rfl⟩, hb⟩
            · have g4' : decide (40 < (m : Int)) = false := by simp; omega
              go_wp2
              go_round
              case rel => exact ⟨k + 1, by omega, by go_num⟩
              case measure => simp [intOf]; omega
          · obtain rfl : k = n2 := by omega
            go_wp2
            go_ret
            exact ⟨⟨_, rfl⟩, hb⟩
theorem outE_yes {n lo hi : Int} (h : outB n lo hi = true) : outE n lo hi = 3 := by rw [outE_outB, if_pos h]
theorem outE_no {n lo hi : Int} (h : outB n lo hi = false) : outE n lo hi = 0 := by rw [outE_outB, if_neg (by rw [h]; decide)]
set_option maxRecDepth 100000 in
set_option maxHeartbeats 1000000 in
theorem refCheckPace_any (W : World) (vr vm vh : Value) (p : PC) (h : RdPace W (· < W.heap.size) vr vm vh p) :
    Calls Tryz.prog 27 #[.agg #[vr, vm, vh]] W fun e w' => e = .returned (.int .i64 (checkPace p)) ∧ Below W.heap.size W w' := by
  obtain ⟨h1, ⟨vs, h2, h2'⟩, h3⟩ := h
  have b1 := h1.le
  have b2 := h2.le
  have b3 := h3.le
  have hb := (Below.refl W.heap.size W).alloc (Nat.le_refl _) (.cells #[vr, vm, vh] 56)
  have h1w := h1.later hb
  have h2w := h2.later hb
  have h3w := h3.later hb
  have H2' : Hid (∀ (i : Nat) (x : Value) (r : List Int), vs[i]? = some x → p.mi[i]? = some r → Rd W (· < W.heap.size) 1 x r.length (ints r)) := h2'
  have HV : Hid (checkPace p = if p.rd.length = 0 then 12 else if 24 < p.rd.length then 5 else if eachF (fun _ n => outE n 0 10000) 0 p.rd ≠ 0 then eachF (fun _ n => outE n 0 10000) 0 p.rd else if p.mi.length ≠ p.rd.length then 2 else
      if p.ho.length = 0 then 12 else if 36 < p.ho.length then 5 else if eachF (fun _ n => outE n 1 8) 0 p.ho ≠ 0 then eachF (fun _ n => outE n 1 8) 0 p.ho else eachF (fun _ r => paceR p.ho.length r) 0 p.mi) := by
    show _ = _
    rw [checkPace, paceE1_cases, paceE2_cases]
    by_cases e1 : p.rd.length = 0
    · simp [e1]
    · by_cases e2 : 24 < p.rd.length
      · simp [e1, e2]
      · by_cases e3 : eachF (fun _ n => outE n 0 10000) 0 p.rd = 0
        · by_cases e4 : p.mi.length = p.rd.length
          · by_cases e5 : p.ho.length = 0
            · simp [e1, e2, e3, e4, e5]
            · by_cases e6 : 36 < p.ho.length
              · simp [e1, e2, e3, e4, e5, e6]
              · simp [e1, e2, e3, e4, e5, e6]
          · simp [e1, e2, e3, e4]
        · simp [e1, e2, e3]
  obtain ⟨Ar, cr, rfl, _, _, _⟩ := h1.open_
  obtain ⟨Am, cm, rfl, _, _, _⟩ := h2.open_
  obtain ⟨Ah, ch, rfl, _, _, _⟩ := h3.open_
  generalize HN1 : p.rd.length = n1 at *
  generalize HN2 : p.mi.length = n2 at *
  generalize HN3 : p.ho.length = n3 at *
  have HN1 := Lib.hid HN1
  have HN2 := Lib.hid HN2
  have HN3 := Lib.hid HN3
  have k0 : (W.alloc (.cells #[.slice Ar n1 cr, .slice Am n2 cm, .slice Ah n3 ch] 56)).cell? ⟨W.heap.size, 0, none⟩ = some (.slice Ar n1 cr) := by simp
  have k1 : (W.alloc (.cells #[.slice Ar n1 cr, .slice Am n2 cm, .slice Ah n3 ch] 56)).cell? ⟨W.heap.size, 1, none⟩ = some (.slice Am n2 cm) := by simp
  have k2 : (W.alloc (.cells #[.slice Ar n1 cr, .slice Am n2 cm, .slice Ah n3 ch] 56)).cell? ⟨W.heap.size, 2, none⟩ = some (.slice Ah n3 ch) := by simp
  clear h1 h2 h3 h2'
  go_enter Tryz.func27, Tryz.ntmps27
  by_cases g1 : n1 = 0
  · have g1' : ((n1 : Int) == 0) = true := by simp; omega
    have HR := Lib.hid (HV.out.trans (if_pos g1))
    clear HV g1
    go_wp2
    go_ret
    exact ⟨ret_i64 HR.out.symm, hb⟩
  · have g1' : ((n1 : Int) == 0) = false := by simp; omega
    have HV1 := Lib.hid (HV.out.trans (if_neg g1))
    clear HV g1
    by_cases g2 : 24 < n1
    · have g2' : decide (24 < (n1 : Int)) = true := by simp; omega
      have HR := Lib.hid (HV1.out.trans (if_pos g2))
      clear HV1
      go_wp2
      go_ret
      exact ⟨ret_i64 HR.out.symm, hb⟩
    · have g2' : decide (24 < (n1 : Int)) = false := by simp; omega
      have HV2 := Lib.hid (HV1.out.trans (if_neg g2))
      clear HV1 g2
      go_wp2
      generalize W.alloc (.cells #[.slice Ar n1 cr, .slice Am n2 cm, .slice Ah n3 ch] 56) = w1 at *
      go_loop [3] (fun i => ∃ k : Nat, k ≤ n1 ∧ i = .int .i64 k ∧ Hid (eachF (fun _ n => outE n 0 10000) k (p.rd.drop k) = eachF (fun _ n => outE n 0 10000) 0 p.rd)) (fun i => n1 - (intOf i).toNat)
      case atStart => exact ⟨0, Nat.zero_le _, rfl, rfl⟩
      case round =>
        obtain ⟨k, hk, rfl, he⟩ := hrel
        by_cases hlt : k < n1
        · obtain ⟨b, o, x, rfl, hx, cx⟩ := h1w.int hlt
          by_cases g3 : outB x 0 10000 = true
          · have e1 := eachF_stop hx (show outE x 0 10000 ≠ 0 by rw [outE_yes g3]; decide) he.out
            have HR : Hid (checkPace p = 3) := by
              show _ = _
              rw [HV2.out, if_pos (by rw [← e1, outE_yes g3]; decide), ← e1, outE_yes g3]
            clear HV2 he e1 hx
            go_wp2_with (go_at_call 52; refine (outB_any _ _ _ _).mono ?_; rintro e w' ⟨rfl, rfl⟩)
            go_ret
            exact ⟨ret_i64 HR.out.symm, hb⟩
          · have g3' : outB x 0 10000 = false := by simpa using g3
            have HN := Lib.hid (eachF_go hx (show ¬ outE x 0 10000 ≠ 0 by rw [outE_no g3']; simp) he.out)
            clear he g3 hx
            go_wp2_with (go_at_call 52; refine (outB_any _ _ _ _).mono ?_; rintro e w' ⟨rfl, rfl⟩)
            go_round
            case rel => exact ⟨k + 1, by omega, by go_num, HN.out⟩
            case measure => simp [intOf]; omega
        · obtain rfl : k = n1 := by omega
          have HV3 := Lib.hid (HV2.out.trans (if_neg (by rw [eachF_end (n := k) (by have := HN1.out; omega) he.out]; simp)))
          clear HV2 he
          by_cases g4 : n2 ≠ k
          · have g4' : ((n2 : Int) != (k : Int)) = true := by simp; omega
            have HR := Lib.hid (HV3.out.trans (if_pos g4))
            clear HV3 g4
            go_wp2
            go_ret
            exact ⟨ret_i64 HR.out.symm, hb⟩
          · have g4' : ((n2 : Int) != (k : Int)) = false := by simp; omega
            have HV4 := Lib.hid (HV3.out.trans (if_neg g4))
            have HNK : Hid (n2 = k) := by show _ = _; omega
            clear HV3 g4
            by_cases g5 : n3 = 0
            · have g5' : ((n3 : Int) == 0) = true := by simp; omega
              have HR := Lib.hid (HV4.out.trans (if_pos g5))
              clear HV4 g5
              go_wp2
              go_ret
              exact ⟨ret_i64 HR.out.symm, hb⟩
            · have g5' : ((n3 : Int) == 0) = false := by simp; omega
              have HV5 := Lib.hid (HV4.out.trans (if_neg g5))
              clear HV4 g5
              by_cases g6 : 36 < n3
              · have g6' : decide (36 < (n3 : Int)) = true := by simp; omega
                have HR := Lib.hid (HV5.out.trans (if_pos g6))
                clear HV5
                go_wp2
                go_ret
                exact ⟨ret_i64 HR.out.symm, hb⟩
              · have g6' : decide (36 < (n3 : Int)) = false := by simp; omega
                have HV6 := Lib.hid (HV5.out.trans (if_neg g6))
                clear HV5
                go_wp2
                go_loop [4] (fun i => ∃ j : Nat, j ≤ n3 ∧ i = .int .i64 j ∧ Hid (eachF (fun _ n => outE n 1 8) j (p.ho.drop j) = eachF (fun _ n => outE n 1 8) 0 p.ho)) (fun i => n3 - (intOf i).toNat)
                case atStart => exact ⟨0, Nat.zero_le _, rfl, rfl⟩
                case round =>
                  obtain ⟨j, hj, rfl, he⟩ := hrel
                  by_cases hlj : j < n3
                  · obtain ⟨b, o, x, rfl, hx, cx⟩ := h3w.int hlj
                    by_cases g3 : outB x 1 8 = true
                    · have e1 := eachF_stop hx (show outE x 1 8 ≠ 0 by rw [outE_yes g3]; decide) he.out
                      have HR : Hid (checkPace p = 3) := by
                        show _ = _
                        rw [HV6.out, if_pos (by rw [← e1, outE_yes g3]; decide), ← e1, outE_yes g3]
                      clear HV6 he e1 hx
                      go_wp2_with (go_at_call 52; refine (outB_any _ _ _ _).mono ?_; rintro e w' ⟨rfl, rfl⟩)
                      go_ret
                      exact ⟨ret_i64 HR.out.symm, hb⟩
                    · have g3' : outB x 1 8 = false := by simpa using g3
                      have HN := Lib.hid (eachF_go hx (show ¬ outE x 1 8 ≠ 0 by rw [outE_no g3']; simp) he.out)
                      clear he g3 hx
                      go_wp2_with (go_at_call 52; refine (outB_any _ _ _ _).mono ?_; rintro e w' ⟨rfl, rfl⟩)
                      go_round
                      case rel => exact ⟨j + 1, by omega, by go_num, HN.out⟩
                      case measure => simp [intOf]; omega
                  · obtain rfl : j = n3 := by omega
                    have HV7 := Lib.hid (HV6.out.trans (if_neg (by rw [eachF_end (n := j) (by have := HN3.out; omega) he.out]; simp)))
                    clear HV6 he
                    go_wp2
                    go_loopw [5] (fun i w' => ∃ m q : Nat, m ≤ n2 ∧ i = .int .i64 m ∧ w' = w1.drewN q ∧ Hid (eachF (fun _ r => paceR j r) m (p.mi.drop m) = eachF (fun _ r => paceR j r) 0 p.mi)) (fun i _ => n2 - (intOf i).toNat)
                    case atStart => exact ⟨0, 0, Nat.zero_le _, rfl, rfl, rfl⟩
                    case round =>
                      obtain ⟨m, q, hm, rfl, rfl, he⟩ := hrel
                      have hbq := hb.trans (below_drewN (Below.refl W.heap.size w1) q)
                      by_cases hlm : m < n2
                      · obtain ⟨b, o, y, rfl, hy, cy⟩ := h2w.val hlm
                        have hrm : p.mi[m]? = some p.mi[m] := List.getElem?_eq_getElem (by rw [HN2.out]; exact hlm)
                        have hrow := (H2'.out m y _ hy hrm).later hb
                        generalize p.mi[m] = r at *
                        obtain ⟨Ay, cy', rfl, _, _, hrow⟩ := hrow.open_
                        have hrl := hrow.le
                        have HRM := Lib.hid hrm
                        have HPR : Hid (paceR j r = if r.length ≠ j then 2 else eachF (fun _ n => outE n 1 10000) 0 r) := rfl
                        generalize HRL : r.length = rl at *
                        have HRL := Lib.hid HRL
                        clear hy hrm
                        by_cases g7 : rl ≠ j
                        · have g7' : ((rl : Int) != (j : Int)) = true := by simp; omega
                          have e1 := eachF_stop HRM.out (show paceR j r ≠ 0 by rw [HPR.out, if_pos g7]; decide) he.out
                          have HR : Hid (checkPace p = 2) := by
                            show _ = _
                            rw [HV7.out, ← e1, HPR.out, if_pos g7]
                          clear HV7 he e1 g7 hrow
                          go_wp2_with fail
                          go_quiet (fail)
                          go_wp2
                          go_ret
                          exact ⟨ret_i64 HR.out.symm, hbq.trans (below_drewN (Below.refl _ _) _)⟩
                        · have g7' : ((rl : Int) != (j : Int)) = false := by simp; omega
                          have HPR2 : Hid (paceR j r = eachF (fun _ n => outE n 1 10000) 0 r) := HPR.out.trans (if_neg g7)
                          have hrj : rl = j := by omega
                          subst hrj
                          clear HPR g7
                          go_wp2_with fail
                          go_quiet (fail)
                          have hbq2 := hbq.trans (below_drewN (Below.refl W.heap.size (w1.drewN q)) nq)
                          go_wp2
                          go_loopw [6] (fun i w' => ∃ t q' : Nat, t ≤ rl ∧ i = .int .i64 t ∧ w' = w1.drewN q' ∧ Hid (eachF (fun _ n => outE n 1 10000) t (r.drop t) = eachF (fun _ n => outE n 1 10000) 0 r)) (fun i _ => rl - (intOf i).toNat)
                          case atStart => exact ⟨0, q + nq, Nat.zero_le _, rfl, by first | rfl | exact World.drewN_drewN _ _ _, rfl⟩
                          case round =>
                            obtain ⟨t, q', ht, rfl, rfl, he2⟩ := hrel
                            have hbq3 := hb.trans (below_drewN (Below.refl W.heap.size w1) q')
                            by_cases hlt2 : t < rl
                            · obtain ⟨b9, o9, x, rfl, hx, cx⟩ := Rd.int (q := .i64) (l := r) hrow hlt2
                              by_cases g3 : outB x 1 10000 = true
                              · have e1 := eachF_stop hx (show outE x 1 10000 ≠ 0 by rw [outE_yes g3]; decide) he2.out
                                have e2 := eachF_stop HRM.out (show paceR rl r ≠ 0 by rw [HPR2.out, ← e1, outE_yes g3]; decide) he.out
                                have HR : Hid (checkPace p = 3) := by
                                  show _ = _
                                  rw [HV7.out, ← e2, HPR2.out, ← e1, outE_yes g3]
                                clear HV7 he he2 e1 e2 hx hrow
                                go_wp2_with (go_at_call 52; refine (outB_any _ _ _ _).mono ?_; rintro e w' ⟨rfl, rfl⟩)
                                go_ret
                                exact ⟨ret_i64 HR.out.symm, hbq3⟩
                              · have g3' : outB x 1 10000 = false := by simpa using g3
                                have HN := Lib.hid (eachF_go hx (show ¬ outE x 1 10000 ≠ 0 by rw [outE_no g3']; simp) he2.out)
                                clear he2 g3 hx
                                go_wp2_with (go_at_call 52; refine (outB_any _ _ _ _).mono ?_; rintro e w' ⟨rfl, rfl⟩)
                                go_roundw
                                case rel => exact ⟨t + 1, q', by omega, by go_num, rfl, HN.out⟩
                                case measure => simp [intOf]; omega
                            · obtain rfl : t = rl := by omega
                              have e1 := eachF_end (n := t) (by have := HRL.out; omega) he2.out
                              have HN := Lib.hid (eachF_go HRM.out (show ¬ paceR t r ≠ 0 by rw [HPR2.out, e1]; simp) he.out)
                              clear he he2 e1 hrow
                              go_wp2
                              go_roundw
                              case rel => exact ⟨m + 1, q', by omega, by go_num, rfl, HN.out⟩
                              case measure => simp [intOf]; omega
                      · obtain rfl : m = n2 := by omega
                        have HR : Hid (checkPace p = 0) := by
                          show _ = _
                          rw [HV7.out]
                          exact eachF_end (n := m) (by have := HN2.out; omega) he.out
                        clear HV7 he
                        go_wp2
                        go_ret
                        exact ⟨ret_i64 HR.out.symm, hbq⟩
end Go.Proofs.YtjfhncnpmelopaaGreatDoor
/- Walk of the law's package: shaped. -/
namespace Go.Proofs.YtjfhncnpmelopaaGreatDoor
open Go.RowKit Go.Mem Go.Sheet
set_option maxRecDepth 100000 in
set_option maxHeartbeats 2000000 in
theorem shaped_any (W : World) (vt vr vm vh : Value) (T : List (List Int)) (rn mn hn : Nat) {Ar Am Ah : Option Addr} {cr cm ch : Nat} (hvr : vr = .slice Ar rn cr) (hvm : vm = .slice Am mn cm) (hvh : vh = .slice Ah hn ch)
    (ht : RdRows W (· < W.heap.size) vt T) (hT : T.length = rn) (hk : TOk hn T 999999999) (hr : rn ≤ 1000000) (hh : hn ≤ 1000000) :
    Calls Tryz.prog 37 #[vt, .agg #[vr, vm, vh]] W fun e w' => e = .returned (.bool true) ∧ Below W.heap.size W w' := by
  subst hvr hvm hvh
  have HT := Lib.hid ht
  have HK := Lib.hid hk
  obtain ⟨vs, h1, h2⟩ := ht
  rw [hT] at h1
  obtain ⟨At, ct, rfl, _, _, _⟩ := h1.open_
  have HTL := Lib.hid hT
  have H2 : Hid (∀ (i : Nat) (x : Value) (r : List Int), vs[i]? = some x → T[i]? = some r → Rd W (· < W.heap.size) 1 x r.length (ints r)) := h2
  have H1 := Lib.hid h1
  have hb := (Below.refl W.heap.size W).alloc (Nat.le_refl _) (.cells #[.slice Ar rn cr, .slice Am mn cm, .slice Ah hn ch] 56)
  have k0 : (W.alloc (.cells #[.slice Ar rn cr, .slice Am mn cm, .slice Ah hn ch] 56)).cell? ⟨W.heap.size, 0, none⟩ = some (.slice Ar rn cr) := by simp
  have k2 : (W.alloc (.cells #[.slice Ar rn cr, .slice Am mn cm, .slice Ah hn ch] 56)).cell? ⟨W.heap.size, 2, none⟩ = some (.slice Ah hn ch) := by simp
  clear h1 h2 hT hk
  go_enter Tryz.func37, Tryz.ntmps37
  go_wp2_with fail
  generalize W.alloc (.cells #[.slice Ar rn cr, .slice Am mn cm, .slice Ah hn ch] 56) = w1 at *
  go_loopw [5] (fun i w' => ∃ k q : Nat, k ≤ rn ∧ i = .int .i64 k ∧ w' = w1.drewN q) (fun i _ => rn - (intOf i).toNat)
  case atStart => exact ⟨0, 0, Nat.zero_le _, rfl, rfl⟩
  case round =>
    obtain ⟨k, q, hk, rfl, rfl⟩ := hrel
    have hbq := hb.trans (below_drewN (Below.refl w1.heap.size w1) q |>.mono hb.size)
    by_cases hlt : k < rn
    · have c2 : (w1.drewN q).cell? ⟨W.heap.size, 2, none⟩ = some (.slice Ah hn ch) := k2
      have hkT : k < T.length := by rw [HTL.out]; exact hlt
      have hrT : T[k]? = some T[k] := List.getElem?_eq_getElem hkT
      have hrl := HK.out.len _ (List.getElem_mem hkT)
      have hrb := HK.out.bd _ (List.getElem_mem hkT)
      obtain ⟨b, o, y, rfl, hy, cy⟩ := (H1.out.later hbq).val hlt
      have hrow := (H2.out k y _ hy hrT).later hbq
      generalize T[k] = r at *
      rw [hrl] at hrow
      obtain ⟨Ay, cy', rfl, _, _, hrow⟩ := hrow.open_
      have HROW := Lib.hid hrow
      have HRB := Lib.hid hrb
      have HBQ := Lib.hid hbq
      clear hy hrT hrow hrb hbq hkT hrl k0 k2
      generalize hw5 : w1.drewN q = w5 at *
      have HW5 := Lib.hid hw5
      clear hw5
      go_wp2_with fail
      go_quiet (fail)
      have d5 : (w5.drewN nq).cell? ⟨b, o + k, none⟩ = some (.slice Ay hn cy') := cy
      have HD5 : Hid (Nat → Below W.heap.size W (w5.drewN nq) ∧ Rd (w5.drewN nq) (· < (w5.drewN nq).heap.size) 1 (.slice Ay hn cy') hn (ints r)) := fun _ => ⟨HBQ.out.trans (below_drewN (Below.refl _ _) nq |>.mono HBQ.out.size), HROW.out⟩
      have HW6 : Hid (w5.drewN nq = w1.drewN (q + nq)) := by show _ = _; rw [← HW5.out]; first | rfl | exact World.drewN_drewN _ _ _
      clear cy c2
      generalize w5.drewN nq = w6 at *
      go_wp2_with fail
      go_loop [6] (fun i => ∃ j : Nat, j ≤ hn ∧ i = .int .i64 j) (fun i => hn - (intOf i).toNat)
      case atStart => exact ⟨0, Nat.zero_le _, rfl⟩
      case round =>
        obtain ⟨j, hj, rfl⟩ := hrel
        by_cases hjl : j < hn
        · obtain ⟨b2, o2, x, rfl, hx, cx⟩ := Rd.int (q := .i64) (l := r) (HD5.out 0).2 hjl
          have hxb := HRB.out x (List.mem_of_getElem? hx)
          have t1 : decide (x < 0) = false := by simp; omega
          have t2 : decide (999999999 < x) = false := by simp; omega
          clear hx
          go_wp2
          go_round
          case rel => exact ⟨j + 1, by omega, by go_num⟩
          case measure => simp [intOf]; omega
        · have hjn : decide ((j : Int) < hn) = false := by simp; omega
          go_wp2
          go_roundw
          case rel => exact ⟨k + 1, q + nq, by omega, by go_num, HW6.out⟩
          case measure => simp [intOf]; omega
    · have hkn : decide ((k : Int) < rn) = false := by simp; omega
      go_wp2
      go_ret
      exact ⟨rfl, hbq⟩
end Go.Proofs.YtjfhncnpmelopaaGreatDoor
/- The reference's bottleneck is the program's: the first hole with the greatest sum of waits. -/
namespace Go.Sheet
/-- what the reference keeps: the hole and the greatest sum so far -/
def bottF : Nat → List Int → Int × Int → Int × Int
  | _, [], r => r
  | k, s :: l, r => bottF (k + 1) l (if r.2 < s then ((k : Int), s) else r)
theorem idxF_append {α : Type} (p : α → Bool) : ∀ (a b : List α) (k : Nat), idxF p k (a ++ b) = if a.any p then idxF p k a else idxF p (k + a.length) b := by
  intro a
  induction a with
  | nil => intro b k; simp
  | cons x a ih =>
    intro b k
    rw [List.cons_append, idxF, List.any_cons]
    cases hp : p x
    · rw [if_neg (by simp), ih, Bool.false_or]
      by_cases h : a.any p
      · rw [if_pos h, if_pos h, idxF, if_neg (by simp [hp])]
      · rw [if_neg h, if_neg h, List.length_cons]; congr 1; omega
    · rw [if_pos rfl, Bool.true_or, if_pos rfl, idxF, if_pos hp]
theorem maxF_snoc (s : Int) : ∀ (l : List Int) (a : Int), maxF a (l ++ [s]) = max (maxF a l) s := by
  intro l
  induction l with
  | nil => intro a; rfl
  | cons x l ih => intro a; rw [List.cons_append, maxF, maxF, ih]
theorem maxF_le : ∀ (l : List Int) (a : Int), a ≤ maxF a l ∧ (∀ x ∈ l, x ≤ maxF a l) ∧ (maxF a l = a ∨ maxF a l ∈ l) := by
  intro l
  induction l with
  | nil => intro a; exact ⟨Int.le_refl _, (fun _ h => by cases h), .inl rfl⟩
  | cons x l ih =>
    intro a
    rw [maxF]
    obtain ⟨h1, h2, h3⟩ := ih (max a x)
    refine ⟨by omega, fun y hy => ?_, ?_⟩
    · rcases List.mem_cons.1 hy with rfl | hy
      · omega
      · exact h2 y hy
    · rcases h3 with h3 | h3
      · by_cases h : a < x
        · right
          rw [h3, show max a x = x by omega]
          simp
        · left; omega
      · right
        exact List.mem_cons_of_mem _ h3
theorem maxL_cons (x : Int) (l : List Int) : maxL (x :: l) = maxF x l := rfl
theorem maxL_snoc {l : List Int} (h : l ≠ []) (s : Int) : maxL (l ++ [s]) = max (maxL l) s := by
  cases l with
  | nil => exact absurd rfl h
  | cons x l => rw [List.cons_append, maxL_cons, maxL_cons, maxF_snoc]
theorem maxL_le {l : List Int} (h : l ≠ []) : (∀ x ∈ l, x ≤ maxL l) ∧ maxL l ∈ l := by
  cases l with
  | nil => exact absurd rfl h
  | cons x l =>
    rw [maxL_cons]
    obtain ⟨h1, h2, h3⟩ := maxF_le l x
    refine ⟨fun y hy => ?_, ?_⟩
    · rcases List.mem_cons.1 hy with rfl | hy
      · exact h1
      · exact h2 y hy
    · rcases h3 with h3 | h3
      · rw [h3]; simp
      · exact List.mem_cons_of_mem _ h3
/-- the answer for a list that is not empty -/
def bott (l : List Int) : Int × Int := (idxF (fun x => maxL l == x) 0 l, maxL l)
theorem bott_snoc {l : List Int} (h : l ≠ []) (s : Int) : bott (l ++ [s]) = if (bott l).2 < s then ((l.length : Int), s) else bott l := by
  obtain ⟨hle, hmem⟩ := maxL_le h
  show (idxF (fun x => maxL (l ++ [s]) == x) 0 (l ++ [s]), maxL (l ++ [s])) = if maxL l < s then ((l.length : Int), s) else bott l
  rw [maxL_snoc h, idxF_append]
  by_cases hs : maxL l < s
  · have e : max (maxL l) s = s := by omega
    rw [e, if_pos hs]
    have hn : ¬ (l.any fun x => s == x) = true := by
      rw [List.any_eq_true]
      rintro ⟨x, hx, he⟩
      have h1 := hle x hx
      have h2 : s = x := by simpa using he
      omega
    rw [if_neg hn, idxF, if_pos (by simp)]
    simp
  · have e : max (maxL l) s = maxL l := by omega
    rw [e, if_neg hs]
    have hy : (l.any fun x => maxL l == x) = true := by
      rw [List.any_eq_true]
      exact ⟨_, hmem, by simp⟩
    rw [if_pos hy]; rfl
theorem bottF_bott : ∀ (suf pre : List Int), pre ≠ [] → bottF pre.length suf (bott pre) = bott (pre ++ suf) := by
  intro suf
  induction suf with
  | nil => intro pre _; rw [List.append_nil]; rfl
  | cons s suf ih =>
    intro pre h
    rw [bottF, ← bott_snoc h s]
    have := ih (pre ++ [s]) (by simp)
    rw [List.length_append, List.append_assoc] at this
    exact this
/-- THE LAW: from (0, -1) on, where no sum is below 0 -/
theorem bottF_all {l : List Int} (h : l ≠ []) (h0 : ∀ x ∈ l, 0 ≤ x) : bottF 0 l (0, -1) = bott l := by
  cases l with
  | nil => exact absurd rfl h
  | cons s l =>
    have hs := h0 s (by simp)
    have e : bott [s] = (((0 : Nat) : Int), s) := by
      show (idxF (fun x => maxL [s] == x) 0 [s], maxL [s]) = _
      have : maxL [s] = s := rfl
      rw [this, idxF, if_pos (by simp)]
    rw [bottF, if_pos (by show (-1 : Int) < s; omega), ← e]
    exact bottF_bott l [s] (by simp)
theorem beginF_ge (g : Nat) (B E : List (List Int)) (hd : Int) (h : Nat) (a : Int) : a ≤ beginF g B E hd h a := by
  unfold beginF
  simp only
  split <;> split <;> omega
theorem playH_ge (g : Nat) (B E : List (List Int)) (mi : List Int) : ∀ (ho : List Int) (h : Nat) (a : Int), ∀ y ∈ playH g B E mi h ho a, y.1 ≤ y.2.1
  | [], _, _ => fun y hy => by cases hy
  | hd :: ho, h, a => fun y hy => by
    rw [playH] at hy
    rcases List.mem_cons.1 hy with rfl | hy
    · exact beginF_ge g B E hd h a
    · exact playH_ge g B E mi ho _ _ y hy
theorem at2_snoc (B : List (List Int)) (r : List Int) (i h : Nat) : at2 (B ++ [r]) i h = if i < B.length then at2 B i h else if i = B.length then r.getD h 0 else 0 := by
  unfold at2
  rw [List.getD_eq_getElem?_getD (l := B ++ [r])]
  by_cases h1 : i < B.length
  · rw [if_pos h1, List.getElem?_append_left h1, ← List.getD_eq_getElem?_getD]
  · rw [if_neg h1, List.getElem?_append_right (by omega)]
    by_cases h2 : i = B.length
    · subst h2
      rw [if_pos rfl, Nat.sub_self]; rfl
    · rw [if_neg h2, List.getElem?_eq_none (by simp; omega)]; rfl
theorem playG_ge (mi : List (List Int)) (ho : List Int) : ∀ (rds : List Int) (g : Nat) (T : Tab), T.c.length = T.b.length → (∀ i h, at2 T.c i h ≤ at2 T.b i h) → ∀ i h, at2 (playG mi ho g rds T).c i h ≤ at2 (playG mi ho g rds T).b i h
  | [], _, _, _, h => h
  | rd :: rds, g, T, hl, h => by
    rw [playG]
    refine playG_ge mi ho rds (g + 1) _ (by simp [hl]) fun i k => ?_
    show at2 (T.c ++ [_]) i k ≤ at2 (T.b ++ [_]) i k
    rw [at2_snoc, at2_snoc, hl]
    split
    · exact h i k
    · split
      · have e : ∀ (L : List (Int × Int × Int)) (f : Int × Int × Int → Int), (L.map f).getD k 0 = match L[k]? with | some y => f y | none => 0 := fun L f => by
          rw [List.getD_eq_getElem?_getD, List.getElem?_map]
          cases L[k]? <;> rfl
        rw [e, e]
        have hge := playH_ge g T.b T.e (mi.getD g []) ho 0 rd
        generalize playH g T.b T.e (mi.getD g []) 0 ho rd = L at *
        cases hy : L[k]? with
        | none => exact Int.le_refl _
        | some y => exact hge y (List.mem_of_getElem? hy)
      · exact Int.le_refl _
theorem waits_nonneg (p : PC) : ∀ x ∈ waits p, 0 ≤ x := by
  have hge := playG_ge p.mi p.ho p.rd 0 ⟨[], [], []⟩ rfl (fun i h => Int.le_refl _)
  have hw : ∀ n h, 0 ≤ waitH (played p).c (played p).b n h := by
    intro n h
    induction n with
    | zero => exact Int.le_refl _
    | succ n ih =>
      rw [waitH_succ]
      have := hge n h
      change at2 (played p).c n h ≤ at2 (played p).b n h at this
      omega
  intro x hx
  obtain ⟨h, _, rfl⟩ := List.mem_map.1 hx
  exact hw _ _
/-- the program's bottleneck, in the reference's words -/
theorem bottleneck_ref {p : PC} (h : checkPace p = 0) (h0 : 0 < p.ho.length) : bottleneck p = (bottF 0 (waits p) (0, -1), 0) := by
  have hne : waits p ≠ [] := by
    intro e
    have : (waits p).length = 0 := by rw [e]; rfl
    rw [waits, List.length_map, List.length_range] at this
    omega
  rw [bottF_all hne (waits_nonneg p), bottleneck, retE, if_neg (by simp [h])]; rfl
end Go.Sheet
/- The pace of play: the equations that the tables meet, and what follows from them: order, distance, delays, and later groups. -/
namespace Go.Sheet
theorem beginF_congr {g : Nat} {B B' E E' : List (List Int)} {hd : Int} {k : Nat} {a : Int} (h1 : 1 ≤ hd) (hB : ∀ i, i < g → at2 B i k = at2 B' i k) (hE : ∀ i, i < g → at2 E i k = at2 E' i k) : beginF g B E hd k a = beginF g B' E' hd k a := by
  unfold beginF
  simp only
  by_cases h0 : 0 < g
  · rw [if_pos h0, if_pos h0, hB (g - 1) (by omega)]
    by_cases h2 : hd ≤ (g : Int)
    · rw [if_pos h2, if_pos h2, hE (g - hd.toNat) (by omega)]
    · rw [if_neg h2, if_neg h2]
  · have h2 : ¬ hd ≤ (g : Int) := by omega
    rw [if_neg h0, if_neg h0, if_neg h2, if_neg h2]
theorem endF_congr {g : Nat} {E E' : List (List Int)} {k : Nat} {b m : Int} (hE : ∀ i, i < g → at2 E i k = at2 E' i k) : endF g E k b m = endF g E' k b m := by
  unfold endF
  by_cases h0 : 0 < g
  · rw [if_pos h0, if_pos h0, hE (g - 1) (by omega)]
  · rw [if_neg h0, if_neg h0]
theorem playH_at (g : Nat) (B E : List (List Int)) (mi : List Int) : ∀ (ho : List Int) (h : Nat) (a : Int) (j : Nat) (y : Int × Int × Int), (playH g B E mi h ho a)[j]? = some y →
    y.1 = (if j = 0 then a else ((playH g B E mi h ho a).getD (j - 1) (0, 0, 0)).2.2) ∧ y.2.1 = beginF g B E (ho.getD j 0) (h + j) y.1 ∧ y.2.2 = endF g E (h + j) y.2.1 (mi.getD (h + j) 0)
  | [], _, _, _, _ => fun hy => by simp [playH] at hy
  | hd :: ho, h, a, j, y => fun hy => by
    rw [playH] at hy ⊢
    cases j with
    | zero =>
      simp only [List.getElem?_cons_zero, Option.some.injEq] at hy
      subst hy
      exact ⟨rfl, rfl, rfl⟩
    | succ j =>
      simp only [List.getElem?_cons_succ] at hy
      obtain ⟨h1, h2, h3⟩ := playH_at g B E mi ho (h + 1) _ j y hy
      refine ⟨?_, ?_, ?_⟩
      · rw [h1, if_neg (Nat.succ_ne_zero j)]
        cases j with
        | zero => rfl
        | succ j => rfl
      · rw [h2, show h + 1 + j = h + (j + 1) by omega]; rfl
      · rw [h3, show h + 1 + j = h + (j + 1) by omega]
/-- the equations -/
structure PlayEq (R : List Int) (mi : List (List Int)) (ho : List Int) (n : Nat) (T : Tab) : Prop where
  c : ∀ g k, g < n → k < ho.length → at2 T.c g k = if k = 0 then R.getD g 0 else at2 T.e g (k - 1)
  b : ∀ g k, g < n → k < ho.length → at2 T.b g k = beginF g T.b T.e (ho.getD k 0) k (at2 T.c g k)
  e : ∀ g k, g < n → k < ho.length → at2 T.e g k = endF g T.e k (at2 T.b g k) (at2 mi g k)
theorem getD_map_at {α : Type} (L : List α) (f : α → Int) (k : Nat) (d : α) (hk : k < L.length) : (L.map f).getD k 0 = f (L.getD k d) := by
  rw [List.getD_eq_getElem?_getD, List.getD_eq_getElem?_getD, List.getElem?_map, List.getElem?_eq_getElem hk]; rfl
theorem playG_eq {R : List Int} {mi : List (List Int)} {ho : List Int} (hho : ∀ x ∈ ho, 1 ≤ x) : ∀ (rds : List Int) (g : Nat) (T : Tab), R.drop g = rds → T.c.length = g → T.b.length = g → T.e.length = g → PlayEq R mi ho g T →
    PlayEq R mi ho (g + rds.length) (playG mi ho g rds T)
  | [], g, T, _, _, _, _, h => h
  | rd :: rds, g, T, hR, lc, lb, le, h => by
    have hrd : R.getD g 0 = rd := by
      have h1 : R[g]? = some rd := by
        have := List.getElem?_drop (xs := R) (i := g) (j := 0)
        rw [hR] at this
        simpa using this.symm
      rw [List.getD_eq_getElem?_getD, h1, Option.getD_some]
    have hR' : R.drop (g + 1) = rds := by
      rw [← List.drop_drop, hR]; rfl
    rw [playG]
    have hlen := playH_len g T.b T.e (mi.getD g []) ho 0 rd
    have hat := playH_at g T.b T.e (mi.getD g []) ho 0 rd
    generalize playH g T.b T.e (mi.getD g []) 0 ho rd = L at *
    have hgd : ∀ k, k < ho.length → L[k]? = some (L.getD k (0, 0, 0)) := fun k hk => by
      rw [List.getD_eq_getElem?_getD, List.getElem?_eq_getElem (by omega), Option.getD_some]
    have h1 : ∀ (X : List (List Int)) (f : Int × Int × Int → Int) (i k : Nat), X.length = g → i < g → at2 (X ++ [L.map f]) i k = at2 X i k := fun X f i k hX hi => by
      rw [at2_snoc, if_pos (by omega)]
    have h2 : ∀ (X : List (List Int)) (f : Int × Int × Int → Int) (k : Nat), X.length = g → k < ho.length → at2 (X ++ [L.map f]) g k = f (L.getD k (0, 0, 0)) := fun X f k hX hk => by
      rw [at2_snoc, if_neg (by omega), if_pos hX.symm, getD_map_at _ _ _ (0, 0, 0) (by omega)]
    have hpos : ∀ k, k < ho.length → 1 ≤ ho.getD k 0 := fun k hk => by
      rw [List.getD_eq_getElem?_getD, List.getElem?_eq_getElem hk, Option.getD_some]
      exact hho _ (List.getElem_mem hk)
    rw [show g + (rd :: rds).length = (g + 1) + rds.length by simp; omega]
    refine playG_eq hho rds (g + 1) _ hR' (by simp [lc]) (by simp [lb]) (by simp [le]) ⟨fun i k hi hk => ?_, fun i k hi hk => ?_, fun i k hi hk => ?_⟩
    · show at2 (T.c ++ [_]) i k = if k = 0 then _ else at2 (T.e ++ [_]) i (k - 1)
      by_cases hig : i < g
      · rw [h1 _ _ _ _ lc hig, h1 _ _ _ _ le hig]; exact h.c i k hig hk
      · obtain rfl : i = g := by omega
        rw [h2 _ _ _ lc hk, h2 _ _ _ le (by omega), hrd]
        exact (hat k _ (hgd k hk)).1
    · show at2 (T.b ++ [_]) i k = beginF i (T.b ++ [_]) (T.e ++ [_]) _ k (at2 (T.c ++ [_]) i k)
      by_cases hig : i < g
      · rw [h1 _ _ _ _ lc hig, h1 _ _ _ _ lb hig, beginF_congr (hpos k hk) (fun j hj => h1 _ _ j k lb (by omega)) (fun j hj => h1 _ _ j k le (by omega))]
        exact h.b i k hig hk
      · obtain rfl : i = g := by omega
        rw [h2 _ _ _ lc hk, h2 _ _ _ lb hk, beginF_congr (hpos k hk) (fun j hj => h1 _ _ j k lb (by omega)) (fun j hj => h1 _ _ j k le (by omega))]
        have := (hat k _ (hgd k hk)).2.1
        rwa [Nat.zero_add] at this
    · show at2 (T.e ++ [_]) i k = endF i (T.e ++ [_]) k (at2 (T.b ++ [_]) i k) (at2 mi i k)
      by_cases hig : i < g
      · rw [h1 _ _ _ _ le hig, h1 _ _ _ _ lb hig, endF_congr (fun j hj => h1 _ _ j k le (by omega))]
        exact h.e i k hig hk
      · obtain rfl : i = g := by omega
        rw [h2 _ _ _ le hk, h2 _ _ _ lb hk, endF_congr (fun j hj => h1 _ _ j k le (by omega))]
        have := (hat k _ (hgd k hk)).2.2
        rwa [Nat.zero_add] at this
theorem played_eq {p : PC} (h : POk p) : PlayEq p.rd p.mi p.ho p.rd.length (played p) := by
  have := playG_eq (R := p.rd) (mi := p.mi) (ho := p.ho) (fun x hx => (h.hob x hx).1) p.rd 0 ⟨[], [], []⟩ rfl rfl rfl rfl
    ⟨(fun g k hg => absurd hg (Nat.not_lt_zero g)), (fun g k hg => absurd hg (Nat.not_lt_zero g)), (fun g k hg => absurd hg (Nat.not_lt_zero g))⟩
  rwa [Nat.zero_add] at this
section
variable {R R' : List Int} {mi : List (List Int)} {ho : List Int} {n : Nat} {T T' : Tab}
theorem PlayEq.come (h : PlayEq R mi ho n T) {g k : Nat} (hg : g < n) (hk : k < ho.length) : (if k = 0 then R.getD g 0 else at2 T.e g (k - 1)) ≤ at2 T.b g k := by
  rw [← h.c g k hg hk, h.b g k hg hk]; exact beginF_ge _ _ _ _ _ _
theorem PlayEq.play (h : PlayEq R mi ho n T) {g k : Nat} (hg : g < n) (hk : k < ho.length) : at2 T.b g k + at2 mi g k ≤ at2 T.e g k := by
  rw [h.e g k hg hk, endF]; split <;> omega
theorem PlayEq.ahead (h : PlayEq R mi ho n T) {g k : Nat} (hg : g < n) (hk : k < ho.length) (h0 : 0 < g) : at2 T.b (g - 1) k ≤ at2 T.b g k ∧ at2 T.e (g - 1) k ≤ at2 T.e g k := by
  constructor
  · rw [h.b g k hg hk, beginF]; simp only [if_pos h0]; split <;> omega
  · rw [h.e g k hg hk, endF, if_pos h0]; omega
theorem PlayEq.holds (h : PlayEq R mi ho n T) {g k : Nat} (hg : g < n) (hk : k < ho.length) (h0 : ho.getD k 0 ≤ (g : Int)) : at2 T.e (g - (ho.getD k 0).toNat) k ≤ at2 T.b g k := by
  rw [h.b g k hg hk, beginF]; simp only [if_pos h0]; omega
theorem PlayEq.late (h : PlayEq R mi ho n T) {g : Nat} (hg : g < n) (hl : (mi.getD g []).length = ho.length) : ∀ k, k < ho.length → R.getD g 0 + sumF ((mi.getD g []).take (k + 1)) ≤ at2 T.e g k := by
  intro k
  induction k with
  | zero =>
    intro hk
    have h1 := h.come hg hk
    have h2 := h.play hg hk
    rw [if_pos rfl] at h1
    have e : (mi.getD g []).take (0 + 1) = [at2 mi g 0] := by
      unfold at2
      cases hm : mi.getD g [] with
      | nil => rw [hm] at hl; simp at hl; omega
      | cons x l => rfl
    rw [e]
    simp only [sumF]
    omega
  | succ k ih =>
    intro hk
    have h1 := h.come hg hk
    have h2 := h.play hg hk
    have h3 := ih (by omega)
    rw [if_neg (by omega), Nat.add_sub_cancel] at h1
    have hx : (mi.getD g [])[k + 1]? = some (at2 mi g (k + 1)) := by
      unfold at2
      rw [List.getD_eq_getElem?_getD (l := mi.getD g []), List.getElem?_eq_getElem (by omega), Option.getD_some]
    rw [take_at hx, sumF_append]
    simp only [sumF]
    omega
/-- later groups: no earlier, and not later than by as much -/
theorem PlayEq.mono (h : PlayEq R mi ho n T) (h' : PlayEq R' mi ho n T') {m : Int} {N : Nat} (hN : N ≤ n) (hho : ∀ x ∈ ho, 1 ≤ x) (hm : 0 ≤ m) (hR : ∀ i, i < N → R.getD i 0 ≤ R'.getD i 0 ∧ R'.getD i 0 ≤ R.getD i 0 + m) :
    ∀ g k, g < N → k < ho.length → (at2 T.c g k ≤ at2 T'.c g k ∧ at2 T'.c g k ≤ at2 T.c g k + m) ∧ (at2 T.b g k ≤ at2 T'.b g k ∧ at2 T'.b g k ≤ at2 T.b g k + m) ∧ (at2 T.e g k ≤ at2 T'.e g k ∧ at2 T'.e g k ≤ at2 T.e g k + m) := by
  intro g
  induction g using Nat.strongRecOn with
  | ind g ihg =>
    intro k
    induction k with
    | zero =>
      intro hg hk
      have hc : at2 T.c g 0 ≤ at2 T'.c g 0 ∧ at2 T'.c g 0 ≤ at2 T.c g 0 + m := by
        rw [h.c g 0 (by omega) hk, h'.c g 0 (by omega) hk, if_pos rfl, if_pos rfl]; exact hR g hg
      exact ⟨hc, mono_row h h' hN hho hm ihg hg hk hc⟩
    | succ k ihk =>
      intro hg hk
      have hp := ihk hg (by omega)
      have hc : at2 T.c g (k + 1) ≤ at2 T'.c g (k + 1) ∧ at2 T'.c g (k + 1) ≤ at2 T.c g (k + 1) + m := by
        rw [h.c g (k + 1) (by omega) hk, h'.c g (k + 1) (by omega) hk, if_neg (by omega), if_neg (by omega)]; exact hp.2.2
      exact ⟨hc, mono_row h h' hN hho hm ihg hg hk hc⟩
where
  mono_row {m : Int} {N : Nat} (h : PlayEq R mi ho n T) (h' : PlayEq R' mi ho n T') (hN : N ≤ n) (hho : ∀ x ∈ ho, 1 ≤ x) (hm : 0 ≤ m) {g k : Nat}
      (ihg : ∀ i, i < g → ∀ k, i < N → k < ho.length → (at2 T.c i k ≤ at2 T'.c i k ∧ at2 T'.c i k ≤ at2 T.c i k + m) ∧ (at2 T.b i k ≤ at2 T'.b i k ∧ at2 T'.b i k ≤ at2 T.b i k + m) ∧ (at2 T.e i k ≤ at2 T'.e i k ∧ at2 T'.e i k ≤ at2 T.e i k + m))
      (hg : g < N) (hk : k < ho.length) (hc : at2 T.c g k ≤ at2 T'.c g k ∧ at2 T'.c g k ≤ at2 T.c g k + m) :
      (at2 T.b g k ≤ at2 T'.b g k ∧ at2 T'.b g k ≤ at2 T.b g k + m) ∧ (at2 T.e g k ≤ at2 T'.e g k ∧ at2 T'.e g k ≤ at2 T.e g k + m) := by
    have hpos : 1 ≤ ho.getD k 0 := by
      rw [List.getD_eq_getElem?_getD, List.getElem?_eq_getElem hk, Option.getD_some]
      exact hho _ (List.getElem_mem hk)
    have hb : at2 T.b g k ≤ at2 T'.b g k ∧ at2 T'.b g k ≤ at2 T.b g k + m := by
      rw [h.b g k (by omega) hk, h'.b g k (by omega) hk]
      unfold beginF
      simp only
      by_cases h0 : 0 < g
      · have i1 := (ihg (g - 1) (by omega) k (by omega) hk).2.1
        rw [if_pos h0, if_pos h0]
        by_cases h2 : ho.getD k 0 ≤ (g : Int)
        · have i2 := (ihg (g - (ho.getD k 0).toNat) (by omega) k (by omega) hk).2.2
          rw [if_pos h2, if_pos h2]; omega
        · rw [if_neg h2, if_neg h2]; omega
      · have h2 : ¬ ho.getD k 0 ≤ (g : Int) := by omega
        rw [if_neg h0, if_neg h0, if_neg h2, if_neg h2]; exact hc
    refine ⟨hb, ?_⟩
    rw [h.e g k (by omega) hk, h'.e g k (by omega) hk]
    unfold endF
    by_cases h0 : 0 < g
    · have i1 := (ihg (g - 1) (by omega) k (by omega) hk).2.2
      rw [if_pos h0, if_pos h0]; omega
    · rw [if_neg h0, if_neg h0]; omega
end
/-- delays are not negative -/
theorem delayL_nonneg {p : PC} (ok : POk p) : ∀ (es : List (List Int)) (g : Nat), (played p).e.drop g = es → ∀ x ∈ delayL p g es, 0 ≤ x
  | [], _, _ => fun x hx => by cases hx
  | e :: es, g, hd => fun x hx => by
    have hat : (played p).e[g]? = some e := by
      have := List.getElem?_drop (xs := (played p).e) (i := g) (j := 0)
      rw [hd] at this
      simpa using this.symm
    have hd' : (played p).e.drop (g + 1) = es := by rw [← List.drop_drop, hd]; rfl
    rw [delayL] at hx
    rcases List.mem_cons.1 hx with rfl | hx
    · have hO := played_ok ok
      have hg : g < p.rd.length := by rw [← hO.le]; exact (List.getElem?_eq_some_iff.1 hat).1
      have hel := hO.e.len e (List.mem_of_getElem? hat)
      have hgm : g < p.mi.length := by rw [ok.mil]; exact hg
      have hml : (p.mi.getD g []).length = p.ho.length := by
        rw [List.getD_eq_getElem?_getD, List.getElem?_eq_getElem hgm, Option.getD_some]
        exact (ok.mib _ (List.getElem_mem hgm)).1
      have h0 := ok.ho0
      have hL := (played_eq ok).late hg hml (p.ho.length - 1) (by omega)
      rw [show p.ho.length - 1 + 1 = (p.mi.getD g []).length by omega, List.take_length] at hL
      have e1 : at2 (played p).e g (p.ho.length - 1) = e.getD (e.length - 1) 0 := by
        unfold at2
        rw [List.getD_eq_getElem?_getD (l := (played p).e), hat, Option.getD_some, hel]
      omega
    · exact delayL_nonneg ok es (g + 1) hd' x hx
end Go.Sheet
/- The pace of play: a group that is ready later (plain). -/
namespace Go.Sheet
theorem check_of {p : PC} (h : POk p) : checkPace p = 0 := by
  have e1 : paceE1 p = 0 := by
    refine (fst_zero _).2 ?_
    simp only [List.mem_cons, List.not_mem_nil, or_false, forall_eq_or_imp, forall_eq]
    refine ⟨?_, ?_, ?_, ?_⟩
    · rw [whenE_zero _ _ (by decide)]; have := h.rd0; simp; intro hc; rw [hc] at this; simp at this
    · rw [whenE_zero _ _ (by decide)]; have := h.rd24; simp; omega
    · exact (eachF_zero _ _ _).2 fun i x hx => (outE_zero _ _ _).2 (h.rdb x (List.mem_of_getElem? hx))
    · rw [whenE_zero _ _ (by decide)]; simp; exact h.mil
  have e2 : paceE2 p = 0 := by
    refine (fst_zero _).2 ?_
    simp only [List.mem_cons, List.not_mem_nil, or_false, forall_eq_or_imp, forall_eq]
    refine ⟨?_, ?_, ?_⟩
    · rw [whenE_zero _ _ (by decide)]; have := h.ho0; simp; intro hc; rw [hc] at this; simp at this
    · rw [whenE_zero _ _ (by decide)]; have := h.ho36; simp; omega
    · exact (eachF_zero _ _ _).2 fun i x hx => (outE_zero _ _ _).2 (h.hob x (List.mem_of_getElem? hx))
  unfold checkPace
  rw [if_neg (by simpa using e1), if_neg (by simpa using e2)]
  refine (eachF_zero _ _ _).2 fun i r hr => ?_
  have hm := h.mib r (List.mem_of_getElem? hr)
  rw [paceR, if_neg (by simpa using hm.1)]
  exact (eachF_zero _ _ _).2 fun i x hx => (outE_zero _ _ _).2 (hm.2 x (List.mem_of_getElem? hx))
def laterP (p : PC) (g : Nat) (x : Int) : PC := ⟨p.rd.set g x, p.mi, p.ho⟩
theorem later_ok {p : PC} (h : POk p) (g : Nat) {x : Int} (h0 : 0 ≤ x) (h1 : x ≤ 10000) : POk (laterP p g x) := by
  refine ⟨?_, ?_, fun y hy => ?_, ?_, h.ho0, h.ho36, h.hob, h.mib⟩
  · simpa [laterP] using h.rd0
  · simpa [laterP] using h.rd24
  · rcases List.mem_or_eq_of_mem_set hy with hy | rfl
    · exact h.rdb y hy
    · exact ⟨h0, h1⟩
  · simpa [laterP] using h.mil
/-- what the law asks of the later tables -/
structure FolL (rn hn g : Nat) (m : Int) (TB TE LB LE : List (List Int)) : Prop where
  b : ∀ i k, i < rn → k < hn → at2 TB i k ≤ at2 LB i k ∧ at2 LB i k ≤ at2 TB i k + m
  e : ∀ i k, i < rn → k < hn → at2 TE i k ≤ at2 LE i k ∧ at2 LE i k ≤ at2 TE i k + m
  same : ∀ i k, i < rn → k < hn → i < g → at2 LB i k = at2 TB i k
theorem later_fol {p : PC} (h : POk p) {g : Nat} {m : Int} (hg : g < p.rd.length) (h0 : 0 ≤ m) (h1 : p.rd.getD g 0 + m ≤ 10000) :
    FolL p.rd.length p.ho.length g m (played p).b (played p).e (played (laterP p g (p.rd.getD g 0 + m))).b (played (laterP p g (p.rd.getD g 0 + m))).e := by
  have hx : 0 ≤ p.rd.getD g 0 := by
    rw [List.getD_eq_getElem?_getD, List.getElem?_eq_getElem hg, Option.getD_some]
    exact (h.rdb _ (List.getElem_mem hg)).1
  have e := played_eq h
  have e' := played_eq (later_ok h g (x := p.rd.getD g 0 + m) (by omega) h1)
  have hl : (laterP p g (p.rd.getD g 0 + m)).rd.length = p.rd.length := by simp [laterP]
  rw [hl] at e'
  have hR : ∀ i, (laterP p g (p.rd.getD g 0 + m)).rd.getD i 0 = if i = g then p.rd.getD g 0 + m else p.rd.getD i 0 := fun i => by
    show (p.rd.set g _).getD i 0 = _
    rw [List.getD_eq_getElem?_getD, List.getElem?_set]
    by_cases hi : g = i
    · subst hi; simp [hg]
    · rw [if_neg hi, if_neg (Ne.symm hi), List.getD_eq_getElem?_getD]
  have hho : ∀ x ∈ p.ho, 1 ≤ x := fun x hx => (h.hob x hx).1
  have a1 := PlayEq.mono e e' (m := m) (N := p.rd.length) (Nat.le_refl _) hho h0 (fun i _ => by rw [hR]; split <;> (try subst_vars) <;> omega)
  have a2 := PlayEq.mono e e' (m := 0) (N := g) (by omega) hho (by omega) (fun i hi => by rw [hR, if_neg (by omega)]; omega)
  exact ⟨fun i k hi hk => (a1 i k hi hk).2.1, fun i k hi hk => (a1 i k hi hk).2.2, fun i k _ hk hi => by have := (a2 i k hi hk).2.1; omega⟩
end Go.Sheet
/- The lexical order of a long drawn region whose operations number their slots one by one: a check of each operation by itself (the pairwise check of 100 operations runs the kernel out of memory). -/
namespace Go.MemQ
def seqOp (md : Region.Mode) (ops : Array Oper) (b k : Nat) (o : Oper) : Bool :=
  (o.dst == some (b + k)) && o.after.all (fun e => !Region.binds md e || decide (e.on < k)) &&
  (o.looksAt ops).all (fun t => decide (t < b) || (decide (t < b + k) && o.after.any (fun e => Region.binds md e && e.on == t - b)))
def seqOk (md : Region.Mode) (ops : Array Oper) (b : Nat) : Nat → List Oper → Bool
  | _, [] => true
  | k, o :: l => seqOp md ops b k o && seqOk md ops b (k + 1) l
theorem seqOk_at {md : Region.Mode} {ops : Array Oper} {b : Nat} : ∀ (l : List Oper) (k j : Nat) (o : Oper), seqOk md ops b k l = true → l[j]? = some o → seqOp md ops b (k + j) o = true
  | [], _, _, _ => fun _ h => by simp at h
  | x :: l, k, j, o => fun hs h => by
    rw [seqOk, Bool.and_eq_true] at hs
    cases j with
    | zero => simp at h; subst h; exact hs.1
    | succ j =>
      have := seqOk_at l (k + 1) j o hs.2 (by simpa using h)
      rwa [show k + 1 + j = k + (j + 1) by omega] at this
theorem seqOp_spec {md : Region.Mode} {ops : Array Oper} {b k : Nat} {o : Oper} (h : seqOp md ops b k o = true) :
    o.dst = some (b + k) ∧ (∀ e ∈ o.after, Region.binds md e = true → e.on < k) ∧ (∀ t ∈ o.looksAt ops, t < b + k) ∧ (∀ i, i < k → b + i ∈ o.looksAt ops → o.after.any (fun e => Region.binds md e && e.on == i) = true) := by
  simp only [seqOp, Bool.and_eq_true, beq_iff_eq] at h
  obtain ⟨⟨h1, h2⟩, h3⟩ := h
  refine ⟨h1, fun e he hb => ?_, fun t ht => ?_, fun i hi ht => ?_⟩
  · have := Array.all_eq_true_iff_forall_mem.1 h2 e he
    simp only [hb, Bool.not_true, Bool.false_or, decide_eq_true_eq] at this
    exact this
  · have := List.all_eq_true.1 h3 t ht
    simp only [Bool.or_eq_true, Bool.and_eq_true, decide_eq_true_eq] at this
    rcases this with h | h
    · exact Nat.lt_of_lt_of_le h (Nat.le_add_right b k)
    · exact h.1
  · have := List.all_eq_true.1 h3 _ ht
    simp only [Bool.or_eq_true, Bool.and_eq_true, decide_eq_true_eq] at this
    rcases this with h | h
    · exact absurd h (Nat.not_lt.2 (Nat.le_add_right b i))
    · have h4 := h.2
      rwa [show b + i - b = i from Nat.add_sub_cancel_left b i] at h4
theorem seq_apart {md : Region.Mode} {ops : Array Oper} {b k j : Nat} {x y : Oper} (hx : seqOp md ops b k x = true) (hy : seqOp md ops b j y = true) (hkj : k < j) (hno : y.after.any (fun e => Region.binds md e && e.on == k) = false) : x.apart ops y = true := by
  obtain ⟨x1, x2, x3, x4⟩ := seqOp_spec hx
  obtain ⟨y1, y2, y3, y4⟩ := seqOp_spec hy
  have h1 : b + k ∉ y.looksAt ops := fun h => by rw [y4 k hkj h] at hno; cases hno
  have h2 : b + j ∉ x.looksAt ops := fun h => absurd (Nat.lt_of_add_lt_add_left (x3 _ h)) (Nat.not_lt.2 (Nat.le_of_lt hkj))
  simp only [Oper.apart, x1, y1, Bool.and_eq_true, Bool.not_eq_true', bne_iff_ne, ne_eq, Option.some.injEq]
  exact ⟨⟨by simpa using h1, fun h => absurd (Nat.add_left_cancel h) (by omega)⟩, by simpa using h2⟩
theorem lexFrom_seq {md : Region.Mode} {l : List Oper} {b : Nat} (hs : seqOk md l.toArray b 0 l = true) : ∀ (n k : Nat) (listed : Array Bool), k + n = l.length → listed.size = l.length → (∀ j, j < k → listed.getD j false = true) → (∀ j, k ≤ j → j < l.length → listed.getD j true = false) →
    Region.lexFrom md l.toArray n k listed = true := by
  have hat : ∀ (j : Nat) (o : Oper), l.toArray[j]? = some o → seqOp md l.toArray b j o = true := fun j o h => by
    have := seqOk_at l 0 j o hs (by simpa using h)
    rwa [Nat.zero_add] at this
  intro n
  induction n with
  | zero =>
    intro k listed hk hz h1 h2
    rw [Region.lexFrom, List.isEmpty_iff, List.eq_nil_iff_forall_not_mem]
    intro j hj
    obtain ⟨h3, o, ho, _⟩ := mem_ready.1 hj
    have hjl : j < l.length := by have := (Array.getElem?_eq_some_iff.1 ho).1; simpa using this
    have h4 := h1 j (by omega)
    simp [hz, hjl] at h3 h4
    rw [h3] at h4
    cases h4
  | succ n ih =>
    intro k listed hk hz h1 h2
    have hkl : k < l.length := by omega
    have hok : l.toArray[k]? = some l[k] := by simp [hkl]
    have hsk := hat k _ hok
    rw [Region.lexFrom, Bool.and_eq_true, Bool.and_eq_true]
    refine ⟨⟨?_, ?_⟩, ih (k + 1) _ (by omega) (by simpa using hz) (fun j hj => ?_) (fun j hj hl => ?_)⟩
    · rw [List.contains_iff_mem, mem_ready]
      exact ⟨h2 k (Nat.le_refl _) hkl, _, hok, fun e he hb => h1 _ ((seqOp_spec hsk).2.1 e he hb)⟩
    · simp only [Region.free, hok, List.all_eq_true, List.mem_range]
      intro j hj
      have hjl : j < l.length := by simpa using hj
      have hoj : l.toArray[j]? = some l[j] := by simp [hjl]
      rcases Nat.lt_trichotomy j k with h | h | h
      · have h4 := h1 j h
        have h5 : listed.getD j true = true := by simp [hz, hjl] at h4 ⊢; exact h4
        rw [h5]; simp
      · subst h; simp
      · simp only [hoj]
        cases hb : (l[j]).after.any (fun e => Region.binds md e && e.on == k) with
        | true => simp
        | false => rw [seq_apart hsk (hat j _ hoj) h hb]; simp
    · by_cases hjk : k = j
      · subst hjk; simp [hz, hkl]
      · rw [getD_set_ne false hjk]; exact h1 j (by omega)
    · rw [getD_set_ne true (by omega)]; exact h2 j (by omega) hl
theorem lexB_seq {md : Region.Mode} {l : List Oper} (b : Nat) (hn : Region.noSelect l.toArray = true) (hs : seqOk md l.toArray b 0 l = true) : Region.lexB md l.toArray = true := by
  rw [Region.lexB, Bool.and_eq_true]
  refine ⟨hn, lexFrom_seq hs _ 0 _ (by simp) (by simp) (fun j hj => absurd hj (Nat.not_lt_zero j)) (fun j _ hj => ?_)⟩
  simp [hj]
end Go.MemQ
/- Two copies of a pace, as the laws make them. -/
namespace Go.Proofs.YtjfhncnpmelopaaGreatDoor
open Go.RowKit Go.Mem Go.Sheet
/-- a block of three cells -/
def Box3 (w : World) (g : Nat) (a b c : Value) : Prop := w.cell? ⟨g, 0, none⟩ = some a ∧ w.cell? ⟨g, 1, none⟩ = some b ∧ w.cell? ⟨g, 2, none⟩ = some c
theorem Box3.later {w w' : World} {g : Nat} {a b c : Value} (h : Box3 w g a b c) (hb : Below w.heap.size w w') : Box3 w' g a b c := by
  have hg := World.block_lt_of_cell? w _ h.1
  exact ⟨(hb.cell (p := ⟨g, 0, none⟩) hg).trans h.1, (hb.cell (p := ⟨g, 1, none⟩) hg).trans h.2.1, (hb.cell (p := ⟨g, 2, none⟩) hg).trans h.2.2⟩
/-- what the law's first lines give: two copies of the pace -/
structure PEnv (W w : World) (g1 g2 : Nat) (vr vm vh : Value) (p : PC) : Prop where
  bel : Below W.heap.size W w
  b1 : Box3 w g1 vr vm vh
  b2 : Box3 w g2 vr vm vh
  rd : RdPace w (· < w.heap.size) vr vm vh p
theorem PEnv.later {W w w' : World} {g1 g2 : Nat} {vr vm vh : Value} {p : PC} (h : PEnv W w g1 g2 vr vm vh p) (hb : Below w.heap.size w w') : PEnv W w' g1 g2 vr vm vh p :=
  ⟨h.bel.trans (hb.mono h.bel.size), h.b1.later hb, h.b2.later hb, h.rd.later hb⟩
theorem rows_open {w : World} {F : Nat → Prop} {v : Value} {l : List (List Int)} (h : RdRows w F v l) : ∃ A c, v = .slice A l.length c := by
  obtain ⟨vs, h1, _⟩ := h
  obtain ⟨A, c, e, _⟩ := h1.open_
  exact ⟨A, c, e⟩
end Go.Proofs.YtjfhncnpmelopaaGreatDoor
/- A block ahead of a row in a list of what a call owns: they are apart. -/
namespace Go.Mem
open Go.RowKit
theorem Sep.twoB {L : List Asr} : ∀ {w : World} {F : Nat → Prop} {i j : Nat} {A B : Asr}, Sep L w F → L[i]? = some A → L[j]? = some B → i < j → ∃ F1 F2, A.holds w F1 ∧ B.holds w F2 ∧ ∀ b, F1 b → ¬ F2 b := by
  induction L with
  | nil => intro w F i j A B _ h; simp at h
  | cons C L ih =>
    rintro w F i j A B ⟨F0, h1, h2, h3⟩ hi hj hij
    obtain ⟨j, rfl⟩ : ∃ j', j = j' + 1 := ⟨j - 1, by omega⟩
    simp only [List.getElem?_cons_succ] at hj
    cases i with
    | zero =>
      simp only [List.getElem?_cons_zero, Option.some.injEq] at hi
      subst hi
      obtain ⟨F2, g1, g2, _⟩ := Sep.upd h3 hj
      exact ⟨F0, F2, h2, g2, fun b hb hb2 => (g1 b hb2).2 hb⟩
    | succ i =>
      simp only [List.getElem?_cons_succ] at hi
      exact ih h3 hi hj (by omega)
theorem St.blk_neq {W w : World} {L : List Asr} {i j g g' n' c' s' : Nat} {t : TypeId} {cs : Array Value} {e' : TypeId} {xs' : List Value} (h : St W w L) (hi : L[i]? = some (blk g t cs)) (hj : L[j]? = some (row e' s' (.slice (some ⟨g', 0, none⟩) n' c') n' xs')) (hij : i < j) : g ≠ g' := by
  obtain ⟨F1, F2, h1, h2, h3⟩ := Sep.twoB h.2 hi hj hij
  rintro rfl
  exact h3 g h1.2 (h2.2 g rfl)
end Go.Mem
