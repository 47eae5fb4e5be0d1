/- Walks of the reference: ShortPace, CheckPace. -/
import Derived.Test.YtjfhncnpmelopaaGreatDoorB10
import Derived.Test.YtjfhncnpmelopaaGreatDoorB11
import Derived.Test.YtjfhncnpmelopaaGreatDoorB15
import Derived.Test.YtjfhncnpmelopaaGreatDoorB14
import Derived.Test.YtjfhncnpmelopaaGreatDoorL61
import Derived.Test.YtjfhncnpmelopaaGreatDoorB23
set_option linter.unusedVariables false
set_option linter.unusedSimpArgs false
set_option linter.unusedSectionVars false
set_option linter.constructorNameAsVariable false
namespace Go.Sheet
theorem paceE1_cases (p : PC) : paceE1 p = if p.rd.length = 0 then 12 else if 24 < p.rd.length then 5 else if eachF (fun _ n => outE n 0 10000) 0 p.rd ≠ 0 then eachF (fun _ n => outE n 0 10000) 0 p.rd else if p.mi.length ≠ p.rd.length then 2 else 0 := by
  rw [paceE1]
  by_cases h1 : p.rd.length = 0
  · simp [fst, whenE, h1]
  · by_cases h2 : 24 < p.rd.length
    · simp [fst, whenE, h1, h2]
    · by_cases h3 : eachF (fun _ n => outE n 0 10000) 0 p.rd ≠ 0
      · simp [fst, whenE, h1, h2, h3]
      · simp only [ne_eq, Classical.not_not] at h3
        by_cases h4 : p.mi.length ≠ p.rd.length
        · simp [fst, whenE, h1, h2, h3, h4]
        · simp [fst, whenE, h1, h2, h3, h4]
theorem paceE2_cases (p : PC) : paceE2 p = if p.ho.length = 0 then 12 else if 36 < p.ho.length then 5 else eachF (fun _ n => outE n 1 8) 0 p.ho := by
  rw [paceE2]
  by_cases h1 : p.ho.length = 0
  · simp [fst, whenE, h1]
  · by_cases h2 : 36 < p.ho.length
    · simp [fst, whenE, h1, h2]
    · by_cases h3 : eachF (fun _ n => outE n 1 8) 0 p.ho = 0
      · simp [fst, whenE, h1, h2, h3]
      · simp [fst, whenE, h1, h2, h3]
end Go.Sheet
namespace Go.Proofs.YtjfhncnpmelopaaGreatDoor
open Go.RowKit Go.Mem Go.Sheet
set_option maxRecDepth 100000 in
set_option maxHeartbeats 1000000 in
theorem refShortPace_any (W : World) (vr vm vh : Value) (p : PC) (h : RdPace W (· < W.heap.size) vr vm vh p) :
    Calls Tryz.prog 26 #[.agg #[vr, vm, vh]] W fun e w' => IsB e ∧ Below W.heap.size W w' := by
  obtain ⟨h1, ⟨vs, h2, h2'⟩, h3⟩ := h
  have b1 := h1.le
  have b2 := h2.le
  have b3 := h3.le
  have hb := (Below.refl W.heap.size W).alloc (Nat.le_refl _) (.cells #[vr, vm, vh] 56)
  have h2w := h2.later hb
  have H2' : Hid (∀ (i : Nat) (x : Value) (r : List Int), vs[i]? = some x → p.mi[i]? = some r → Rd W (· < W.heap.size) 1 x r.length (ints r)) := h2'
  obtain ⟨Ar, cr, rfl, _, _, _⟩ := h1.open_
  obtain ⟨Am, cm, rfl, _, _, _⟩ := h2.open_
  obtain ⟨Ah, ch, rfl, _, _, _⟩ := h3.open_
  generalize p.rd.length = n1 at *
  generalize HN2 : p.mi.length = n2 at *
  have HN2 := Lib.hid HN2
  generalize p.ho.length = n3 at *
  have k0 : (W.alloc (.cells #[.slice Ar n1 cr, .slice Am n2 cm, .slice Ah n3 ch] 56)).cell? ⟨W.heap.size, 0, none⟩ = some (.slice Ar n1 cr) := by simp
  have k1 : (W.alloc (.cells #[.slice Ar n1 cr, .slice Am n2 cm, .slice Ah n3 ch] 56)).cell? ⟨W.heap.size, 1, none⟩ = some (.slice Am n2 cm) := by simp
  have k2 : (W.alloc (.cells #[.slice Ar n1 cr, .slice Am n2 cm, .slice Ah n3 ch] 56)).cell? ⟨W.heap.size, 2, none⟩ = some (.slice Ah n3 ch) := by simp
  clear h1 h2 h3 h2'
  go_enter Tryz.func26, Tryz.ntmps26
  by_cases g1 : 30 < n1
  · go_wp2
    go_ret
    exact ⟨⟨_, rfl⟩, hb⟩
  · by_cases g2 : 30 < n2
    · go_wp2
      go_ret
      exact ⟨⟨_, rfl⟩, hb⟩
    · by_cases g3 : 40 < n3
      · go_wp2
        go_ret
        exact ⟨⟨_, rfl⟩, hb⟩
      · go_wp2
        generalize W.alloc (.cells #[.slice Ar n1 cr, .slice Am n2 cm, .slice Ah n3 ch] 56) = w1 at *
        go_loop [3] (fun i => ∃ k : Nat, k ≤ n2 ∧ i = .int .i64 k) (fun i => n2 - (intOf i).toNat)
        case atStart => exact ⟨0, Nat.zero_le _, rfl⟩
        case round =>
          obtain ⟨k, hk, rfl⟩ := hrel
          by_cases hlt : k < n2
          · obtain ⟨b, o, y, rfl, hy, cy⟩ := h2w.val hlt
            have hrm : p.mi[k]? = some p.mi[k] := List.getElem?_eq_getElem (by rw [HN2.out]; exact hlt)
            obtain ⟨Ay, cy', rfl, _, _, _⟩ := (H2'.out k y _ hy hrm).open_
            have hrl := (H2'.out k _ _ hy hrm).le
            generalize p.mi[k].length = m at *
            clear hy hrm
            by_cases g4 : 40 < m
            · have g4' : decide (40 < (m : Int)) = true := by simp; omega
              go_wp2
              go_ret
              exact ⟨⟨_, rfl⟩, hb⟩
            · have g4' : decide (40 < (m : Int)) = false := by simp; omega
              go_wp2
              go_round
              case rel => exact ⟨k + 1, by omega, by go_num⟩
              case measure => simp [intOf]; omega
          · obtain rfl : k = n2 := by omega
            go_wp2
            go_ret
            exact ⟨⟨_, rfl⟩, hb⟩
theorem outE_yes {n lo hi : Int} (h : outB n lo hi = true) : outE n lo hi = 3 := by rw [outE_outB, if_pos h]
theorem outE_no {n lo hi : Int} (h : outB n lo hi = false) : outE n lo hi = 0 := by rw [outE_outB, if_neg (by rw [h]; decide)]
set_option maxRecDepth 100000 in
set_option maxHeartbeats 1000000 in
theorem refCheckPace_any (W : World) (vr vm vh : Value) (p : PC) (h : RdPace W (· < W.heap.size) vr vm vh p) :
    Calls Tryz.prog 27 #[.agg #[vr, vm, vh]] W fun e w' => e = .returned (.int .i64 (checkPace p)) ∧ Below W.heap.size W w' := by
  obtain ⟨h1, ⟨vs, h2, h2'⟩, h3⟩ := h
  have b1 := h1.le
  have b2 := h2.le
  have b3 := h3.le
  have hb := (Below.refl W.heap.size W).alloc (Nat.le_refl _) (.cells #[vr, vm, vh] 56)
  have h1w := h1.later hb
  have h2w := h2.later hb
  have h3w := h3.later hb
  have H2' : Hid (∀ (i : Nat) (x : Value) (r : List Int), vs[i]? = some x → p.mi[i]? = some r → Rd W (· < W.heap.size) 1 x r.length (ints r)) := h2'
  have HV : Hid (checkPace p = if p.rd.length = 0 then 12 else if 24 < p.rd.length then 5 else if eachF (fun _ n => outE n 0 10000) 0 p.rd ≠ 0 then eachF (fun _ n => outE n 0 10000) 0 p.rd else if p.mi.length ≠ p.rd.length then 2 else
      if p.ho.length = 0 then 12 else if 36 < p.ho.length then 5 else if eachF (fun _ n => outE n 1 8) 0 p.ho ≠ 0 then eachF (fun _ n => outE n 1 8) 0 p.ho else eachF (fun _ r => paceR p.ho.length r) 0 p.mi) := by
    show _ = _
    rw [checkPace, paceE1_cases, paceE2_cases]
    by_cases e1 : p.rd.length = 0
    · simp [e1]
    · by_cases e2 : 24 < p.rd.length
      · simp [e1, e2]
      · by_cases e3 : eachF (fun _ n => outE n 0 10000) 0 p.rd = 0
        · by_cases e4 : p.mi.length = p.rd.length
          · by_cases e5 : p.ho.length = 0
            · simp [e1, e2, e3, e4, e5]
            · by_cases e6 : 36 < p.ho.length
              · simp [e1, e2, e3, e4, e5, e6]
              · simp [e1, e2, e3, e4, e5, e6]
          · simp [e1, e2, e3, e4]
        · simp [e1, e2, e3]
  obtain ⟨Ar, cr, rfl, _, _, _⟩ := h1.open_
  obtain ⟨Am, cm, rfl, _, _, _⟩ := h2.open_
  obtain ⟨Ah, ch, rfl, _, _, _⟩ := h3.open_
  generalize HN1 : p.rd.length = n1 at *
  generalize HN2 : p.mi.length = n2 at *
  generalize HN3 : p.ho.length = n3 at *
  have HN1 := Lib.hid HN1
  have HN2 := Lib.hid HN2
  have HN3 := Lib.hid HN3
  have k0 : (W.alloc (.cells #[.slice Ar n1 cr, .slice Am n2 cm, .slice Ah n3 ch] 56)).cell? ⟨W.heap.size, 0, none⟩ = some (.slice Ar n1 cr) := by simp
  have k1 : (W.alloc (.cells #[.slice Ar n1 cr, .slice Am n2 cm, .slice Ah n3 ch] 56)).cell? ⟨W.heap.size, 1, none⟩ = some (.slice Am n2 cm) := by simp
  have k2 : (W.alloc (.cells #[.slice Ar n1 cr, .slice Am n2 cm, .slice Ah n3 ch] 56)).cell? ⟨W.heap.size, 2, none⟩ = some (.slice Ah n3 ch) := by simp
  clear h1 h2 h3 h2'
  go_enter Tryz.func27, Tryz.ntmps27
  by_cases g1 : n1 = 0
  · have g1' : ((n1 : Int) == 0) = true := by simp; omega
    have HR := Lib.hid (HV.out.trans (if_pos g1))
    clear HV g1
    go_wp2
    go_ret
    exact ⟨ret_i64 HR.out.symm, hb⟩
  · have g1' : ((n1 : Int) == 0) = false := by simp; omega
    have HV1 := Lib.hid (HV.out.trans (if_neg g1))
    clear HV g1
    by_cases g2 : 24 < n1
    · have g2' : decide (24 < (n1 : Int)) = true := by simp; omega
      have HR := Lib.hid (HV1.out.trans (if_pos g2))
      clear HV1
      go_wp2
      go_ret
      exact ⟨ret_i64 HR.out.symm, hb⟩
    · have g2' : decide (24 < (n1 : Int)) = false := by simp; omega
      have HV2 := Lib.hid (HV1.out.trans (if_neg g2))
      clear HV1 g2
      go_wp2
      generalize W.alloc (.cells #[.slice Ar n1 cr, .slice Am n2 cm, .slice Ah n3 ch] 56) = w1 at *
      go_loop [3] (fun i => ∃ k : Nat, k ≤ n1 ∧ i = .int .i64 k ∧ Hid (eachF (fun _ n => outE n 0 10000) k (p.rd.drop k) = eachF (fun _ n => outE n 0 10000) 0 p.rd)) (fun i => n1 - (intOf i).toNat)
      case atStart => exact ⟨0, Nat.zero_le _, rfl, rfl⟩
      case round =>
        obtain ⟨k, hk, rfl, he⟩ := hrel
        by_cases hlt : k < n1
        · obtain ⟨b, o, x, rfl, hx, cx⟩ := h1w.int hlt
          by_cases g3 : outB x 0 10000 = true
          · have e1 := eachF_stop hx (show outE x 0 10000 ≠ 0 by rw [outE_yes g3]; decide) he.out
            have HR : Hid (checkPace p = 3) := by
              show _ = _
              rw [HV2.out, if_pos (by rw [← e1, outE_yes g3]; decide), ← e1, outE_yes g3]
            clear HV2 he e1 hx
            go_wp2_with (go_at_call 52; refine (outB_any _ _ _ _).mono ?_; rintro e w' ⟨rfl, rfl⟩)
            go_ret
            exact ⟨ret_i64 HR.out.symm, hb⟩
          · have g3' : outB x 0 10000 = false := by simpa using g3
            have HN := Lib.hid (eachF_go hx (show ¬ outE x 0 10000 ≠ 0 by rw [outE_no g3']; simp) he.out)
            clear he g3 hx
            go_wp2_with (go_at_call 52; refine (outB_any _ _ _ _).mono ?_; rintro e w' ⟨rfl, rfl⟩)
            go_round
            case rel => exact ⟨k + 1, by omega, by go_num, HN.out⟩
            case measure => simp [intOf]; omega
        · obtain rfl : k = n1 := by omega
          have HV3 := Lib.hid (HV2.out.trans (if_neg (by rw [eachF_end (n := k) (by have := HN1.out; omega) he.out]; simp)))
          clear HV2 he
          by_cases g4 : n2 ≠ k
          · have g4' : ((n2 : Int) != (k : Int)) = true := by simp; omega
            have HR := Lib.hid (HV3.out.trans (if_pos g4))
            clear HV3 g4
            go_wp2
            go_ret
            exact ⟨ret_i64 HR.out.symm, hb⟩
          · have g4' : ((n2 : Int) != (k : Int)) = false := by simp; omega
            have HV4 := Lib.hid (HV3.out.trans (if_neg g4))
            have HNK : Hid (n2 = k) := by show _ = _; omega
            clear HV3 g4
            by_cases g5 : n3 = 0
            · have g5' : ((n3 : Int) == 0) = true := by simp; omega
              have HR := Lib.hid (HV4.out.trans (if_pos g5))
              clear HV4 g5
              go_wp2
              go_ret
              exact ⟨ret_i64 HR.out.symm, hb⟩
            · have g5' : ((n3 : Int) == 0) = false := by simp; omega
              have HV5 := Lib.hid (HV4.out.trans (if_neg g5))
              clear HV4 g5
              by_cases g6 : 36 < n3
              · have g6' : decide (36 < (n3 : Int)) = true := by simp; omega
                have HR := Lib.hid (HV5.out.trans (if_pos g6))
                clear HV5
                go_wp2
                go_ret
                exact ⟨ret_i64 HR.out.symm, hb⟩
              · have g6' : decide (36 < (n3 : Int)) = false := by simp; omega
                have HV6 := Lib.hid (HV5.out.trans (if_neg g6))
                clear HV5
                go_wp2
                go_loop [4] (fun i => ∃ j : Nat, j ≤ n3 ∧ i = .int .i64 j ∧ Hid (eachF (fun _ n => outE n 1 8) j (p.ho.drop j) = eachF (fun _ n => outE n 1 8) 0 p.ho)) (fun i => n3 - (intOf i).toNat)
                case atStart => exact ⟨0, Nat.zero_le _, rfl, rfl⟩
                case round =>
                  obtain ⟨j, hj, rfl, he⟩ := hrel
                  by_cases hlj : j < n3
                  · obtain ⟨b, o, x, rfl, hx, cx⟩ := h3w.int hlj
                    by_cases g3 : outB x 1 8 = true
                    · have e1 := eachF_stop hx (show outE x 1 8 ≠ 0 by rw [outE_yes g3]; decide) he.out
                      have HR : Hid (checkPace p = 3) := by
                        show _ = _
                        rw [HV6.out, if_pos (by rw [← e1, outE_yes g3]; decide), ← e1, outE_yes g3]
                      clear HV6 he e1 hx
                      go_wp2_with (go_at_call 52; refine (outB_any _ _ _ _).mono ?_; rintro e w' ⟨rfl, rfl⟩)
                      go_ret
                      exact ⟨ret_i64 HR.out.symm, hb⟩
                    · have g3' : outB x 1 8 = false := by simpa using g3
                      have HN := Lib.hid (eachF_go hx (show ¬ outE x 1 8 ≠ 0 by rw [outE_no g3']; simp) he.out)
                      clear he g3 hx
                      go_wp2_with (go_at_call 52; refine (outB_any _ _ _ _).mono ?_; rintro e w' ⟨rfl, rfl⟩)
                      go_round
                      case rel => exact ⟨j + 1, by omega, by go_num, HN.out⟩
                      case measure => simp [intOf]; omega
                  · obtain rfl : j = n3 := by omega
                    have HV7 := Lib.hid (HV6.out.trans (if_neg (by rw [eachF_end (n := j) (by have := HN3.out; omega) he.out]; simp)))
                    clear HV6 he
                    go_wp2
                    go_loopw [5] (fun i w' => ∃ m q : Nat, m ≤ n2 ∧ i = .int .i64 m ∧ w' = w1.drewN q ∧ Hid (eachF (fun _ r => paceR j r) m (p.mi.drop m) = eachF (fun _ r => paceR j r) 0 p.mi)) (fun i _ => n2 - (intOf i).toNat)
                    case atStart => exact ⟨0, 0, Nat.zero_le _, rfl, rfl, rfl⟩
                    case round =>
                      obtain ⟨m, q, hm, rfl, rfl, he⟩ := hrel
                      have hbq := hb.trans (below_drewN (Below.refl W.heap.size w1) q)
                      by_cases hlm : m < n2
                      · obtain ⟨b, o, y, rfl, hy, cy⟩ := h2w.val hlm
                        have hrm : p.mi[m]? = some p.mi[m] := List.getElem?_eq_getElem (by rw [HN2.out]; exact hlm)
                        have hrow := (H2'.out m y _ hy hrm).later hb
                        generalize p.mi[m] = r at *
                        obtain ⟨Ay, cy', rfl, _, _, hrow⟩ := hrow.open_
                        have hrl := hrow.le
                        have HRM := Lib.hid hrm
                        have HPR : Hid (paceR j r = if r.length ≠ j then 2 else eachF (fun _ n => outE n 1 10000) 0 r) := rfl
                        generalize HRL : r.length = rl at *
                        have HRL := Lib.hid HRL
                        clear hy hrm
                        by_cases g7 : rl ≠ j
                        · have g7' : ((rl : Int) != (j : Int)) = true := by simp; omega
                          have e1 := eachF_stop HRM.out (show paceR j r ≠ 0 by rw [HPR.out, if_pos g7]; decide) he.out
                          have HR : Hid (checkPace p = 2) := by
                            show _ = _
                            rw [HV7.out, ← e1, HPR.out, if_pos g7]
                          clear HV7 he e1 g7 hrow
                          go_wp2_with fail
                          go_quiet (fail)
                          go_wp2
                          go_ret
                          exact ⟨ret_i64 HR.out.symm, hbq.trans (below_drewN (Below.refl _ _) _)⟩
                        · have g7' : ((rl : Int) != (j : Int)) = false := by simp; omega
                          have HPR2 : Hid (paceR j r = eachF (fun _ n => outE n 1 10000) 0 r) := HPR.out.trans (if_neg g7)
                          have hrj : rl = j := by omega
                          subst hrj
                          clear HPR g7
                          go_wp2_with fail
                          go_quiet (fail)
                          have hbq2 := hbq.trans (below_drewN (Below.refl W.heap.size (w1.drewN q)) nq)
                          go_wp2
                          go_loopw [6] (fun i w' => ∃ t q' : Nat, t ≤ rl ∧ i = .int .i64 t ∧ w' = w1.drewN q' ∧ Hid (eachF (fun _ n => outE n 1 10000) t (r.drop t) = eachF (fun _ n => outE n 1 10000) 0 r)) (fun i _ => rl - (intOf i).toNat)
                          case atStart => exact ⟨0, q + nq, Nat.zero_le _, rfl, by first | rfl | exact World.drewN_drewN _ _ _, rfl⟩
                          case round =>
                            obtain ⟨t, q', ht, rfl, rfl, he2⟩ := hrel
                            have hbq3 := hb.trans (below_drewN (Below.refl W.heap.size w1) q')
                            by_cases hlt2 : t < rl
                            · obtain ⟨b9, o9, x, rfl, hx, cx⟩ := Rd.int (q := .i64) (l := r) hrow hlt2
                              by_cases g3 : outB x 1 10000 = true
                              · have e1 := eachF_stop hx (show outE x 1 10000 ≠ 0 by rw [outE_yes g3]; decide) he2.out
                                have e2 := eachF_stop HRM.out (show paceR rl r ≠ 0 by rw [HPR2.out, ← e1, outE_yes g3]; decide) he.out
                                have HR : Hid (checkPace p = 3) := by
                                  show _ = _
                                  rw [HV7.out, ← e2, HPR2.out, ← e1, outE_yes g3]
                                clear HV7 he he2 e1 e2 hx hrow
                                go_wp2_with (go_at_call 52; refine (outB_any _ _ _ _).mono ?_; rintro e w' ⟨rfl, rfl⟩)
                                go_ret
                                exact ⟨ret_i64 HR.out.symm, hbq3⟩
                              · have g3' : outB x 1 10000 = false := by simpa using g3
                                have HN := Lib.hid (eachF_go hx (show ¬ outE x 1 10000 ≠ 0 by rw [outE_no g3']; simp) he2.out)
                                clear he2 g3 hx
                                go_wp2_with (go_at_call 52; refine (outB_any _ _ _ _).mono ?_; rintro e w' ⟨rfl, rfl⟩)
                                go_roundw
                                case rel => exact ⟨t + 1, q', by omega, by go_num, rfl, HN.out⟩
                                case measure => simp [intOf]; omega
                            · obtain rfl : t = rl := by omega
                              have e1 := eachF_end (n := t) (by have := HRL.out; omega) he2.out
                              have HN := Lib.hid (eachF_go HRM.out (show ¬ paceR t r ≠ 0 by rw [HPR2.out, e1]; simp) he.out)
                              clear he he2 e1 hrow
                              go_wp2
                              go_roundw
                              case rel => exact ⟨m + 1, q', by omega, by go_num, rfl, HN.out⟩
                              case measure => simp [intOf]; omega
                      · obtain rfl : m = n2 := by omega
                        have HR : Hid (checkPace p = 0) := by
                          show _ = _
                          rw [HV7.out]
                          exact eachF_end (n := m) (by have := HN2.out; omega) he.out
                        clear HV7 he
                        go_wp2
                        go_ret
                        exact ⟨ret_i64 HR.out.symm, hbq⟩
end Go.Proofs.YtjfhncnpmelopaaGreatDoor
/- Walk of the law's package: table. -/
namespace Go.Sheet
/-- a table and an error are the wanted ones -/
def tabOk (l : IMat) (e bad : Int) (want : IMat) : Bool := if bad ≠ 0 then decide (l.length = 0) && (e == bad) else (e == 0) && decide (l = want)
theorem table_yes {l : IMat} {e bad : Int} {want : IMat} (h1 : bad ≠ 0 → l = [] ∧ e = bad) (h2 : bad = 0 → e = 0 ∧ l = want) : tabOk l e bad want = true := by
  rw [tabOk]
  by_cases h : bad ≠ 0
  · rw [if_pos h]; obtain ⟨a, b⟩ := h1 h; simp [a, b]
  · rw [if_neg h]; obtain ⟨a, b⟩ := h2 (by simpa using h); simp [a, b]
end Go.Sheet
namespace Go.Proofs.YtjfhncnpmelopaaGreatDoor
open Go.RowKit Go.Mem Go.Sheet
set_option maxRecDepth 100000 in
set_option maxHeartbeats 1000000 in
theorem table_any (w : World) (F F' : Nat → Prop) (va vb : Value) (l want : IMat) (e bad : Int) (ha : RdRows w F va l) (hb : RdRows w F' vb want) :
    Calls Tryz.prog 33 #[va, .int .i64 e, .int .i64 bad, vb] w fun r w' => r = .returned (.bool (tabOk l e bad want)) ∧ ∃ n, w' = w.drewN n := by
  have HC := Lib.hid (sameTable_any w F F' va vb l want ha hb)
  obtain ⟨vs, ha, _⟩ := ha
  generalize HL : l.length = n at *
  obtain ⟨A, c, rfl, _, _, _⟩ := ha.open_
  have hn := ha.le
  clear ha hb
  have HL := Lib.hid HL
  go_enter Tryz.func33, Tryz.ntmps33
  have HD : Hid (tabOk l e bad want = if bad ≠ 0 then decide (l.length = 0) && (e == bad) else (e == 0) && decide (l = want)) := rfl
  cases h1 : (bad != 0)
  · have h1' : ¬ bad ≠ 0 := by simpa using h1
    have HV : Hid (tabOk l e bad want = ((e == 0) && decide (l = want))) := by show _ = _; rw [HD.out, if_neg h1']
    clear h1' HD
    generalize decide (l = want) = r at *
    cases h2 : (e == 0)
    all_goals
      go_wp2_with (go_at_call 65; refine HC.out.mono ?_; rintro e w' ⟨rfl, ⟨q, rfl⟩⟩)
      go_ret
      exact ⟨ret_bool (by rw [HV.out, h2]; simp), by first | exact ⟨0, rfl⟩ | exact ⟨_, rfl⟩⟩
  · have h1' : bad ≠ 0 := by simpa using h1
    have HV : Hid (tabOk l e bad want = (((n : Int) == 0) && (e == bad))) := by show _ = _; rw [HD.out, if_pos h1', HL.out]; congr 1; rw [Bool.eq_iff_iff]; simp
    clear h1' HD
    cases h2 : ((n : Int) == 0)
    all_goals
      go_wp2
      go_ret
      exact ⟨ret_bool (by rw [HV.out, h2]; simp), 0, rfl⟩
end Go.Proofs.YtjfhncnpmelopaaGreatDoor
/- The reference's bottleneck is the program's: the first hole with the greatest sum of waits. -/
namespace Go.Sheet
/-- what the reference keeps: the hole and the greatest sum so far -/
def bottF : Nat → List Int → Int × Int → Int × Int
  | _, [], r => r
  | k, s :: l, r => bottF (k + 1) l (if r.2 < s then ((k : Int), s) else r)
theorem idxF_append {α : Type} (p : α → Bool) : ∀ (a b : List α) (k : Nat), idxF p k (a ++ b) = if a.any p then idxF p k a else idxF p (k + a.length) b := by
  intro a
  induction a with
  | nil => intro b k; simp
  | cons x a ih =>
    intro b k
    rw [List.cons_append, idxF, List.any_cons]
    cases hp : p x
    · rw [if_neg (by simp), ih, Bool.false_or]
      by_cases h : a.any p
      · rw [if_pos h, if_pos h, idxF, if_neg (by simp [hp])]
      · rw [if_neg h, if_neg h, List.length_cons]; congr 1; omega
    · rw [if_pos rfl, Bool.true_or, if_pos rfl, idxF, if_pos hp]
theorem maxF_snoc (s : Int) : ∀ (l : List Int) (a : Int), maxF a (l ++ [s]) = max (maxF a l) s := by
  intro l
  induction l with
  | nil => intro a; rfl
  | cons x l ih => intro a; rw [List.cons_append, maxF, maxF, ih]
theorem maxF_le : ∀ (l : List Int) (a : Int), a ≤ maxF a l ∧ (∀ x ∈ l, x ≤ maxF a l) ∧ (maxF a l = a ∨ maxF a l ∈ l) := by
  intro l
  induction l with
  | nil => intro a; exact ⟨Int.le_refl _, (fun _ h => by cases h), .inl rfl⟩
  | cons x l ih =>
    intro a
    rw [maxF]
    obtain ⟨h1, h2, h3⟩ := ih (max a x)
    refine ⟨by omega, fun y hy => ?_, ?_⟩
    · rcases List.mem_cons.1 hy with rfl | hy
      · omega
      · exact h2 y hy
    · rcases h3 with h3 | h3
      · by_cases h : a < x
        · right
          rw [h3, show max a x = x by omega]
          simp
        · left; omega
      · right
        exact List.mem_cons_of_mem _ h3
theorem maxL_cons (x : Int) (l : List Int) : maxL (x :: l) = maxF x l := rfl
theorem maxL_snoc {l : List Int} (h : l ≠ []) (s : Int) : maxL (l ++ [s]) = max (maxL l) s := by
  cases l with
  | nil => exact absurd rfl h
  | cons x l => rw [List.cons_append, maxL_cons, maxL_cons, maxF_snoc]
theorem maxL_le {l : List Int} (h : l ≠ []) : (∀ x ∈ l, x ≤ maxL l) ∧ maxL l ∈ l := by
  cases l with
  | nil => exact absurd rfl h
  | cons x l =>
    rw [maxL_cons]
    obtain ⟨h1, h2, h3⟩ := maxF_le l x
    refine ⟨fun y hy => ?_, ?_⟩
    · rcases List.mem_cons.1 hy with rfl | hy
      · exact h1
      · exact h2 y hy
    · rcases h3 with h3 | h3
      · rw [h3]; simp
      · exact List.mem_cons_of_mem _ h3
/-- the answer for a list that is not empty -/
def bott (l : List Int) : Int × Int := (idxF (fun x => maxL l == x) 0 l, maxL l)
theorem bott_snoc {l : List Int} (h : l ≠ []) (s : Int) : bott (l ++ [s]) = if (bott l).2 < s then ((l.length : Int), s) else bott l := by
  obtain ⟨hle, hmem⟩ := maxL_le h
  show (idxF (fun x => maxL (l ++ [s]) == x) 0 (l ++ [s]), maxL (l ++ [s])) = if maxL l < s then ((l.length : Int), s) else bott l
  rw [maxL_snoc h, idxF_append]
  by_cases hs : maxL l < s
  · have e : max (maxL l) s = s := by omega
    rw [e, if_pos hs]
    have hn : ¬ (l.any fun x => s == x) = true := by
      rw [List.any_eq_true]
      rintro ⟨x, hx, he⟩
      have h1 := hle x hx
      have h2 : s = x := by simpa using he
      omega
    rw [if_neg hn, idxF, if_pos (by simp)]
    simp
  · have e : max (maxL l) s = maxL l := by omega
    rw [e, if_neg hs]
    have hy : (l.any fun x => maxL l == x) = true := by
      rw [List.any_eq_true]
      exact ⟨_, hmem, by simp⟩
    rw [if_pos hy]; rfl
theorem bottF_bott : ∀ (suf pre : List Int), pre ≠ [] → bottF pre.length suf (bott pre) = bott (pre ++ suf) := by
  intro suf
  induction suf with
  | nil => intro pre _; rw [List.append_nil]; rfl
  | cons s suf ih =>
    intro pre h
    rw [bottF, ← bott_snoc h s]
    have := ih (pre ++ [s]) (by simp)
    rw [List.length_append, List.append_assoc] at this
    exact this
/-- THE LAW: from (0, -1) on, where no sum is below 0 -/
theorem bottF_all {l : List Int} (h : l ≠ []) (h0 : ∀ x ∈ l, 0 ≤ x) : bottF 0 l (0, -1) = bott l := by
  cases l with
  | nil => exact absurd rfl h
  | cons s l =>
    have hs := h0 s (by simp)
    have e : bott [s] = (((0 : Nat) : Int), s) := by
      show (idxF (fun x => maxL [s] == x) 0 [s], maxL [s]) = _
      have : maxL [s] = s := rfl
      rw [this, idxF, if_pos (by simp)]
    rw [bottF, if_pos (by show (-1 : Int) < s; omega), ← e]
    exact bottF_bott l [s] (by simp)
theorem beginF_ge (g : Nat) (B E : List (List Int)) (hd : Int) (h : Nat) (a : Int) : a ≤ beginF g B E hd h a := by
  unfold beginF
  simp only
  split <;> split <;> omega
theorem playH_ge (g : Nat) (B E : List (List Int)) (mi : List Int) : ∀ (ho : List Int) (h : Nat) (a : Int), ∀ y ∈ playH g B E mi h ho a, y.1 ≤ y.2.1
  | [], _, _ => fun y hy => by cases hy
  | hd :: ho, h, a => fun y hy => by
    rw [playH] at hy
    rcases List.mem_cons.1 hy with rfl | hy
    · exact beginF_ge g B E hd h a
    · exact playH_ge g B E mi ho _ _ y hy
theorem at2_snoc (B : List (List Int)) (r : List Int) (i h : Nat) : at2 (B ++ [r]) i h = if i < B.length then at2 B i h else if i = B.length then r.getD h 0 else 0 := by
  unfold at2
  rw [List.getD_eq_getElem?_getD (l := B ++ [r])]
  by_cases h1 : i < B.length
  · rw [if_pos h1, List.getElem?_append_left h1, ← List.getD_eq_getElem?_getD]
  · rw [if_neg h1, List.getElem?_append_right (by omega)]
    by_cases h2 : i = B.length
    · subst h2
      rw [if_pos rfl, Nat.sub_self]; rfl
    · rw [if_neg h2, List.getElem?_eq_none (by simp; omega)]; rfl
theorem playG_ge (mi : List (List Int)) (ho : List Int) : ∀ (rds : List Int) (g : Nat) (T : Tab), T.c.length = T.b.length → (∀ i h, at2 T.c i h ≤ at2 T.b i h) → ∀ i h, at2 (playG mi ho g rds T).c i h ≤ at2 (playG mi ho g rds T).b i h
  | [], _, _, _, h => h
  | rd :: rds, g, T, hl, h => by
    rw [playG]
    refine playG_ge mi ho rds (g + 1) _ (by simp [hl]) fun i k => ?_
    show at2 (T.c ++ [_]) i k ≤ at2 (T.b ++ [_]) i k
    rw [at2_snoc, at2_snoc, hl]
    split
    · exact h i k
    · split
      · have e : ∀ (L : List (Int × Int × Int)) (f : Int × Int × Int → Int), (L.map f).getD k 0 = match L[k]? with | some y => f y | none => 0 := fun L f => by
          rw [List.getD_eq_getElem?_getD, List.getElem?_map]
          cases L[k]? <;> rfl
        rw [e, e]
        have hge := playH_ge g T.b T.e (mi.getD g []) ho 0 rd
        generalize playH g T.b T.e (mi.getD g []) 0 ho rd = L at *
        cases hy : L[k]? with
        | none => exact Int.le_refl _
        | some y => exact hge y (List.mem_of_getElem? hy)
      · exact Int.le_refl _
theorem waits_nonneg (p : PC) : ∀ x ∈ waits p, 0 ≤ x := by
  have hge := playG_ge p.mi p.ho p.rd 0 ⟨[], [], []⟩ rfl (fun i h => Int.le_refl _)
  have hw : ∀ n h, 0 ≤ waitH (played p).c (played p).b n h := by
    intro n h
    induction n with
    | zero => exact Int.le_refl _
    | succ n ih =>
      rw [waitH_succ]
      have := hge n h
      change at2 (played p).c n h ≤ at2 (played p).b n h at this
      omega
  intro x hx
  obtain ⟨h, _, rfl⟩ := List.mem_map.1 hx
  exact hw _ _
/-- the program's bottleneck, in the reference's words -/
theorem bottleneck_ref {p : PC} (h : checkPace p = 0) (h0 : 0 < p.ho.length) : bottleneck p = (bottF 0 (waits p) (0, -1), 0) := by
  have hne : waits p ≠ [] := by
    intro e
    have : (waits p).length = 0 := by rw [e]; rfl
    rw [waits, List.length_map, List.length_range] at this
    omega
  rw [bottF_all hne (waits_nonneg p), bottleneck, retE, if_neg (by simp [h])]; rfl
end Go.Sheet
/- Walk of the reference's Delays (over the contract of Times). -/
namespace Go.Proofs.YtjfhncnpmelopaaGreatDoor
open Go.RowKit Go.Mem Go.Sheet
set_option maxRecDepth 100000 in
set_option maxHeartbeats 2000000 in
theorem refDelays_any (W : World) (vr vm vh : Value) (p : PC) (h : RdPace W (· < W.heap.size) vr vm vh p) (ok : POk p) :
    Calls Tryz.prog 36 #[.agg #[vr, vm, vh]] W fun e w' => ∃ v' dl, e = .returned v' ∧ dl = delayL p 0 (played p).e ∧ St W w' [row 3 1 v' dl.length (dl.map (Value.int .i64))] := by
  have hb := (Below.refl W.heap.size W).alloc (Nat.le_refl _) (.cells #[vr, vm, vh] 56)
  have HT := Lib.hid (refTimes_any _ _ _ _ p (h.later hb) ok)
  have HTO := Lib.hid (played_ok ok)
  have HP := Lib.hid h
  have HOK := Lib.hid ok
  obtain ⟨vs, hm1, hm2⟩ := h.mi
  obtain ⟨Ar, cr, rfl, _, _, _⟩ := h.rd.open_
  obtain ⟨Am, cm, rfl, _, _, _⟩ := hm1.open_
  obtain ⟨Ah, ch, rfl, _, _, _⟩ := h.ho.open_
  have h24 : p.rd.length ≤ 24 := ok.rd24
  have h36 : p.ho.length ≤ 36 := ok.ho36
  have hn0 : 0 < p.ho.length := ok.ho0
  have hml : p.mi.length = p.rd.length := ok.mil
  generalize HRN : p.rd.length = rn at *
  generalize HMN : p.mi.length = mn at *
  generalize HHN : p.ho.length = hn at *
  have HRN := Lib.hid HRN
  have HMN := Lib.hid HMN
  have HHN := Lib.hid HHN
  have HML := Lib.hid hml
  clear h ok hm1 hm2 hml
  have k0 : (W.alloc (.cells #[.slice Ar rn cr, .slice Am mn cm, .slice Ah hn ch] 56)).cell? ⟨W.heap.size, 0, none⟩ = some (.slice Ar rn cr) := by simp
  have k1 : (W.alloc (.cells #[.slice Ar rn cr, .slice Am mn cm, .slice Ah hn ch] 56)).cell? ⟨W.heap.size, 1, none⟩ = some (.slice Am mn cm) := by simp
  have k2 : (W.alloc (.cells #[.slice Ar rn cr, .slice Am mn cm, .slice Ah hn ch] 56)).cell? ⟨W.heap.size, 2, none⟩ = some (.slice Ah hn ch) := by simp
  go_enter Tryz.func36, Tryz.ntmps36
  go_wp2_with fail
  refine HT.out.mono ?_
  rintro e w2 ⟨v1, v2, v3, rfl, hb2, _, _, hr3⟩
  generalize W.alloc (.cells #[.slice Ar rn cr, .slice Am mn cm, .slice Ah hn ch] 56) = w1 at *
  have hg := World.block_lt_of_cell? _ _ k0
  have j0 := (hb2.cell (p := ⟨W.heap.size, 0, none⟩) hg).trans k0
  have j1 := (hb2.cell (p := ⟨W.heap.size, 1, none⟩) hg).trans k1
  have j2 := (hb2.cell (p := ⟨W.heap.size, 2, none⟩) hg).trans k2
  have hg2 : W.heap.size < w2.heap.size := World.block_lt_of_cell? w2 _ j0
  have HB := Lib.hid (hb.trans (hb2.mono hb.size))
  have HPP := Lib.hid (HP.out.later HB.out)
  have HR := Lib.hid hr3
  have hel : (played p).e.length = rn := HTO.out.le
  obtain ⟨vs2, q1, q2⟩ := hr3
  rw [hel] at q1
  obtain ⟨A3, c3, rfl, _, _, _⟩ := q1.open_
  have HEL := Lib.hid hel
  clear q1 q2 hel k0 k1 k2 hb hb2 HT
  have S0 := (St.refl w2).row_nil 3 1
  go_wp2_with fail
  go_loopw [7, 6] (fun i v w' => ∃ (k : Nat) (L : List Int), k ≤ rn ∧ L.length ≤ k ∧ i = .int .i64 k ∧ St w2 w' [row 3 1 v L.length (L.map (Value.int .i64))] ∧ Hid (L ++ delayL p k ((played p).e.drop k) = delayL p 0 (played p).e)) (fun i _ _ => rn - (intOf i).toNat)
  case atStart => exact ⟨0, [], Nat.zero_le _, Nat.le_refl _, rfl, S0, rfl⟩
  case round =>
    obtain ⟨k, L, hk, hLk, rfl, S, he⟩ := hrel
    clear S0
    by_cases hlt : k < rn
    · have hbw := S.bel
      have hkE : k < (played p).e.length := by rw [HEL.out]; exact hlt
      have hr : (played p).e[k]? = some (played p).e[k] := List.getElem?_eq_getElem hkE
      have hrl : (played p).e[k].length = hn := HTO.out.e.len _ (List.getElem_mem hkE)
      obtain ⟨j, hj⟩ : ∃ j : Nat, (hn : Int) - 1 = j := ⟨hn - 1, by omega⟩
      obtain ⟨b, o, b', o', c', m, hA, k1, hc', hm, k2⟩ := rows_at (HR.out.later hbw) hr hrl (j := j) (by omega)
      cases hA
      have hmb := HTO.out.e.bd _ (List.getElem_mem hkE) m (List.mem_of_getElem? hm)
      obtain ⟨br, or_, x, hA, hx, k3⟩ := (HPP.out.rd.later hbw).int (k := k) (by rw [HRN.out]; exact hlt)
      cases hA
      have hxb := HOK.out.rdb x (List.mem_of_getElem? hx)
      have hkm : k < p.mi.length := by rw [HMN.out, HML.out]; exact hlt
      have hmr : p.mi[k]? = some (p.mi.getD k []) := by rw [List.getD_eq_getElem?_getD, List.getElem?_eq_getElem hkm, Option.getD_some]
      have HMR := Lib.hid hmr
      have hmrl := ((HOK.out.mib _ (List.mem_of_getElem? hmr)).1).trans HHN.out
      have HMRL := Lib.hid hmrl
      have hmib := (HOK.out.mib _ (List.mem_of_getElem? hmr)).2
      have HMIB := Lib.hid hmib
      have k5 := (hbw.cell (p := ⟨W.heap.size, 0, none⟩) hg2).trans j0
      have k6 := (hbw.cell (p := ⟨W.heap.size, 1, none⟩) hg2).trans j1
      have k7 := (hbw.cell (p := ⟨W.heap.size, 2, none⟩) hg2).trans j2
      have HG := fun s hs => delayL_go hr (p := p) (L := L) (t := delayL p 0 (played p).e) (m := m) (x := x) (s := s) (by rw [hrl, show hn - 1 = j by omega, List.getD_eq_getElem?_getD, hm, Option.getD_some]) (by rw [List.getD_eq_getElem?_getD, hx, Option.getD_some]) hs he.out
      have HG := Lib.hid HG
      generalize p.mi.getD k [] = ml at *
      have hkmn : k < mn := by have := HML.out; omega
      have HS := Lib.hid S
      clear hr hrl hm hx hmr hmrl hmib hkE hkm he S
      go_wp2_with fail
      go_quiet (fail)
      have HS2 := Lib.hid (HS.out.drewN nq)
      have h7 : (wr.drewN nq).cell? ⟨W.heap.size, 2, none⟩ = some (.slice Ah hn ch) := k7
      have h6 : (wr.drewN nq).cell? ⟨W.heap.size, 1, none⟩ = some (.slice Am mn cm) := k6
      clear k1 k2 k3 k5 k6 k7 HS hbw
      generalize wr.drewN nq = w3 at *
      have hmx0 : -10000 ≤ m - x ∧ m - x ≤ 8660000 := by omega
      have HMX : Hid (m - x = m - x) := rfl
      generalize hmx : m - x = mx at *
      have HMXE := Lib.hid hmx
      clear hmx
      go_wp2_with fail
      go_loop [9, 8] (fun jj nn => ∃ (t : Nat), t ≤ hn ∧ jj = .int .i64 t ∧ nn = .int .i64 (mx - sumF (ml.take t))) (fun jj _ => hn - (intOf jj).toNat)
      case atStart => exact ⟨0, Nat.zero_le _, rfl, by simp [sumF]⟩
      case round =>
        obtain ⟨t, ht, rfl, rfl⟩ := hrel
        by_cases htl : t < hn
        · obtain ⟨bm, om, bm2, om2, cm2, y, hAm, m1, hcm2, hy, m2⟩ := rows_at (HPP.out.mi.later HS2.out.bel) HMR.out HMRL.out htl
          subst hAm
          have hyb := HMIB.out y (List.mem_of_getElem? hy)
          have HSUM : Hid (sumF (ml.take (t + 1)) = sumF (ml.take t) + y) := by show _ = _; rw [take_at hy, sumF_append]; simp [sumF]
          have hsb := sumF_bd (l := ml.take t) (fun z hz => HMIB.out z (List.mem_of_mem_take hz))
          rw [List.length_take, HMRL.out] at hsb
          have hsb' : 0 ≤ sumF (ml.take t) ∧ sumF (ml.take t) ≤ 360000 := by omega
          generalize sumF (ml.take t) = s at *
          clear hsb hy
          go_wp2_with fail
          go_round
          case rel => exact ⟨t + 1, by omega, by go_num, by rw [HSUM.out]; congr 1; omega⟩
          case measure => simp [intOf]; omega
        · have htn : decide ((t : Int) < hn) = false := by simp; omega
          have hs : Hid (sumF ml = sumF (ml.take t)) := by show _ = _; rw [List.take_of_length_le (by rw [HMRL.out]; omega)]
          generalize sumF (ml.take t) = s at *
          have HG2 := Lib.hid (HG.out s hs.out)
          have hL : L.length ≤ 24 := by omega
          have S3 := HS2.out
          go_wp2_with (at_builtin; refine wpList_append_st eltI rfl _ _ rfl rfl (S3.alloc _) (k := 0) rfl rfl (rd_one (by simp)) (one_int _ _) (by omega) (by omega) ?_; intro v' w' S' _)
          go_roundw
          case rel => exact ⟨k + 1, L ++ [mx - s], by omega, by simp; omega, by go_num, by simpa using S', HG2.out⟩
          case measure => simp [intOf]; omega
    · have hkn : decide ((k : Int) < rn) = false := by simp; omega
      have HE := Lib.hid (delayL_end (by rw [HEL.out]; omega) he.out)
      have HS := Lib.hid ((St.of_below HB.out).call S)
      clear S
      go_wp2
      go_ret
      exact ⟨_, L, rfl, HE.out, HS.out⟩
end Go.Proofs.YtjfhncnpmelopaaGreatDoor
/- Walk of the reference's Bottleneck (over the contract of Times). -/
namespace Go.Sheet
theorem waits_at {p : PC} {k : Nat} (hk : k < p.ho.length) : (waits p)[k]? = some (waitH (played p).c (played p).b p.rd.length k) := by
  rw [waits, List.getElem?_map, List.getElem?_range hk]; rfl
theorem bottF_go {k : Nat} {l : List Int} {s : Int} {r t : Int × Int} (h : l[k]? = some s) (e : bottF k (l.drop k) r = t) : bottF (k + 1) (l.drop (k + 1)) (if r.2 < s then ((k : Int), s) else r) = t := by
  rw [← e, drop_at h, bottF]
theorem bottF_end {k : Nat} {l : List Int} {r t : Int × Int} (h : l.length ≤ k) (e : bottF k (l.drop k) r = t) : r = t := by
  rw [← e, List.drop_of_length_le h, bottF]
end Go.Sheet
namespace Go.Proofs.YtjfhncnpmelopaaGreatDoor
open Go.RowKit Go.Mem Go.Sheet
set_option maxRecDepth 100000 in
set_option maxHeartbeats 2000000 in
theorem refBottleneck_any (W : World) (vr vm vh : Value) (p : PC) (h : RdPace W (· < W.heap.size) vr vm vh p) (ok : POk p) :
    Calls Tryz.prog 35 #[.agg #[vr, vm, vh]] W fun e w' => e = .returned (.tuple #[.int .i64 (bottF 0 (waits p) (0, -1)).1, .int .i64 (bottF 0 (waits p) (0, -1)).2]) ∧ Below W.heap.size W w' := by
  have hb := (Below.refl W.heap.size W).alloc (Nat.le_refl _) (.cells #[vr, vm, vh] 56)
  have HT := Lib.hid (refTimes_any _ _ _ _ p (h.later hb) ok)
  have HTO := Lib.hid (played_ok ok)
  obtain ⟨vs, hm1, hm2⟩ := h.mi
  obtain ⟨Ar, cr, rfl, _, _, _⟩ := h.rd.open_
  obtain ⟨Am, cm, rfl, _, _, _⟩ := hm1.open_
  obtain ⟨Ah, ch, rfl, _, _, _⟩ := h.ho.open_
  have h24 : p.rd.length ≤ 24 := ok.rd24
  have h36 : p.ho.length ≤ 36 := ok.ho36
  have hn0 : 0 < p.ho.length := ok.ho0
  have HWA := Lib.hid (fun k => @waits_at p k)
  have HWN : Hid ((waits p).length = p.ho.length) := by show _ = _; rw [waits, List.length_map, List.length_range]
  have hWB := fun i g => waitH_bd HTO.out.c HTO.out.b (by omega) i g
  have HWB := Lib.hid hWB
  generalize HRN : p.rd.length = rn at *
  generalize HMN : p.mi.length = mn at *
  generalize HHN : p.ho.length = hn at *
  have HRN := Lib.hid HRN
  have HHN := Lib.hid HHN
  clear h ok hm1 hm2 hWB
  have k2 : (W.alloc (.cells #[.slice Ar rn cr, .slice Am mn cm, .slice Ah hn ch] 56)).cell? ⟨W.heap.size, 2, none⟩ = some (.slice Ah hn ch) := by simp
  go_enter Tryz.func35, Tryz.ntmps35
  go_wp2_with fail
  refine HT.out.mono ?_
  rintro e w2 ⟨v1, v2, v3, rfl, hb2, hr1, hr2, _⟩
  generalize W.alloc (.cells #[.slice Ar rn cr, .slice Am mn cm, .slice Ah hn ch] 56) = w1 at *
  have hg := World.block_lt_of_cell? _ _ k2
  have j2 := (hb2.cell (p := ⟨W.heap.size, 2, none⟩) hg).trans k2
  have HB := Lib.hid (hb.trans (hb2.mono hb.size))
  have HR1 := Lib.hid hr1
  have HR2 := Lib.hid hr2
  have hcl : (played p).c.length = rn := HTO.out.lc
  have hbl : (played p).b.length = rn := HTO.out.lb
  have HTC := Lib.hid HTO.out.c
  have HTB := Lib.hid HTO.out.b
  generalize (played p).c = TC at *
  generalize (played p).b = TB at *
  generalize hws : waits p = ws at *
  have HWS := Lib.hid hws
  clear hws
  obtain ⟨vsc, q1, _⟩ := hr1
  obtain ⟨vsb, q3, _⟩ := hr2
  rw [hcl] at q1
  rw [hbl] at q3
  obtain ⟨Ac, cc, rfl, _, _, _⟩ := q1.open_
  obtain ⟨Ab, cb, rfl, _, _, _⟩ := q3.open_
  have HCL := Lib.hid hcl
  have HBL := Lib.hid hbl
  clear q1 q3 hcl hbl k2 hb hb2 HT HTO
  go_wp2_with fail
  go_loopw [9, 7, 8] (fun i vb vm w' => ∃ (k q : Nat) (r : Int × Int), k ≤ hn ∧ i = .int .i64 k ∧ vb = .int .i64 r.1 ∧ vm = .int .i64 r.2 ∧ w' = w2.drewN q ∧ Hid (bottF k (ws.drop k) r = bottF 0 ws (0, -1))) (fun i _ _ _ => hn - (intOf i).toNat)
  case atStart => exact ⟨0, 0, (0, -1), Nat.zero_le _, rfl, rfl, rfl, rfl, rfl⟩
  case round =>
    obtain ⟨k, q, r, hk, rfl, rfl, rfl, rfl, he⟩ := hrel
    obtain ⟨r1, r2⟩ := r
    have c2 : (w2.drewN q).cell? ⟨W.heap.size, 2, none⟩ = some (.slice Ah hn ch) := j2
    by_cases hlt : k < hn
    · have HWK := Lib.hid (HWA.out k hlt)
      have hbd := HWB.out k rn
      dsimp only
      go_wp2_with fail
      go_loopw [11, 10] (fun i vs w' => ∃ (g q' : Nat), g ≤ rn ∧ i = .int .i64 g ∧ vs = .int .i64 (waitH TC TB g k) ∧ w' = w2.drewN q') (fun i _ _ => rn - (intOf i).toNat)
      case atStart => exact ⟨0, q, Nat.zero_le _, rfl, rfl, rfl⟩
      case round =>
        obtain ⟨g, q', hg', rfl, rfl, rfl⟩ := hrel
        by_cases hgl : g < rn
        · have hkC : g < TC.length := by rw [HCL.out]; exact hgl
          have hkB : g < TB.length := by rw [HBL.out]; exact hgl
          have hbq := below_drewN (Below.refl w2.heap.size w2) q'
          obtain ⟨b, o, b', o', c', m, hA, k1, hc', hm, k2⟩ := rows_at (HR1.out.later hbq) (List.getElem?_eq_getElem hkC) (HTC.out.len _ (List.getElem_mem hkC)) hlt
          cases hA
          obtain ⟨bb, ob, bb', ob', cb', mb, hA, k3, hcb', hmb, k4⟩ := rows_at (HR2.out.later hbq) (List.getElem?_eq_getElem hkB) (HTB.out.len _ (List.getElem_mem hkB)) hlt
          cases hA
          have hmB := HTC.out.bd _ (List.getElem_mem hkC) m (List.mem_of_getElem? hm)
          have hmbB := HTB.out.bd _ (List.getElem_mem hkB) mb (List.mem_of_getElem? hmb)
          have HE : Hid (waitH TC TB (g + 1) k = waitH TC TB g k + (mb - m)) := by
            show _ = _
            rw [waitH_succ, at2, at2, show TB.getD g [] = TB[g] by rw [List.getD_eq_getElem?_getD, List.getElem?_eq_getElem hkB, Option.getD_some], show TC.getD g [] = TC[g] by rw [List.getD_eq_getElem?_getD, List.getElem?_eq_getElem hkC, Option.getD_some],
              List.getD_eq_getElem?_getD, List.getD_eq_getElem?_getD, hm, hmb, Option.getD_some, Option.getD_some]
          have hwb := HWB.out k g
          have hw1 : -206400000 ≤ waitH TC TB g k ∧ waitH TC TB g k ≤ 207600000 := by
            have e1 : (10000 + 360000 * (rn : Int)) * g ≤ 8650000 * g := Int.mul_le_mul_of_nonneg_right (by omega) (by omega)
            rw [Int.neg_mul] at hwb
            omega
          have hw2 : -8650000 ≤ mb - m ∧ mb - m ≤ 8650000 := by omega
          generalize waitH TC TB g k = wh at *
          clear hm hmb hkC hkB hwb hmB hmbB hbq hbd c2
          generalize hw5 : w2.drewN q' = w5 at *
          have HW5 := Lib.hid hw5
          clear hw5
          go_wp2_with fail
          go_quiet (fail)
          go_wp2
          go_roundw
          case rel => exact ⟨g + 1, q' + nq, by omega, by go_num, by rw [HE.out], by rw [← HW5.out]; first | rfl | exact World.drewN_drewN _ _ _⟩
          case measure => simp [intOf]; omega
        · have hgn : decide ((g : Int) < rn) = false := by simp; omega
          obtain rfl : g = rn := by omega
          have HN := Lib.hid (bottF_go HWK.out he.out)
          generalize waitH TC TB g k = s at *
          dsimp only at HN
          by_cases hs : r2 < s
          · have HN2 : Hid (bottF (k + 1) (ws.drop (k + 1)) ((k : Int), s) = bottF 0 ws (0, -1)) := by have := HN.out; rw [if_pos hs] at this; exact this
            clear HN
            go_wp2
            go_roundw
            case rel => exact ⟨k + 1, q', ((k : Int), s), by omega, by go_num, rfl, rfl, rfl, HN2.out⟩
            case measure => simp [intOf]; omega
          · have HN2 : Hid (bottF (k + 1) (ws.drop (k + 1)) (r1, r2) = bottF 0 ws (0, -1)) := by have := HN.out; rw [if_neg hs] at this; exact this
            clear HN
            go_wp2
            go_roundw
            case rel => exact ⟨k + 1, q', (r1, r2), by omega, by go_num, rfl, rfl, rfl, HN2.out⟩
            case measure => simp [intOf]; omega
    · have hkn : decide ((k : Int) < hn) = false := by simp; omega
      have HE := Lib.hid (bottF_end (by rw [HWN.out]; omega) he.out)
      have HBF := Lib.hid (HB.out.trans (below_drewN (Below.refl w2.heap.size w2) q |>.mono HB.out.size))
      dsimp only
      go_wp2
      go_ret2
      refine ⟨?_, HBF.out⟩
      have e1 : bottF 0 (waits p) (0, -1) = (r1, r2) := by rw [HWS.out, ← HE.out]
      first | rw [e1]; rfl | (rw [← HE.out]; rfl)
end Go.Proofs.YtjfhncnpmelopaaGreatDoor
/- The law SheetPaces, walked. -/
namespace Go.Proofs.YtjfhncnpmelopaaGreatDoor
open Go.RowKit Go.Mem Go.Sheet
/-- a block of three cells -/
def Box3 (w : World) (g : Nat) (a b c : Value) : Prop := w.cell? ⟨g, 0, none⟩ = some a ∧ w.cell? ⟨g, 1, none⟩ = some b ∧ w.cell? ⟨g, 2, none⟩ = some c
theorem Box3.later {w w' : World} {g : Nat} {a b c : Value} (h : Box3 w g a b c) (hb : Below w.heap.size w w') : Box3 w' g a b c := by
  have hg := World.block_lt_of_cell? w _ h.1
  exact ⟨(hb.cell (p := ⟨g, 0, none⟩) hg).trans h.1, (hb.cell (p := ⟨g, 1, none⟩) hg).trans h.2.1, (hb.cell (p := ⟨g, 2, none⟩) hg).trans h.2.2⟩
/-- what the law's first lines give: two copies of the pace -/
structure PEnv (W w : World) (g1 g2 : Nat) (vr vm vh : Value) (p : PC) : Prop where
  bel : Below W.heap.size W w
  b1 : Box3 w g1 vr vm vh
  b2 : Box3 w g2 vr vm vh
  rd : RdPace w (· < w.heap.size) vr vm vh p
theorem PEnv.later {W w w' : World} {g1 g2 : Nat} {vr vm vh : Value} {p : PC} (h : PEnv W w g1 g2 vr vm vh p) (hb : Below w.heap.size w w') : PEnv W w' g1 g2 vr vm vh p :=
  ⟨h.bel.trans (hb.mono h.bel.size), h.b1.later hb, h.b2.later hb, h.rd.later hb⟩
theorem rows_open {w : World} {F : Nat → Prop} {v : Value} {l : List (List Int)} (h : RdRows w F v l) : ∃ A c, v = .slice A l.length c := by
  obtain ⟨vs, h1, _⟩ := h
  obtain ⟨A, c, e, _⟩ := h1.open_
  exact ⟨A, c, e⟩
set_option maxRecDepth 100000 in
set_option maxHeartbeats 8000000 in
theorem sheetPaces_any (W : World) (vr vm vh : Value) (p : PC) (h : RdPace W (· < W.heap.size) vr vm vh p) :
    Calls Tryz.prog 5 #[.agg #[vr, vm, vh]] W fun e w' => e = .returned (.bool true) ∧ Below W.heap.size W w' := by
  have HP := Lib.hid h
  obtain ⟨vs, hm1, hm2⟩ := h.mi
  obtain ⟨Ar, cr, rfl, _, _, _⟩ := h.rd.open_
  obtain ⟨Am, cm, rfl, _, _, _⟩ := hm1.open_
  obtain ⟨Ah, ch, rfl, _, _, _⟩ := h.ho.open_
  generalize p.rd.length = rn at *
  generalize p.mi.length = mn at *
  generalize p.ho.length = hn at *
  clear h hm1 hm2
  go_enter Tryz.func5, Tryz.ntmps5
  go_wp2_with fail
  have hb0 := ((Below.refl W.heap.size W).alloc (Nat.le_refl _) (.cells #[.slice Ar rn cr, .slice Am mn cm, .slice Ah hn ch] 55)).alloc (by simp) (.cells #[.slice Ar rn cr, .slice Am mn cm, .slice Ah hn ch] 56)
  have HE0 : Hid (PEnv W ((W.alloc (.cells #[.slice Ar rn cr, .slice Am mn cm, .slice Ah hn ch] 55)).alloc (.cells #[.slice Ar rn cr, .slice Am mn cm, .slice Ah hn ch] 56)) W.heap.size (W.heap.size + 1) (.slice Ar rn cr) (.slice Am mn cm) (.slice Ah hn ch) p) :=
    ⟨hb0, ⟨by simp, by simp, by simp⟩, ⟨by simp, by simp, by simp⟩, HP.out.later hb0⟩
  generalize (W.alloc (.cells #[.slice Ar rn cr, .slice Am mn cm, .slice Ah hn ch] 55)).alloc (.cells #[.slice Ar rn cr, .slice Am mn cm, .slice Ah hn ch] 56) = w0 at *
  generalize W.heap.size + 1 = g2 at *
  have HG1 : Hid (W.heap.size = W.heap.size) := rfl
  generalize hg1 : W.heap.size = g1 at HE0 ⊢
  clear hb0 HP HG1 hg1
  refine (awake_any w0).mono ?_
  rintro e w1 ⟨rfl, hb1⟩
  have HE1 := Lib.hid (HE0.out.later hb1)
  clear HE0 hb1
  obtain ⟨p0, p1, p2⟩ := HE1.out.b2
  go_wp2_with fail
  clear p0 p1 p2
  refine (refShortPace_any w1 _ _ _ p HE1.out.rd).mono ?_
  rintro e w2 ⟨⟨b, rfl⟩, hb2⟩
  have HE2 := Lib.hid (HE1.out.later hb2)
  clear HE1 hb2
  cases b with
  | false =>
    go_wp2_with fail
    refine (awake_any w2).mono ?_
    rintro e w3 ⟨rfl, hb3⟩
    have hbW := HE2.out.bel.trans (hb3.mono HE2.out.bel.size)
    go_wp2
    go_ret
    exact ⟨rfl, hbW⟩
  | true =>
    obtain ⟨p0, p1, p2⟩ := HE2.out.b2
    go_wp2_with fail
    clear p0 p1 p2
    refine (refCheckPace_any w2 _ _ _ p HE2.out.rd).mono ?_
    rintro e w3 ⟨rfl, hb3⟩
    have HE3 := Lib.hid (HE2.out.later hb3)
    clear HE2 hb3
    have HC4 := Lib.hid (begins_any w3 _ _ _ p HE3.out.rd)
    have HDL : Hid (∀ w, RdPace w (· < w.heap.size) (.slice Ar rn cr) (.slice Am mn cm) (.slice Ah hn ch) p → Calls Tryz.prog 30 #[.agg #[.slice Ar rn cr, .slice Am mn cm, .slice Ah hn ch]] w (RetInts w (delays p))) := fun w h => delays_any w _ _ _ p h
    have HEN : Hid (∀ w, RdPace w (· < w.heap.size) (.slice Ar rn cr) (.slice Am mn cm) (.slice Ah hn ch) p → Calls Tryz.prog 29 #[.agg #[.slice Ar rn cr, .slice Am mn cm, .slice Ah hn ch]] w (RetRows w (ends p))) := fun w h => ends_any w _ _ _ p h
    have HBO : Hid (∀ w, RdPace w (· < w.heap.size) (.slice Ar rn cr) (.slice Am mn cm) (.slice Ah hn ch) p → Calls Tryz.prog 31 #[.agg #[.slice Ar rn cr, .slice Am mn cm, .slice Ah hn ch]] w fun e w' => e = .returned (.tuple #[.int .i64 (bottleneck p).1.1, .int .i64 (bottleneck p).1.2, .int .i64 (bottleneck p).2]) ∧ Below w.heap.size w w') := fun w h => bottleneck_any w _ _ _ p h
    have HCP : Hid (∀ w, RdPace w (· < w.heap.size) (.slice Ar rn cr) (.slice Am mn cm) (.slice Ah hn ch) p → Calls Tryz.prog 32 #[.agg #[.slice Ar rn cr, .slice Am mn cm, .slice Ah hn ch]] w fun e w' => e = .returned (.int .i64 (checkPace p)) ∧ Below w.heap.size w w') := fun w h => checkPace_any w _ _ _ p h
    have HREF : Hid (checkPace p = 0 → POk p ∧ begins p = ((played p).b, 0) ∧ ends p = ((played p).e, 0) ∧ delays p = (delayL p 0 (played p).e, 0) ∧ bottleneck p = (bottF 0 (waits p) (0, -1), 0)) := fun h => ⟨pok_of h, by rw [begins, retE, if_neg (by simpa using h)], by rw [ends, retE, if_neg (by simpa using h)], by rw [delays, retE, if_neg (by simpa using h)], bottleneck_ref h (pok_of h).ho0⟩
    have HERR : Hid (checkPace p ≠ 0 → begins p = ([], checkPace p) ∧ ends p = ([], checkPace p) ∧ delays p = ([], checkPace p) ∧ bottleneck p = ((0, 0), checkPace p)) := fun h => ⟨by rw [begins, retE, if_pos h], by rw [ends, retE, if_pos h], by rw [delays, retE, if_pos h], by rw [bottleneck, retE, if_pos h]⟩
    have HREFT : Hid (POk p → (∀ w, RdPace w (· < w.heap.size) (.slice Ar rn cr) (.slice Am mn cm) (.slice Ah hn ch) p → Calls Tryz.prog 34 #[.agg #[.slice Ar rn cr, .slice Am mn cm, .slice Ah hn ch]] w fun e w' => ∃ v1 v2 v3, e = .returned (.tuple #[v1, v2, v3]) ∧ Below w.heap.size w w' ∧ RdRows w' (· < w'.heap.size) v1 (played p).c ∧ RdRows w' (· < w'.heap.size) v2 (played p).b ∧ RdRows w' (· < w'.heap.size) v3 (played p).e)
      ∧ (∀ w, RdPace w (· < w.heap.size) (.slice Ar rn cr) (.slice Am mn cm) (.slice Ah hn ch) p → Calls Tryz.prog 35 #[.agg #[.slice Ar rn cr, .slice Am mn cm, .slice Ah hn ch]] w fun e w' => e = .returned (.tuple #[.int .i64 (bottF 0 (waits p) (0, -1)).1, .int .i64 (bottF 0 (waits p) (0, -1)).2]) ∧ Below w.heap.size w w')
      ∧ (∀ w, RdPace w (· < w.heap.size) (.slice Ar rn cr) (.slice Am mn cm) (.slice Ah hn ch) p → Calls Tryz.prog 36 #[.agg #[.slice Ar rn cr, .slice Am mn cm, .slice Ah hn ch]] w fun e w' => ∃ v' dl, e = .returned v' ∧ dl = delayL p 0 (played p).e ∧ St w w' [row 3 1 v' dl.length (dl.map (Value.int .i64))])) :=
      fun ok => ⟨fun w h => refTimes_any w _ _ _ p h ok, fun w h => refBottleneck_any w _ _ _ p h ok, fun w h => refDelays_any w _ _ _ p h ok⟩
    generalize begins p = BG at *
    generalize ends p = EN at *
    generalize delays p = DL at *
    generalize bottleneck p = BO at *
    generalize checkPace p = E at *
    generalize delayL p 0 (played p).e = dlR at *
    generalize bottF 0 (waits p) (0, -1) = boR at *
    generalize (played p).b = TB at *
    generalize (played p).e = TE at *
    obtain ⟨p0, p1, p2⟩ := HE3.out.b1
    go_wp2_with fail
    clear p0 p1 p2
    refine HC4.out.mono ?_
    rintro e w4 ⟨v4, rfl, hb4, hr4⟩
    have HE4 := Lib.hid (HE3.out.later hb4)
    have HR4 := Lib.hid hr4
    clear HE3 HC4 hb4 hr4
    obtain ⟨p0, p1, p2⟩ := HE4.out.b1
    go_wp2_with fail
    clear p0 p1 p2
    refine (HEN.out w4 HE4.out.rd).mono ?_
    rintro e w5 ⟨v5, rfl, hb5, hr5⟩
    have HE5 := Lib.hid (HE4.out.later hb5)
    have HR5 := Lib.hid hr5
    have HR45 := Lib.hid (HR4.out.later hb5)
    clear HE4 HR4 hb5 hr5 HEN
    obtain ⟨p0, p1, p2⟩ := HE5.out.b1
    go_wp2_with fail
    clear p0 p1 p2
    refine (HDL.out w5 HE5.out.rd).mono ?_
    rintro e w6 ⟨v6, rfl, S6⟩
    have hb6 := S6.bel
    have HE6 := Lib.hid (HE5.out.later hb6)
    have HR6 := Lib.hid ((S6.row_rd (i := 0) rfl).now)
    have HR46 := Lib.hid (HR45.out.later hb6)
    have HR56 := Lib.hid (HR5.out.later hb6)
    clear HE5 HR5 HR45 S6 hb6 HDL
    obtain ⟨p0, p1, p2⟩ := HE6.out.b1
    go_wp2_with fail
    clear p0 p1 p2
    refine (HBO.out w6 HE6.out.rd).mono ?_
    rintro e w7 ⟨rfl, hb7⟩
    have HE7 := Lib.hid (HE6.out.later hb7)
    have HR47 := Lib.hid (HR46.out.later hb7)
    have HR57 := Lib.hid (HR56.out.later hb7)
    have HR67 := Lib.hid (HR6.out.later hb7)
    clear HE6 HR46 HR56 HR6 hb7 HBO
    obtain ⟨p0, p1, p2⟩ := HE7.out.b1
    go_wp2_with fail
    clear p0 p1 p2
    refine (HCP.out w7 HE7.out.rd).mono ?_
    rintro e w8 ⟨rfl, hb8⟩
    have HE8 := Lib.hid (HE7.out.later hb8)
    have HR48 := Lib.hid (HR47.out.later hb8)
    have HR58 := Lib.hid (HR57.out.later hb8)
    have HR68 := Lib.hid (HR67.out.later hb8)
    clear HE7 HR47 HR57 HR67 hb8 HCP
    obtain ⟨A4, c4, h4⟩ := rows_open HR48.out
    obtain ⟨A5, c5, h5⟩ := rows_open HR58.out
    obtain ⟨A6, c6, h6, _⟩ := HR68.out.open_
    obtain ⟨BO1, BO2⟩ := BO
    obtain ⟨k1, k2⟩ := BO1
    obtain ⟨BG1, BG2⟩ := BG
    obtain ⟨EN1, EN2⟩ := EN
    obtain ⟨DL1, DL2⟩ := DL
    dsimp only at *
    subst h4 h5 h6
    by_cases hE : E = 0
    · subst hE
      obtain ⟨ok, e1, e2, e3, e4⟩ := HREF.out rfl
      injection e1 with e11 e12
      injection e2 with e21 e22
      injection e3 with e31 e32
      injection e4 with e41 e42
      subst e11 e12 e21 e22 e31 e32 e42
      obtain ⟨HRT, HRB, HRD⟩ := HREFT.out ok
      have HRT := Lib.hid HRT
      have HRB := Lib.hid HRB
      have HRD := Lib.hid HRD
      clear HREF HERR HREFT
      subst e41
      obtain ⟨p0, p1, p2⟩ := HE8.out.b2
      go_wp2_with fail
      clear p0 p1 p2
      refine (HRT.out w8 HE8.out.rd).mono ?_
      rintro e w9 ⟨v9, v10, v11, rfl, hb9, _, hr10, hr11⟩
      have HE9 := Lib.hid (HE8.out.later hb9)
      have HR49 := Lib.hid (HR48.out.later hb9)
      have HR59 := Lib.hid (HR58.out.later hb9)
      have HR69 := Lib.hid (HR68.out.later hb9)
      have HR10 := Lib.hid hr10
      have HR11 := Lib.hid hr11
      clear HE8 HR48 HR58 HR68 hb9 hr10 hr11 HRT
      obtain ⟨p0, p1, p2⟩ := HE9.out.b2
      go_wp2_with fail
      clear p0 p1 p2
      refine (HRB.out w9 HE9.out.rd).mono ?_
      rintro e w10 ⟨rfl, hb10⟩
      have HE10 := Lib.hid (HE9.out.later hb10)
      have HR4a := Lib.hid (HR49.out.later hb10)
      have HR5a := Lib.hid (HR59.out.later hb10)
      have HR6a := Lib.hid (HR69.out.later hb10)
      have HRBa := Lib.hid (HR10.out.later hb10)
      have HREa := Lib.hid (HR11.out.later hb10)
      clear HE9 HR49 HR59 HR69 HR10 HR11 hb10 HRB
      obtain ⟨Ab, cb, hvb⟩ := rows_open HRBa.out
      obtain ⟨Ae, ce, hve⟩ := rows_open HREa.out
      subst hvb hve
      have HT1 := Lib.hid (table_yes (l := BG1) (e := 0) (bad := 0) (want := BG1) (fun h => absurd rfl h) (fun _ => ⟨rfl, rfl⟩))
      have HT2 := Lib.hid (table_yes (l := EN1) (e := 0) (bad := 0) (want := EN1) (fun h => absurd rfl h) (fun _ => ⟨rfl, rfl⟩))
      have HT3 := Lib.hid (list_yes (l := DL1) (e := 0) (bad := 0) (want := DL1) (fun h => absurd rfl h) (fun _ => ⟨rfl, rfl⟩))
      have HI1 := Lib.hid (integer_yes (n := k2) (e := 0) (bad := 0) (want := k2) (fun h => absurd rfl h) (fun _ => ⟨rfl, rfl⟩))
      have HC1 := Lib.hid (table_any w10 _ _ _ _ BG1 BG1 0 0 HR4a.out HRBa.out)
      rw [HT1.out] at HC1
      go_wp2_with fail
      refine HC1.out.mono ?_
      rintro e w11 ⟨rfl, ⟨q1, rfl⟩⟩
      have hd1 : Below w10.heap.size w10 (w10.drewN q1) := below_drewN (Below.refl _ _) q1
      have HE11 := Lib.hid (HE10.out.later hd1)
      have HC2 := Lib.hid (table_any (w10.drewN q1) _ _ _ _ EN1 EN1 0 0 (HR5a.out.later hd1) (HREa.out.later hd1))
      rw [HT2.out] at HC2
      have HR6b := Lib.hid (HR6a.out.later hd1)
      clear HE10 HC1 HR4a HR5a HR6a HRBa HREa hd1
      generalize w10.drewN q1 = w11 at *
      go_wp2_with fail
      refine HC2.out.mono ?_
      rintro e w12 ⟨rfl, ⟨q2, rfl⟩⟩
      have hd2 : Below w11.heap.size w11 (w11.drewN q2) := below_drewN (Below.refl _ _) q2
      have HE12 := Lib.hid (HE11.out.later hd2)
      have HR6c := Lib.hid (HR6b.out.later hd2)
      clear HE11 HC2 HR6b hd2
      generalize w11.drewN q2 = w12 at *
      obtain ⟨p0, p1, p2⟩ := HE12.out.b2
      go_wp2_with fail
      clear p0 p1 p2
      refine (HRD.out w12 HE12.out.rd).mono ?_
      rintro e w13 ⟨v13, dl, rfl, hdl, S13⟩
      subst hdl
      have hb13 := S13.bel
      have HE13 := Lib.hid (HE12.out.later hb13)
      have HC3 := Lib.hid (list_any w13 _ _ _ _ dl dl 0 0 (HR6c.out.later hb13) (S13.row_rd (i := 0) rfl))
      rw [HT3.out] at HC3
      clear HE12 HR6c S13 hb13 HRD
      go_wp2_with fail
      refine HC3.out.mono ?_
      rintro e w14 ⟨rfl, ⟨q3, rfl⟩⟩
      have hbW := HE13.out.bel.trans (below_drewN (Below.refl _ _) q3 |>.mono HE13.out.bel.size)
      clear HE13 HC3
      generalize w13.drewN q3 = w14 at *
      go_wp2_with fail
      refine (integer_any _ _ _ _ _).mono ?_
      rw [HI1.out]
      rintro e w' ⟨rfl, rfl⟩
      go_wp2
      go_ret
      exact ⟨rfl, hbW⟩
    · have hE' : (E != 0) = true := by simpa using hE
      obtain ⟨e1, e2, e3, e4⟩ := HERR.out hE
      injection e1 with e11 e12
      injection e2 with e21 e22
      injection e3 with e31 e32
      injection e4 with e41 e42
      injection e41 with e43 e44
      subst e11 e21 e31 e43 e44
      have HE12' := Lib.hid e12
      have HE22' := Lib.hid e22
      have HE32' := Lib.hid e32
      have HE42' := Lib.hid e42
      clear HREF HERR HREFT e12 e22 e32 e42
      have HT1 := Lib.hid (table_yes (l := ([] : List (List Int))) (e := BG2) (bad := E) (want := []) (fun _ => ⟨rfl, HE12'.out⟩) (fun h => absurd h hE))
      have HT2 := Lib.hid (table_yes (l := ([] : List (List Int))) (e := EN2) (bad := E) (want := []) (fun _ => ⟨rfl, HE22'.out⟩) (fun h => absurd h hE))
      have HT3 := Lib.hid (list_yes (l := ([] : List Int)) (e := DL2) (bad := E) (want := []) (fun _ => ⟨rfl, HE32'.out⟩) (fun h => absurd h hE))
      have HI1 := Lib.hid (integer_yes (n := 0) (e := BO2) (bad := E) (want := 0) (fun _ => ⟨rfl, HE42'.out⟩) (fun h => absurd h hE))
      have HC1 := Lib.hid (table_any w8 _ _ _ _ [] [] BG2 E HR48.out (RdRows.nil w8))
      rw [HT1.out] at HC1
      clear hE
      simp only [List.length_nil] at *
      go_wp2_with fail
      refine HC1.out.mono ?_
      rintro e w11 ⟨rfl, ⟨q1, rfl⟩⟩
      have hd1 : Below w8.heap.size w8 (w8.drewN q1) := below_drewN (Below.refl _ _) q1
      have HE11 := Lib.hid (HE8.out.later hd1)
      have HC2 := Lib.hid (table_any (w8.drewN q1) _ _ _ _ [] [] EN2 E (HR58.out.later hd1) (RdRows.nil _))
      rw [HT2.out] at HC2
      have HR6b := Lib.hid (HR68.out.later hd1)
      clear HE8 HC1 HR48 HR58 HR68 hd1
      generalize w8.drewN q1 = w11 at *
      go_wp2_with fail
      refine HC2.out.mono ?_
      rintro e w12 ⟨rfl, ⟨q2, rfl⟩⟩
      have hd2 : Below w11.heap.size w11 (w11.drewN q2) := below_drewN (Below.refl _ _) q2
      have HE12 := Lib.hid (HE11.out.later hd2)
      have HC3 := Lib.hid (list_any (w11.drewN q2) _ _ _ _ [] [] DL2 E (HR6b.out.later hd2) (Rd.nil (w11.drewN q2) (fun _ => True) 1))
      rw [HT3.out] at HC3
      clear HE11 HC2 HR6b hd2
      generalize w11.drewN q2 = w12 at *
      go_wp2_with fail
      refine HC3.out.mono ?_
      rintro e w14 ⟨rfl, ⟨q3, rfl⟩⟩
      have hbW := HE12.out.bel.trans (below_drewN (Below.refl _ _) q3 |>.mono HE12.out.bel.size)
      clear HE12 HC3
      generalize w12.drewN q3 = w14 at *
      go_wp2_with fail
      refine (integer_any _ _ _ _ _).mono ?_
      rw [HI1.out]
      rintro e w' ⟨rfl, rfl⟩
      go_wp2
      go_ret
      exact ⟨rfl, hbW⟩
end Go.Proofs.YtjfhncnpmelopaaGreatDoor
