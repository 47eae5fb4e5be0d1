/- Part 38 of the walks of the golf union's program: QA8, QA9, Args4. -/
import Derived.Test.YtlffgdmljioaoaaGreatDoorD37
import Derived.Test.YtlffgdmljioaoaaGreatDoorD36
import Derived.Test.YtlffgdmljioaoaaGreatDoorD30
import Derived.Test.YtlffgdmljioaoaaGreatDoorD27
set_option linter.unusedVariables false
set_option linter.unusedSimpArgs false
set_option linter.unusedSectionVars false
set_option linter.constructorNameAsVariable false
/- The law's walk: SheetAlgebra. -/
namespace Go.Proofs.YtlffgdmljioaoaaGreatDoor
open Go.RowKit Go.Mem Go.Sheet
def AlgGood (a b : IMat) (x : List Int) : Prop := a.length ≤ 5 ∧ b.length = a.length ∧ matE a = 0 ∧ matE b = 0 ∧ listE a x = 0 ∧ tameM a = true ∧ tameM b = true ∧ tameM [x] = true
theorem rows_one {w : World} {v : Value} {x : List Int} {t : TypeId} (h : Rd w (· < w.heap.size) 1 v x.length (x.map (Value.int .i64))) : RdRows (w.alloc (.cells #[v] t)) (· < (w.alloc (.cells #[v] t)).heap.size) (.slice (some ⟨w.heap.size, 0, none⟩) 1 1) [x] := by
  refine ⟨[v], rd_new (m := 1) w #[v] t rfl (by omega) _ (by simp), fun i u r hu hr => ?_⟩
  cases i with
  | zero =>
    simp only [List.getElem?_cons_zero, Option.some.injEq] at hu hr
    subst hu hr
    exact h.later ((Below.refl _ _).alloc (Nat.le_refl _) _)
  | succ i => simp at hu
set_option maxRecDepth 100000 in
set_option maxHeartbeats 0 in
theorem sheetAlgebra_any (W : World) (va vb vl : Value) (a b : IMat) (x : List Int) (z : Int) (hI : ∀ w, Below W.heap.size W w → ∀ s, -1000000000000000 ≤ s → s ≤ 1000000000000000 → ItoaAt s (tB (Lib.itoa s)) w)
    (ha : RdRows W (· < W.heap.size) va a) (hb : RdRows W (· < W.heap.size) vb b) (hx : Rd W (· < W.heap.size) 1 vl x.length (x.map (Value.int .i64))) :
    Calls Tryz.prog 4 #[va, vb, .agg #[vl, .int .i64 z]] W fun e w' => e = .returned (.bool true) ∧ Below W.heap.size W w' := by
  have HI := Lib.hid hI
  have HA := Lib.hid ha
  have HB := Lib.hid hb
  have HX := Lib.hid hx
  clear hI
  obtain ⟨vsa, g1, _⟩ := id ha
  obtain ⟨vsb, g2, _⟩ := id hb
  have hla := g1.le
  have hlb := g2.le
  have hlx := hx.le
  obtain ⟨Aa, ca, rfl, _, _, _⟩ := g1.open_
  obtain ⟨Ab, cb, rfl, _, _, _⟩ := g2.open_
  obtain ⟨Ax, cx, rfl, _, _, _⟩ := hx.open_
  clear g1 g2 ha hb hx
  have S0 := (St.refl W).blk_new #[.slice Ax x.length cx, .int .i64 z] 45
  simp only [List.nil_append] at S0
  have HS0 := Lib.hid S0
  clear S0
  have HAW : Hid (∀ w, Below W.heap.size W w → Calls Tryz.prog 5 #[] w fun e w' => e = .returned (.bool true) ∧ Below W.heap.size W w') :=
    fun w hb => (awake_any w).mono fun e w' ⟨p, q⟩ => ⟨p, hb.trans (q.mono hb.size)⟩
  have HGD : Hid (a.length ≤ 5 → b.length = a.length → matE a = 0 → matE b = 0 → listE a x = 0 → tameM a = true → tameM b = true → tameM [x] = true → AlgGood a b x) := Lib.hid (fun h1 h2 h3 h4 h5 h6 h7 h8 => ⟨h1, h2, h3, h4, h5, h6, h7, h8⟩)
  obtain ⟨n, hn⟩ : ∃ n, n = a.length := ⟨_, rfl⟩
  obtain ⟨nb, hnb⟩ : ∃ nb, nb = b.length := ⟨_, rfl⟩
  obtain ⟨nx, hnx⟩ : ∃ nx, nx = x.length := ⟨_, rfl⟩
  rw [← hn] at HA HGD hla ⊢
  rw [← hnb] at HB HGD hlb ⊢
  rw [← hnx] at HX HS0 hlx ⊢
  have HN := Lib.hid hn
  have HNB := Lib.hid hnb
  have HNX := Lib.hid hnx
  clear hn hnb hnx
  go_enter Tryz.func4, Tryz.ntmps4
  go_upto_region 1 with fail
  go_cut [85] from 38 to 85 (fun d wx => ∃ g : Bool, d = .bool g ∧ Hid (g = false → AlgGood a b x) ∧ Hid (St W wx [blk W.heap.size 45 #[.slice Ax nx cx, .int .i64 z]]))
  case first =>
    go_wp2_with fail
    refine (awake_any _).mono ?_
    rintro e w1 ⟨rfl, hb1⟩
    have S1 := HS0.out.ext hb1
    have d0 := S1.blk_cell (i := 0) rfl 0
    have HS1 := Lib.hid S1
    have HB1 := Lib.hid S1.bel
    clear hb1 HS0 S1
    have HCA := Lib.hid (refCheckMatrix_any w1 _ a (HA.out.later HB1.out))
    have HCB := Lib.hid (refCheckMatrix_any w1 _ b (HB.out.later HB1.out))
    have HCL := Lib.hid (refCheckList_any w1 _ (.slice Ax nx cx) a x (HA.out.later HB1.out) (by rw [← HNX.out]; exact HX.out.later HB1.out))
    have HTA := Lib.hid (tame_any w1 _ a (HA.out.later HB1.out))
    have HTB := Lib.hid (tame_any w1 _ b (HB.out.later HB1.out))
    have HTX := Lib.hid (tame_any (w1.alloc (.cells #[.slice Ax nx cx] 23)) _ [x] (rows_one (t := 23) (by rw [← HNX.out]; exact HX.out.later HB1.out)))
    by_cases h1 : 5 < n
    · have t1 : decide (5 < (n : Int)) = true := by simp; omega
      go_wp2_with fail
      go_meet
      case rel => exact ⟨true, rfl, Lib.hid (fun h => by cases h), HS1.out⟩
    have t1 : decide (5 < (n : Int)) = false := by simp; omega
    by_cases h2 : nb = n
    · subst h2
      have t2 : ((nb : Int) != (nb : Int)) = false := by simp
      go_wp2_with fail
      refine HCA.out.mono ?_
      rintro e w' ⟨rfl, rfl⟩
      by_cases h3 : matE a = 0
      · rw [h3]
        go_wp2_with fail
        refine HCB.out.mono ?_
        rintro e w' ⟨rfl, rfl⟩
        by_cases h4 : matE b = 0
        · rw [h4]
          go_wp2_with fail
          refine HCL.out.mono ?_
          rintro e w' ⟨rfl, rfl⟩
          by_cases h5 : listE a x = 0
          · rw [h5]
            go_wp2_with fail
            refine HTA.out.mono ?_
            rintro e w' ⟨rfl, rfl⟩
            by_cases h6 : tameM a = true
            · rw [h6]
              go_wp2_with fail
              refine HTB.out.mono ?_
              rintro e w' ⟨rfl, rfl⟩
              by_cases h7 : tameM b = true
              · rw [h7]
                go_wp2_with fail
                refine HTX.out.mono ?_
                rintro e w' ⟨rfl, rfl⟩
                by_cases h8 : tameM [x] = true
                · rw [h8]
                  have HGG := Lib.hid (HGD.out (by omega) (by first | trivial | rfl | omega) h3 h4 h5 h6 h7 h8)
                  have HSE := Lib.hid (HS1.out.alloc (.cells #[.slice Ax nx cx] 23))
                  go_wp2_with fail
                  go_meet
                  case rel => exact ⟨false, rfl, Lib.hid (fun _ => HGG.out), HSE.out⟩
                · have tt : tameM [x] = false := by simpa using h8
                  rw [tt]
                  clear h8 HGD
                  have HSE := Lib.hid (HS1.out.alloc (.cells #[.slice Ax nx cx] 23))
                  go_wp2_with fail
                  go_meet
                  case rel => exact ⟨true, rfl, Lib.hid (fun h => by cases h), HSE.out⟩
              · have tt : tameM b = false := by simpa using h7
                rw [tt]
                clear h7 HGD
                go_wp2_with fail
                go_meet
                case rel => exact ⟨true, rfl, Lib.hid (fun h => by cases h), HS1.out⟩
            · have tt : tameM a = false := by simpa using h6
              rw [tt]
              clear h6 HGD
              go_wp2_with fail
              go_meet
              case rel => exact ⟨true, rfl, Lib.hid (fun h => by cases h), HS1.out⟩
          · have tt : (listE a x != 0) = true := by simpa using h5
            clear h5 HGD
            go_wp2_with fail
            go_meet
            case rel => exact ⟨true, rfl, Lib.hid (fun h => by cases h), HS1.out⟩
        · have tt : (matE b != 0) = true := by simpa using h4
          clear h4 HGD
          go_wp2_with fail
          go_meet
          case rel => exact ⟨true, rfl, Lib.hid (fun h => by cases h), HS1.out⟩
      · have tt : (matE a != 0) = true := by simpa using h3
        clear h3 HGD
        go_wp2_with fail
        go_meet
        case rel => exact ⟨true, rfl, Lib.hid (fun h => by cases h), HS1.out⟩
    · have t2 : ((nb : Int) != (n : Int)) = true := by simp; omega
      have t3 : (nb != n) = true := by simpa using h2
      go_wp2_with fail
      go_meet
      case rel => exact ⟨true, rfl, Lib.hid (fun h => by cases h), HS1.out⟩
  case rest =>
    obtain ⟨g, rfl, HG, HS⟩ := hcut
    clear HS0 HGD
    cases g with
    | true =>
      go_wp2_with fail
      refine (HAW.out _ HS.out.bel).mono ?_
      rintro e w2 ⟨rfl, hbW⟩
      go_wp2
      go_ret
      exact ⟨rfl, hbW⟩
    | false =>
    obtain ⟨h5, hl, hma, hmb, hlx0, hta, htb, htx⟩ := HG.out rfl
    obtain ⟨r6, hr6⟩ : ∃ r6, Int.tmod z 6 = r6 := ⟨_, rfl⟩
    have hr6b : -5 ≤ r6 ∧ r6 ≤ 5 := by
      rw [← hr6]
      have h1 := Int.emod_two_eq z
      have h2 := Int.tmod_lt_of_pos z (show (0 : Int) < 6 by omega)
      have h3 : -6 < Int.tmod z 6 := by
        have := Int.tmod_lt_of_pos (-z) (show (0 : Int) < 6 by omega)
        rw [Int.neg_tmod] at this
        omega
      omega
    obtain ⟨t, ht⟩ : ∃ t : Nat, (r6 + 6) % 6 = (t : Int) := ⟨((r6 + 6) % 6).toNat, by omega⟩
    have ht5 : t ≤ 5 := by omega
    have ht2 : Int.tmod (r6 + 6) 6 = (t : Int) := by rw [Int.tmod_eq_emod_of_nonneg (by omega)]; exact ht
    have hsA := tame_sq hma hta
    have hmo := matOk_of hma
    obtain ⟨M1, M2, O, P2, Pt, Y1, Y2, e1, e2, e3, e4, e5, e6, e7, e8, e9, e10, e11⟩ := alg_eqs h5 hl hma hmb hlx0 hta htb htx ht5
    have HEN := Lib.hid (fun i (hi : i < n) => alg_entry (l := t + 2) hsA (by omega) (by rw [← HN.out]; exact hi))
    have HWK := Lib.hid (fun i (hi : i < n) (h : _) => alg_walk (l := t + 2) hsA (by omega) (by rw [← HN.out]; exact hi) h)
    have hRL : (outM (powM (insideM a) (t + 2))).length = n := by rw [outM_len, (powM_sq (by omega) hsA (by omega)).n_eq, HN.out]
    rw [← HN.out] at hsA hmo h5 hl HEN HWK
    have HMA := Lib.hid hma
    have HSA := Lib.hid hsA
    have HMO := Lib.hid hmo
    have HLX : Hid (nx = x.length) := HNX
    clear hma hmb hlx0 hta htb htx hsA hmo HG
    generalize hR : outM (powM (insideM a) (t + 2)) = R at *
    have HRL := Lib.hid hRL
    have HXX : Hid (∀ w, Below W.heap.size W w → Rd w (· < w.heap.size) 1 (.slice Ax nx cx) x.length (x.map (Value.int .i64))) := Lib.hid (fun w hw => by rw [← HLX.out]; exact HX.out.later hw)
    clear hR hRL
    have HE1 := Lib.hid e1
    have HE2 := Lib.hid e2
    have HE3 := Lib.hid e3
    have HE4 := Lib.hid e4
    have HE5 := Lib.hid e5
    have HE6 := Lib.hid e6
    have HE7 := Lib.hid e7
    have HE8 := Lib.hid e8
    have HE9 := Lib.hid e9
    have HE10 := Lib.hid e10
    have HE11 := Lib.hid e11
    clear e1 e2 e3 e4 e5 e6 e7 e8 e9 e10 e11
    have HB0 := Lib.hid HS.out.bel
    have d0 := HS.out.blk_cell (i := 0) rfl 0
    have d1 := HS.out.blk_cell (i := 0) rfl 1
    have HS0 := HS
    clear HS
    go_wp2_with fail
    have hc1 := product_any wc (.slice Aa n ca) (.slice Ab nb cb) a b (HA.out.later HB0.out) (HB.out.later HB0.out)
    rw [HE1.out] at hc1
    refine hc1.mono ?_
    rintro e w1 ⟨v1, rfl, hb1, hr1⟩
    have HR1 := Lib.hid hr1
    have HB1 := Lib.hid (HB0.out.trans (hb1.mono HB0.out.size))
    have HS1 := Lib.hid (HS0.out.ext hb1)
    clear hc1 hr1 hb1 d0 d1 HB0 HS0
    have d0 := HS1.out.blk_cell (i := 0) rfl 0
    have d1 := HS1.out.blk_cell (i := 0) rfl 1
    go_wp2_with fail
    have hc2 := product_any w1 (.slice Ab nb cb) (.slice Aa n ca) b a (HB.out.later HB1.out) (HA.out.later HB1.out)
    rw [HE2.out] at hc2
    refine hc2.mono ?_
    rintro e w2 ⟨v2, rfl, hb2, hr2⟩
    have HR2 := Lib.hid hr2
    have HB2 := Lib.hid (HB1.out.trans (hb2.mono HB1.out.size))
    have HS2 := Lib.hid (HS1.out.ext hb2)
    have HR1 := Lib.hid (HR1.out.later hb2)
    clear hc2 hr2 hb2 d0 d1 HB1 HS1
    have d0 := HS2.out.blk_cell (i := 0) rfl 0
    have d1 := HS2.out.blk_cell (i := 0) rfl 1
    go_wp2_with fail
    have hc3 := product_any w2 v1 (.slice Aa n ca) M1 a HR1.out (HA.out.later HB2.out)
    rw [HE3.out] at hc3
    refine hc3.mono ?_
    rintro e w3 ⟨v3, rfl, hb3, hr3⟩
    have HR3 := Lib.hid hr3
    have HB3 := Lib.hid (HB2.out.trans (hb3.mono HB2.out.size))
    have HS3 := Lib.hid (HS2.out.ext hb3)
    have HR1 := Lib.hid (HR1.out.later hb3)
    have HR2 := Lib.hid (HR2.out.later hb3)
    clear hc3 hr3 hb3 d0 d1 HB2 HS2
    have d0 := HS3.out.blk_cell (i := 0) rfl 0
    have d1 := HS3.out.blk_cell (i := 0) rfl 1
    go_wp2_with fail
    have hc4 := product_any w3 (.slice Aa n ca) v2 a M2 (HA.out.later HB3.out) HR2.out
    rw [HE4.out] at hc4
    refine hc4.mono ?_
    rintro e w4 ⟨v4, rfl, hb4, hr4⟩
    have HR4 := Lib.hid hr4
    have HB4 := Lib.hid (HB3.out.trans (hb4.mono HB3.out.size))
    have HS4 := Lib.hid (HS3.out.ext hb4)
    have HR2 := Lib.hid (HR2.out.later hb4)
    have HR3 := Lib.hid (HR3.out.later hb4)
    clear hc4 hr4 hb4 d0 d1 HB3 HS3
    have d0 := HS4.out.blk_cell (i := 0) rfl 0
    have d1 := HS4.out.blk_cell (i := 0) rfl 1
    go_wp2_with fail
    have hc5 := power_any w4 (.slice Aa n ca) a (t : Int) (HA.out.later HB4.out)
    rw [HE5.out] at hc5
    refine hc5.mono ?_
    rintro e w5 ⟨v5, rfl, hb5, hr5⟩
    have HR5 := Lib.hid hr5
    have HB5 := Lib.hid (HB4.out.trans (hb5.mono HB4.out.size))
    have HS5 := Lib.hid (HS4.out.ext hb5)
    have HR3 := Lib.hid (HR3.out.later hb5)
    have HR4 := Lib.hid (HR4.out.later hb5)
    clear hc5 hr5 hb5 d0 d1 HB4 HS4
    have d0 := HS5.out.blk_cell (i := 0) rfl 0
    have d1 := HS5.out.blk_cell (i := 0) rfl 1
    go_wp2_with fail
    have hc6 := power_any w5 (.slice Aa n ca) a ((t : Int) + 2) (HA.out.later HB5.out)
    rw [HE6.out] at hc6
    refine hc6.mono ?_
    rintro e w6 ⟨v6, rfl, hb6, hr6⟩
    have HR6 := Lib.hid hr6
    have HB6 := Lib.hid (HB5.out.trans (hb6.mono HB5.out.size))
    have HS6 := Lib.hid (HS5.out.ext hb6)
    have HR3 := Lib.hid (HR3.out.later hb6)
    have HR4 := Lib.hid (HR4.out.later hb6)
    have HR5 := Lib.hid (HR5.out.later hb6)
    clear hc6 hr6 hb6 d0 d1 HB5 HS5
    have d0 := HS6.out.blk_cell (i := 0) rfl 0
    have d1 := HS6.out.blk_cell (i := 0) rfl 1
    go_wp2_with fail
    have hc7 := power_any w6 (.slice Aa n ca) a 2 (HA.out.later HB6.out)
    rw [HE7.out] at hc7
    refine hc7.mono ?_
    rintro e w7 ⟨v7, rfl, hb7, hr7⟩
    have HR7 := Lib.hid hr7
    have HB7 := Lib.hid (HB6.out.trans (hb7.mono HB6.out.size))
    have HS7 := Lib.hid (HS6.out.ext hb7)
    have HR3 := Lib.hid (HR3.out.later hb7)
    have HR4 := Lib.hid (HR4.out.later hb7)
    have HR5 := Lib.hid (HR5.out.later hb7)
    have HR6 := Lib.hid (HR6.out.later hb7)
    clear hc7 hr7 hb7 d0 d1 HB6 HS6
    have d0 := HS7.out.blk_cell (i := 0) rfl 0
    have d1 := HS7.out.blk_cell (i := 0) rfl 1
    go_wp2_with fail
    have hc8 := product_any w7 v5 v7 Pt P2 HR5.out HR7.out
    rw [HE8.out] at hc8
    refine hc8.mono ?_
    rintro e w8 ⟨v8, rfl, hb8, hr8⟩
    have HR8 := Lib.hid hr8
    have HB8 := Lib.hid (HB7.out.trans (hb8.mono HB7.out.size))
    have HS8 := Lib.hid (HS7.out.ext hb8)
    have HR3 := Lib.hid (HR3.out.later hb8)
    have HR4 := Lib.hid (HR4.out.later hb8)
    have HR5 := Lib.hid (HR5.out.later hb8)
    have HR6 := Lib.hid (HR6.out.later hb8)
    have HR7 := Lib.hid (HR7.out.later hb8)
    clear hc8 hr8 hb8 d0 d1 HB7 HS7
    have d0 := HS8.out.blk_cell (i := 0) rfl 0
    have d1 := HS8.out.blk_cell (i := 0) rfl 1
    go_wp2_with fail
    have hc9 := apply_any w8 (.slice Aa n ca) (.slice Ax nx cx) a x (HA.out.later HB8.out) (HXX.out _ HB8.out)
    rw [HE9.out] at hc9
    refine hc9.mono ?_
    rintro e w9 ⟨v9, rfl, hs9⟩
    have hb9 := hs9.bel
    have hr9 := (hs9.row_rd (i := 0) rfl).mono (S' := (· < w9.heap.size)) (fun b _ h => h.2)
    have HR9 := Lib.hid hr9
    have HB9 := Lib.hid (HB8.out.trans (hb9.mono HB8.out.size))
    have HS9 := Lib.hid (HS8.out.ext hb9)
    have HR3 := Lib.hid (HR3.out.later hb9)
    have HR4 := Lib.hid (HR4.out.later hb9)
    have HR6 := Lib.hid (HR6.out.later hb9)
    have HR7 := Lib.hid (HR7.out.later hb9)
    have HR8 := Lib.hid (HR8.out.later hb9)
    clear hc9 hr9 hb9 d0 d1 HB8 HS8 hs9
    have d0 := HS9.out.blk_cell (i := 0) rfl 0
    have d1 := HS9.out.blk_cell (i := 0) rfl 1
    go_wp2_with fail
    have hc10 := apply_any w9 (.slice Aa n ca) v9 a Y1 (HA.out.later HB9.out) HR9.out
    rw [HE10.out] at hc10
    refine hc10.mono ?_
    rintro e w10 ⟨v10, rfl, hs10⟩
    have hb10 := hs10.bel
    have hr10 := (hs10.row_rd (i := 0) rfl).mono (S' := (· < w10.heap.size)) (fun b _ h => h.2)
    have HR10 := Lib.hid hr10
    have HB10 := Lib.hid (HB9.out.trans (hb10.mono HB9.out.size))
    have HS10 := Lib.hid (HS9.out.ext hb10)
    have HR3 := Lib.hid (HR3.out.later hb10)
    have HR4 := Lib.hid (HR4.out.later hb10)
    have HR6 := Lib.hid (HR6.out.later hb10)
    have HR7 := Lib.hid (HR7.out.later hb10)
    have HR8 := Lib.hid (HR8.out.later hb10)
    have HR9 := Lib.hid (HR9.out.later hb10)
    clear hc10 hr10 hb10 d0 d1 HB9 HS9 hs10
    have d0 := HS10.out.blk_cell (i := 0) rfl 0
    have d1 := HS10.out.blk_cell (i := 0) rfl 1
    go_wp2_with fail
    have hc11 := apply_any w10 v7 (.slice Ax nx cx) P2 x HR7.out (HXX.out _ HB10.out)
    rw [HE11.out] at hc11
    refine hc11.mono ?_
    rintro e w11 ⟨v11, rfl, hs11⟩
    have hb11 := hs11.bel
    have hr11 := (hs11.row_rd (i := 0) rfl).mono (S' := (· < w11.heap.size)) (fun b _ h => h.2)
    have HR11 := Lib.hid hr11
    have HB11 := Lib.hid (HB10.out.trans (hb11.mono HB10.out.size))
    have HS11 := Lib.hid (HS10.out.ext hb11)
    have HR3 := Lib.hid (HR3.out.later hb11)
    have HR4 := Lib.hid (HR4.out.later hb11)
    have HR6 := Lib.hid (HR6.out.later hb11)
    have HR7 := Lib.hid (HR7.out.later hb11)
    have HR8 := Lib.hid (HR8.out.later hb11)
    have HR10 := Lib.hid (HR10.out.later hb11)
    clear hc11 hr11 hb11 d0 d1 HB10 HS10 hs11
    have d0 := HS11.out.blk_cell (i := 0) rfl 0
    have d1 := HS11.out.blk_cell (i := 0) rfl 1
    clear HE1 HE2 HE3 HE4 HE5 HE6 HE7 HE8 HE9 HE10 HE11 d0 d1 HS11 HXX
    obtain ⟨vs6, g6, _⟩ := HR6.out
    obtain ⟨A6, c6, rfl, _, _, _⟩ := g6.open_
    rw [HRL.out] at HR6 ⊢
    clear g6
    go_wp2_with fail
    refine (sameTable_any w11 _ _ v3 v4 O O HR3.out HR4.out).mono ?_
    rintro e w' ⟨rfl, q12, rfl⟩
    have hb12 := bel_drewN (Below.refl w11.heap.size w11) q12
    have HR6 := Lib.hid (HR6.out.later hb12)
    have HR8 := Lib.hid (HR8.out.later hb12)
    have HR10 := Lib.hid (HR10.out.later hb12)
    have HR11 := Lib.hid (HR11.out.later hb12)
    have HB12 := Lib.hid (HB11.out.trans (hb12.mono HB11.out.size))
    clear HB11 hb12
    generalize w11.drewN q12 = w12 at *
    go_wp2_with fail
    refine (sameTable_any w12 _ _ v8 (.slice A6 n c6) R R HR8.out HR6.out).mono ?_
    rintro e w' ⟨rfl, q13, rfl⟩
    have hb13 := bel_drewN (Below.refl w12.heap.size w12) q13
    have HR6 := Lib.hid (HR6.out.later hb13)
    have HR10 := Lib.hid (HR10.out.later hb13)
    have HR11 := Lib.hid (HR11.out.later hb13)
    have HB13 := Lib.hid (HB12.out.trans (hb13.mono HB12.out.size))
    clear HB12 hb13
    generalize w12.drewN q13 = w13 at *
    go_wp2_with fail
    refine (sameInts_any w13 _ _ v10 v11 Y2 Y2 HR10.out HR11.out).mono ?_
    rintro e w' ⟨rfl, q14, rfl⟩
    have hb14 := bel_drewN (Below.refl w13.heap.size w13) q14
    have HR6 := Lib.hid (HR6.out.later hb14)
    have HB14 := Lib.hid (HB13.out.trans (hb14.mono HB13.out.size))
    clear HB13 hb14
    generalize w13.drewN q14 = w14 at *
    clear HR3 HR4 HR8 HR10 HR11
    obtain ⟨tx, htx⟩ : ∃ tx, tx = tB (txtL (greatestF (insideM a)).num (greatestF (insideM a)).den) := ⟨_, rfl⟩
    have HTX := Lib.hid htx
    have hmean := mean_any w14 _ a tx (HA.out.later HB14.out) (fun h0 hf w hb => by
      have hb3 := greatestF_bd HMO.out.sq (by omega)
      have h := cof_any w (greatestF (insideM a)).num (greatestF (insideM a)).den (by have := hb3.1; omega) (by have := hb3.2; omega) (fun s h1 h2 => HI.out w (HB14.out.trans (hb.mono HB14.out.size)) s h1 h2)
      rw [← htx] at h
      exact h)
    have HMEAN := Lib.hid hmean
    clear htx hmean
    go_wp2_with fail
    refine HMEAN.out.mono ?_
    rintro e w15 ⟨hb15, hre⟩
    have HB15 := Lib.hid (HB14.out.trans (hb15.mono HB14.out.size))
    have HR6 := Lib.hid (HR6.out.later hb15)
    have HNF := Lib.hid (fun (hf : (greatestF (insideM a)).found = false) (i : Nat) (hi : i < n) (h : outerX (at2 (powM (insideM a) (t + 2)) i i) ≠ -1000000000) => no_walk HMO.out (by omega) hf (show 1 ≤ t + 2 by omega) (HWK.out i hi h))
    clear HB14 hb15 HMEAN
    rcases hre with ⟨h0, _⟩ | ⟨_, hf, rfl⟩ | ⟨_, hf, vo, rfl, hown⟩
    · exact absurd HMA.out h0
    · have HNF2 := Lib.hid (fun i hi => Classical.byContradiction fun h => HNF.out hf i hi h)
      clear hf HNF HWK
      go_wp2_with fail
      go_loop [33] (fun i => ∃ k : Nat, k ≤ n ∧ i = .int .i64 k) (fun i => n - (intOf i).toNat)
      case atStart => exact ⟨0, Nat.zero_le _, rfl⟩
      case round =>
        obtain ⟨k, hk, rfl⟩ := hrel
        by_cases hlt : k < n
        · obtain ⟨r, hr, hrl, hrv⟩ := HEN.out k hlt
          obtain ⟨b1, o1, Ar, cr, hA1, hrow⟩ := row_of HR6.out hr
          cases hA1
          obtain ⟨c0, hrd⟩ := hrow w15 (Below.refl _ _)
          rw [HNF2.out k hlt] at hrv
          rw [hrl] at c0 hrd
          obtain ⟨b2, o2, y, hA2, hy, c1⟩ := Rd.int (q := .i64) (l := r) hrd hlt
          subst hA2
          rw [hrv] at hy
          cases hy
          have tnn : ((n : Int) != (n : Int)) = false := by simp
          clear hrow hrd hrv hr hrl
          go_wp2_with fail
          go_round
          case rel => exact ⟨k + 1, by omega, by go_num⟩
          case measure => simp [intOf]; omega
        · obtain rfl : k = n := by omega
          have tkk : decide ((k : Int) < (k : Int)) = false := by simp
          go_wp2_with fail
          go_ret
          exact ⟨rfl, HB15.out⟩
    · rw [← HN.out] at hown
      obtain ⟨own, ho⟩ : ∃ own, own = tightF (lessM a (greatestF (insideM a))) (topF (lessM a (greatestF (insideM a))) n) := ⟨_, rfl⟩
      obtain ⟨hcy, hLb, hPb, hd1, hsum, hup, hwalk⟩ := alg_mean HMO.out h5 HSA.out hf ho
      rw [← ho] at hown
      obtain ⟨P', Q', etx, hQ', hP', hgc, hdg, hrt⟩ := alg_text hLb hPb
      have htx2 : tx = tB (txtL (cycS a own) (own.length : Int)) := by
        rw [HTX.out, txtL_eq (p := cycS a own) (q := own.length) (p' := (greatestF (insideM a)).num) (q' := (greatestF (insideM a)).den) (by omega) (by omega) hsum]
      have htx3 : tx = tB (tPQ P' Q') := by rw [htx2, etx]
      have HCK := Lib.hid (fun w => rcheck_any w P' Q' (by omega) (by omega) hgc)
      have HMU := Lib.hid (fun w (k : Nat) (hk : k ≤ 10) => rmul_quick w (k : Int) 1 P' Q' (by omega) (by omega) (by omega) (by omega))
      rw [← htx3] at HCK HMU
      obtain ⟨TM, hTM⟩ : ∃ TM, TM = tB (txtL (((t + 2 : Nat) : Int) * P') (1 * Q')) := ⟨_, rfl⟩
      have HMT : Hid (∀ w, Calls Tryz.prog 28 #[.string (tB (Lib.itoa ((t : Int) + 2))), .string tx] w fun e w' => e = .returned (.string TM) ∧ Below w.heap.size w w') := Lib.hid (fun w => by
        have h := HMU.out w (t + 2) (by omega)
        rw [tPQ_one, ← hTM] at h
        exact h)
      have HML : Hid (∀ w, Calls Tryz.prog 28 #[.string (tB (Lib.itoa (own.length : Int))), .string tx] w fun e w' => e = .returned (.string (tB (Lib.itoa (cycS a own)))) ∧ Below w.heap.size w w') := Lib.hid (fun w => by
        have h := HMU.out w own.length (by omega)
        rw [tPQ_one, hrt] at h
        exact h)
      have HCM : Hid (∀ (w : World) (v : Int), -7000000 ≤ v ∧ v ≤ 7000000 → v * (own.length : Int) ≤ cycS a own * ((t + 2 : Nat) : Int) → Calls Tryz.prog 26 #[.string (tB (Lib.itoa v)), .string TM] w fun e w' => (∃ q : Int, e = .returned (.int .i64 q) ∧ decide (0 < q) = false) ∧ Below w.heap.size w w') := Lib.hid (fun w v hv hle => by
        have h := cmp_okay.out w v 1 (((t + 2 : Nat) : Int) * P') (1 * Q') (by omega) (by omega) (by
          have h1 : ((((t + 2 : Nat) : Int) * P').natAbs) ≤ 7 * 5000000 := by rw [Int.natAbs_mul]; exact Nat.mul_le_mul (by omega) (by omega)
          omega) (by omega)
        rw [txtL_one, ← hTM] at h
        refine h.mono ?_
        rintro e w' ⟨⟨q, he, hq⟩, hbw⟩
        refine ⟨⟨q, he, decide_eq_false (fun h0 => hdg v (t + 2) hle (hq.1 h0))⟩, hbw⟩)
      have HUP : Hid (∀ i, i < n → outerX (at2 (powM (insideM a) (t + 2)) i i) ≠ -1000000000 → (-7000000 ≤ outerX (at2 (powM (insideM a) (t + 2)) i i) ∧ outerX (at2 (powM (insideM a) (t + 2)) i i) ≤ 7000000) ∧ outerX (at2 (powM (insideM a) (t + 2)) i i) * (own.length : Int) ≤ cycS a own * ((t + 2 : Nat) : Int)) := Lib.hid (fun i hi h => by
        have h1 := hup _ _ _ (show 1 ≤ t + 2 by omega) (HWK.out i hi h)
        have h2 := (HWK.out i hi h).abs HSA.out (by omega)
        exact ⟨by omega, h1⟩)
      have HPOW : Hid (power a (own.length : Int) = (outM (powM (insideM a) own.length), 0)) := Lib.hid (by
        have h := pow_out (t := own.length) HSA.out (by omega) (by omega) (by omega) (by omega) (by omega)
        rw [out_inside (fun r hr => ((matE_ok HMA.out).2 r hr).2)] at h
        exact h)
      have HCY := Lib.hid hcy
      have HWL := Lib.hid hwalk
      have HUQ := Lib.hid hup
      have HOWN := Lib.hid hown
      have HTX2 := Lib.hid htx2
      obtain ⟨Lg, hLg⟩ : ∃ Lg, Lg = own.length := ⟨_, rfl⟩
      rw [← hLg] at hLb HOWN HWL HUQ HTX2 HML HCM HUP HPOW
      have HLG := Lib.hid hLg
      obtain ⟨Ao, co, rfl, _, _, _⟩ := hown.open_
      rw [← hLg]
      rw [← hLg] at HOWN
      clear hf ho hcy hPb hd1 hsum hup hwalk etx hQ' hP' hgc hdg hrt htx2 htx3 hown HNF HWK HTX hLg HMU hTM
      go_wp2_with fail
      go_loopw [33] (fun i w' => ∃ k : Nat, k ≤ n ∧ i = .int .i64 k ∧ Below w15.heap.size w15 w') (fun i _ => n - (intOf i).toNat)
      case atStart => exact ⟨0, Nat.zero_le _, rfl, Below.refl _ _⟩
      case round =>
        obtain ⟨k, hk, rfl, hbr⟩ := hrel
        have HBR := Lib.hid hbr
        clear hbr
        by_cases hlt : k < n
        · obtain ⟨r, hr, hrl, hrv⟩ := HEN.out k hlt
          obtain ⟨b1, o1, Ar, cr, hA1, hrow⟩ := row_of HR6.out hr
          cases hA1
          rw [hrl] at hrow
          have HROW := Lib.hid hrow
          obtain ⟨c0, hrd⟩ := hrow wr HBR.out
          obtain ⟨b2, o2, y, hA2, hy, c1⟩ := Rd.int (q := .i64) (l := r) hrd hlt
          subst hA2
          rw [hrv] at hy
          have HRV := Lib.hid hrv
          have hyv : outerX (at2 (powM (insideM a) (t + 2)) k k) = y := Option.some.inj hy
          have tnn : ((n : Int) != (n : Int)) = false := by simp
          by_cases hyn : y = -1000000000
          · subst hyn
            clear hrow hrd hrv hr hrl hy hyv
            go_wp2_with fail
            go_roundw
            case rel => exact ⟨k + 1, by omega, by go_num, HBR.out⟩
            case measure => simp [intOf]; omega
          · have tyn : (y == -1000000000) = false := by simpa using hyn
            obtain ⟨hyb, hyl⟩ : (-7000000 ≤ y ∧ y ≤ 7000000) ∧ y * (Lg : Int) ≤ cycS a own * ((t + 2 : Nat) : Int) := by
              have h := HUP.out k hlt (by rw [hyv]; exact hyn)
              rw [hyv] at h
              exact h
            have HCMY := Lib.hid (fun w => HCM.out w y hyb hyl)
            have HFY := Lib.hid (fun w => rfromInt_any w y (by omega))
            have HFT := Lib.hid (fun w => rfromInt_any w ((t : Int) + 2) (by omega))
            have CEL : Hid (∀ w', Below w15.heap.size w15 w' → w'.cell? ⟨b1, o1 + k, none⟩ = some (.slice (some ⟨b2, o2, none⟩) n cr) ∧ w'.cell? ⟨b2, o2 + k, none⟩ = some (.int .i64 y)) := Lib.hid (fun w' hb => by
              obtain ⟨c0', hrd'⟩ := HROW.out w' hb
              obtain ⟨b2', o2', y', hA2', hy', c1'⟩ := Rd.int (q := .i64) (l := r) hrd' hlt
              cases hA2'
              rw [HRV.out, hyv] at hy'
              cases hy'
              exact ⟨c0', c1'⟩)
            clear hrow hrd hrv hr hrl hy hyv hyl
            go_wp2_with fail
            refine (HCK.out _).mono ?_
            rintro e z1 ⟨rfl, hz1⟩
            have HZ1 := Lib.hid (HBR.out.trans (hz1.mono HBR.out.size))
            obtain ⟨c0, c1⟩ := CEL.out _ HZ1.out
            clear hz1
            go_wp2_with fail
            refine (HFY.out _).mono ?_
            rintro e z2 ⟨rfl, hz2⟩
            have HZ2 := Lib.hid (HZ1.out.trans (hz2.mono HZ1.out.size))
            clear hz2 HZ1
            go_wp2_with fail
            refine (HFT.out _).mono ?_
            rintro e z3 ⟨rfl, hz3⟩
            have HZ3 := Lib.hid (HZ2.out.trans (hz3.mono HZ2.out.size))
            clear hz3 HZ2
            go_wp2_with fail
            refine (HMT.out _).mono ?_
            rintro e z4 ⟨rfl, hz4⟩
            have HZ4 := Lib.hid (HZ3.out.trans (hz4.mono HZ3.out.size))
            clear hz4 HZ3
            go_wp2_with fail
            refine (HCMY.out _).mono ?_
            rintro e z5 ⟨⟨q, rfl, tq⟩, hz5⟩
            have HZ5 := Lib.hid (HZ4.out.trans (hz5.mono HZ4.out.size))
            clear hz5 HZ4
            go_wp2_with fail
            go_roundw
            case rel => exact ⟨k + 1, by omega, by go_num, HZ5.out⟩
            case measure => simp [intOf]; omega
        · obtain rfl : k = n := by omega
          have tkk : decide ((k : Int) < (k : Int)) = false := by simp
          have hcz := (cycE_zero k a own).2 HCY.out
          have hcc := refCycle_any wr (.slice Aa k ca) (.slice Ao Lg co) k a own HMO.out (by omega) (HA.out.later (HB15.out.trans (HBR.out.mono HB15.out.size))) (by rw [← HLG.out]; exact HOWN.out.later HBR.out) (by rw [← HLG.out]; omega)
          rw [cycT_ok hcz, hcz, ← HLG.out, ← HTX2.out] at hcc
          have HCC := Lib.hid hcc
          clear hcc hcz
          go_wp2_with fail
          refine HCC.out.mono ?_
          rintro e w16 ⟨rfl, hb16⟩
          have HB16 := Lib.hid (HB15.out.trans ((HBR.out.trans (hb16.mono HBR.out.size)).mono HB15.out.size))
          have HX16 := Lib.hid (HBR.out.trans (hb16.mono HBR.out.size))
          clear hb16 HBR HCC
          go_wp2_with fail
          have hpw := power_any w16 (.slice Aa k ca) a (Lg : Int) (HA.out.later HB16.out)
          rw [HPOW.out] at hpw
          refine hpw.mono ?_
          rintro e w17 ⟨v20, rfl, hb17, hr17⟩
          have HB17 := Lib.hid (HB16.out.trans (hb17.mono HB16.out.size))
          obtain ⟨y0, hy0, hy1⟩ : ∃ c0 : Nat, c0 < k ∧ own.getD 0 0 = (c0 : Int) := ⟨(own.getD 0 0).toNat, by have := HCY.out.lt 0 HCY.out.ne; omega, by have := HCY.out.lt 0 HCY.out.ne; omega⟩
          have hent := alg_entry (l := Lg) HSA.out (by omega) hy0
          obtain ⟨r2, hr2, hrl2, hrv2⟩ := hent
          have hev : outerX (at2 (powM (insideM a) Lg) y0 y0) = cycS a own := by
            have hw := HWL.out
            rw [hy1, Int.toNat_natCast] at hw
            obtain ⟨g1, g2⟩ := (powM_walk (by omega) HSA.out Lg (by omega) y0 y0 hy0 hy0).2 _ hw
            have g3 := HUQ.out _ _ _ (by omega) ((powM_walk (by omega) HSA.out Lg (by omega) y0 y0 hy0 hy0).1 g1)
            have g4 := Int.le_of_mul_le_mul_right g3 (by omega)
            unfold outerX
            rw [if_neg g1]
            omega
          rw [hev] at hrv2
          have hRL2 : (outM (powM (insideM a) Lg)).length = k := by rw [outM_len, (powM_sq (by omega) HSA.out (by omega)).n_eq]
          generalize outM (powM (insideM a) Lg) = R2 at *
          obtain ⟨vs2, gg2, _⟩ := id hr17
          obtain ⟨A20, c20, rfl, _, _, _⟩ := gg2.open_
          rw [hRL2] at hr17 ⊢
          obtain ⟨b5, o5, Ar5, cr5, hA5, hrow5⟩ := row_of hr17 hr2
          subst hA5
          rw [hrl2] at hrow5
          have HOW := Lib.hid (HOWN.out.later (HX16.out.trans (hb17.mono HX16.out.size)))
          obtain ⟨b6, o6, x6, hA6, hx6, c6⟩ := Rd.int (q := .i64) (l := own) HOW.out (k := 0) (by omega)
          subst hA6
          obtain rfl : x6 = (y0 : Int) := by
            rw [List.getD_eq_getElem?_getD, hx6] at hy1
            exact hy1
          obtain ⟨c7, hrd7⟩ := hrow5 w17 (Below.refl _ _)
          obtain ⟨b8, o8, x8, hA8, hx8, c8⟩ := Rd.int (q := .i64) (l := r2) hrd7 hy0
          subst hA8
          rw [hrv2] at hx8
          cases hx8
          have HPB : Hid (-1000000000 < cycS a own ∧ cycS a own < 1000000000) := Lib.hid (by
            have h := HWL.out.abs HSA.out (by omega)
            omega)
          have HF1 := Lib.hid (fun w => rfromInt_any w (cycS a own) HPB.out)
          have HF2 := Lib.hid (fun w => rfromInt_any w (Lg : Int) (by omega))
          have tkk2 : ((k : Int) == (k : Int)) = true := by simp
          rw [Nat.add_zero] at c6
          clear hr2 hrl2 hrv2 hev hrow5 hrd7 hx6 hy1 gg2 hr17 hRL2 HUP HEN HR6
          generalize cycS a own = P at *
          go_wp2_with fail
          refine wp_cls 41 (fun w' => Below w17.heap.size w17 w') (by kernel_rfl) (by kernel_rfl) (Below.refl _ _).drew ?_
          simp only [List.take_succ_cons, List.take_zero, List.drop_succ_cons, List.drop_zero]
          generalize hK : (fun w' => Below w17.heap.size w17 w') = K
          intro hne
          have kb : ∀ y : Wd K, Below w17.heap.size w17 y.w := by subst hK; exact fun y => y.h
          have hK3 : ∀ w w', K w → Below w.heap.size w w' → K w' := by
            subst hK
            exact fun w w' h h' => Below.trans h (h'.mono h.size)
          have l6 := World.block_lt_of_cell? _ _ c6
          have l7 := World.block_lt_of_cell? _ _ c7
          have l8 := World.block_lt_of_cell? _ _ c8
          have k6 : ∀ y : Wd K, y.w.cell? ⟨b6, o6, none⟩ = some (.int .i64 (y0 : Int)) := fun y => ((kb y).cell (p := ⟨b6, o6, none⟩) l6).trans c6
          have k7 : ∀ y : Wd K, y.w.cell? ⟨b5, o5 + y0, none⟩ = some (.slice (some ⟨b8, o8, none⟩) k cr5) := fun y => ((kb y).cell (p := ⟨b5, o5 + y0, none⟩) l7).trans c7
          have k8 : ∀ y : Wd K, y.w.cell? ⟨b8, o8 + y0, none⟩ = some (.int .i64 P) := fun y => ((kb y).cell (p := ⟨b8, o8 + y0, none⟩) l8).trans c8
          clear hK l6 l7 l8 c6 c7 c8
          repeat (go_big_quiet_step ((fail)))
          go_big_quiet_step ((go_at_call 27; exact cls_below hK3 (HF1.out _)))
          repeat (go_big_quiet_step ((fail)))
          go_big_quiet_step ((go_at_call 27; exact cls_below hK3 (HF2.out _)))
          repeat (go_big_quiet_step ((fail)))
          go_big_quiet_step ((go_at_call 28; exact cls_below hK3 (HML.out _)))
          repeat (go_big_quiet_step ((fail)))
          refine wpQuiet_nil ?_
          intro y
          have HBY := Lib.hid (HB17.out.trans ((kb y).mono HB17.out.size))
          clear kb hK3 hne k6 k7 k8
          go_wp2_with fail
          go_ret
          exact ⟨rfl, HBY.out⟩
end Go.Proofs.YtlffgdmljioaoaaGreatDoor
/- SheetAlgebra over the row's table of powers of ten. -/
namespace Go.Proofs.YtlffgdmljioaoaaGreatDoor
open Go.RowKit Go.Mem Go.Sheet
theorem sheetAlgebraL_any (W : World) (v0 : Value) (m0 : IMat) (v1 : Value) (m1 : IMat) (vl : Value) (x : List Int) (z : Int) (hL : laidMetH Tryz.prog laidL W)
    (hm0 : RdRows W (· < W.heap.size) v0 m0) (hm1 : RdRows W (· < W.heap.size) v1 m1) (hx : Rd W (· < W.heap.size) 1 vl x.length (x.map (Value.int .i64))) :
    Calls Tryz.prog 4 #[v0, v1, .agg #[vl, .int .i64 z]] W fun e w' => e = .returned (.bool true) ∧ Below W.heap.size W w' :=
  sheetAlgebra_any W v0 v1 vl m0 m1 x z (itoaAt_of (tab_of hL)) hm0 hm1 hx
end Go.Proofs.YtlffgdmljioaoaaGreatDoor
/- A statement's arguments that are a value with prices, or a list with an exponent, opened from the row's data. -/
namespace Go.Mem
open Go.RowKit Go.Deep Go.Sheet Go.ChangeShapes Go.WideShapes Go.Proofs.YtlffgdmljioaoaaGreatDoor
/-- prices in memory -/
def RdPrices (w : World) (vq vs : Value) (p : PR) : Prop :=
  Rd w (· < w.heap.size) 1 vq p.rq.length (p.rq.map (Value.int .i64)) ∧ Rd w (· < w.heap.size) 1 vs p.sl.length (p.sl.map (Value.int .i64))
theorem RdPrices.later {w w' : World} {vq vs : Value} {p : PR} (h : RdPrices w vq vs p) (hb : Below w.heap.size w w') : RdPrices w' vq vs p := ⟨h.1.later hb, h.2.later hb⟩
section
variable {H : Type} {enc : TypeId × Value → H} {P : Program} {w : World} {base : Nat} {spare : Nat → Bool} {held : Bool}
theorem rd_of_steps {t tr q : TypeId} {f0 f1 : Field} {fuel : Nat} {cs : Array Value} {x : DataW H × List MemPlace} (ht : P.underlying t = some (.struct #[f0, f1])) (hc : P.cellsOf t = 2) (hsz : cs.size = P.cellsOf t)
    (ho : f0.offset = 0 ∧ f1.offset = 1) (hs : P.cellsOf f0.type = 1 ∧ P.cellsOf f1.type = 1) (hi : P.underlying f1.type = some (.int .i64)) (hty : f0.type = tr)
    (htr : P.underlying tr = some (.slice q)) (hq : P.underlying q = some (.int .i64)) (hcq : P.cellsOf q = 1)
    (h : DataW.trod enc P w base spare held fuel t cs.toList = some x) (hw : ∀ u ∈ x.1.weights P t, u ≤ reachBytes) :
    ∃ (vl : Value) (l : List Int) (z : Int), cs = #[vl, .int .i64 z] ∧ Rd w (· < w.heap.size) 1 vl l.length (l.map (Value.int .i64)) ∧ (∀ u ∈ l, (Lit.int .i64 u).wf = true) ∧ (Lit.int .i64 z).wf = true := by
  obtain ⟨y0, y1, m, hye, _, h0, h1⟩ := trod_struct2 ht h
  have hwa : ∀ u, u ∈ y0.1.weights P tr → u ≤ reachBytes := fun u hu => hw u (by
    rw [hye]
    simp only [DataW.weights, ht, List.map_cons, List.map_nil, DataW.weightsEach, hty]
    simp only [List.mem_append]
    exact .inl hu)
  rw [hc] at hsz
  match cs, hsz with
  | ⟨[a, b]⟩, _ =>
    try simp only at h0 h1
    rw [ho.1, hs.1, hty] at h0
    rw [ho.2, hs.2] at h1
    obtain ⟨z, e0, _, hz⟩ := DataW.trod_int hi (show DataW.trod enc P w base spare held m f1.type [b] = some y1 from h1)
    injection e0 with e0 _
    subst e0
    obtain ⟨n0, l0, r0, g0, _⟩ := rd_of_ints htr hq hcq (show DataW.trod enc P w base spare held m tr [a] = some y0 from h0) fun u hu => hwa u hu
    have e0 : n0 = l0.length := r0.count1
    subst e0
    exact ⟨a, l0, z, rfl, r0, g0, hz⟩
end
end Go.Mem
namespace Go.Proofs.YtlffgdmljioaoaaGreatDoor
open Go.RowKit Go.Mem Go.Sheet Go.ChangeShapes Go.WideShapes
section
variable {H : Type} {enc : TypeId × Value → H} {W : World}
set_option maxRecDepth 100000 in
theorem arg_steps {v : Value} {d : DataW H} {ps : List MemPlace} {r : Reach} {base : Nat} (h : DataW.Trod enc Tryz.prog W 0 (fun _ => true) true 45 v d ps) (hw : ∀ u ∈ d.weights Tryz.prog 45, u ≤ reachBytes) (hv : Value.okWide Tryz.prog W r base 45 v) :
    ∃ (vl : Value) (l : List Int) (z : Int), v = .agg #[vl, .int .i64 z] ∧ Rd W (· < W.heap.size) 1 vl l.length (l.map (Value.int .i64)) ∧ (∀ u ∈ l, (Lit.int .i64 u).wf = true) ∧ (Lit.int .i64 z).wf = true := by
  obtain ⟨cs, rfl, hsz⟩ := okWide_struct Tryz.underlying45 hv
  obtain ⟨f, hf⟩ := h
  obtain ⟨vl, l, z, rfl, h1, h2, h3⟩ := rd_of_steps (tr := 23) (q := 3) Tryz.underlying45 (by kernel_rfl) hsz ⟨by kernel_rfl, by kernel_rfl⟩ ⟨by kernel_rfl, by kernel_rfl⟩ (by kernel_rfl) (by kernel_rfl)
    Tryz.underlying23 Tryz.underlying3 (by kernel_rfl) hf hw
  exact ⟨vl, l, z, rfl, h1, h2, h3⟩
end
end Go.Proofs.YtlffgdmljioaoaaGreatDoor
