/- TopDivotKnockout: the law (printed by gen_knock.py). -/
import Derived.Test.YtkkkfjinflepmaaGreatDoorK5
import Derived.Test.YtkkkfjinflepmaaGreatDoorB44
import Derived.BigQuiet
set_option linter.unusedVariables false
set_option linter.unusedSimpArgs false
set_option linter.unusedSectionVars false
set_option linter.constructorNameAsVariable false
namespace Go.Proofs.YtkkkfjinflepmaaGreatDoor
open Go.RowKit Go.Mem Go.Sheet Go.Adj
set_option maxRecDepth 100000 in
set_option maxHeartbeats 0 in
theorem knockout_any (W : World) (v : Value) (m : Nat) (ls : List (List Int)) (h : RdLL W (· < W.heap.size) v m ls) :
    Calls Tryz.prog 5 #[v] W fun e w' => e = .returned (.bool true) ∧ Below W.heap.size W w' := by
  obtain ⟨A, c, rfl⟩ := h.open_
  have hm63 : m ≤ 9223372036854775807 := by obtain ⟨vs, h1, _⟩ := h; exact h1.le
  have H := Lib.hid h
  have HLR : Hid (∀ w', Below W.heap.size W w' → Calls Tryz.prog 9 #[] w' fun e w2 => e = .returned (.bool true) ∧ Below W.heap.size W w2) := fun w' hb => (divotWon_ok w').mono fun e w2 ⟨h1, h2⟩ => ⟨h1, hb.trans (h2.mono hb.size)⟩
  have HB0 := Lib.hid (Below.refl W.heap.size W)
  clear h
  go_enter Tryz.func5, Tryz.ntmps5
  by_cases hm2 : m < 2
  · have t1 : decide ((m : Int) < 2) = true := decide_eq_true (by omega)
    have t1' : decide (m < 2) = true := decide_eq_true hm2
    clear hm2
    go_wp2_with (go_at_call 9; refine (HLR.out _ HB0.out).mono ?_; rintro e w' ⟨rfl, hb2⟩; have HB2 := Lib.hid hb2; clear hb2)
    go_ret
    exact ⟨rfl, HB2.out⟩
  have t1 : decide ((m : Int) < 2) = false := decide_eq_false (by omega)
  have t1' : decide (m < 2) = false := decide_eq_false hm2
  by_cases hm12 : 12 < m
  · have t2 : decide ((12 : Int) < (m : Int)) = true := decide_eq_true (by omega)
    have t2' : decide (12 < m) = true := decide_eq_true hm12
    clear hm12
    go_wp2_with (go_at_call 9; refine (HLR.out _ HB0.out).mono ?_; rintro e w' ⟨rfl, hb2⟩; have HB2 := Lib.hid hb2; clear hb2)
    go_ret
    exact ⟨rfl, HB2.out⟩
  have t2 : decide ((12 : Int) < (m : Int)) = false := decide_eq_false (by omega)
  have t2' : decide (12 < m) = false := decide_eq_false hm12
  have HCL := Lib.hid (refCheckLists_any W _ _ m ls ⟨by omega, by omega⟩ H.out)
  go_wp2_with fail
  go_at_call 17
  refine HCL.out.mono ?_
  rintro e w1 ⟨⟨ec, rfl, hgp⟩, q, hq⟩
  have hb1 : Below W.heap.size W w1 := by rw [hq]; exact below_drewN (Below.refl _ _) q
  have HB1 := Lib.hid hb1
  clear hq hb1 HCL HB0
  by_cases hec : ec = 0
  case neg =>
    have t3 : (ec != 0) = true := by simpa using hec
    clear hec hgp
    go_wp2_with (go_at_call 9; refine (HLR.out _ HB1.out).mono ?_; rintro e w' ⟨rfl, hb2⟩; have HB2 := Lib.hid hb2; clear hb2)
    go_ret
    exact ⟨rfl, HB2.out⟩
  subst hec
  obtain ⟨n, hgd⟩ := hgp rfl
  clear hgp
  have hls : ls.length = m := by obtain ⟨_, _, h0, _⟩ := H.out; exact h0
  obtain ⟨r0, hr0⟩ : ∃ r, ls[0]? = some r := ⟨ls[0]'(by omega), List.getElem?_eq_getElem _⟩
  obtain ⟨b, o, u0, hA, c0, hrd0⟩ := (H.out.later HB1.out).elem (k := 0) (by omega) hr0
  subst hA
  rw [hgd.len r0 (List.mem_of_getElem? hr0), Nat.add_zero] at *
  obtain ⟨A0, cc0, rfl, _, _, _⟩ := hrd0.open_
  have HORD := Lib.hid (order_ok w1 _ m n ls ⟨by omega, by omega⟩ hgd (H.out.later HB1.out))
  have hbd := rrK_bd (n := n) hls
  obtain ⟨od, hod⟩ : ∃ od, od = ordL (rrK n ls) m m := ⟨_, rfl⟩
  have hol : od.length = m := by rw [hod]; exact ordL_len hbd
  have hon : od.Nodup := by rw [hod]; exact ordL_nodup _ _ _
  have hom : ∀ i, i ∈ od ↔ i < m := fun i => by rw [hod, ordL_mem]; exact ⟨fun e => e.1, fun e => ⟨e, hbd i e⟩⟩
  rw [← hod] at HORD
  have HOL := Lib.hid hol
  have HON := Lib.hid hon
  have HOM := Lib.hid hom
  have m0 : decide ((m : Int) ≤ 0) = false := decide_eq_false (by omega)
  have m0' : decide (m ≤ 0) = false := decide_eq_false (by omega)
  have m1 : 0 < m := by omega
  have hn63 := hrd0.le
  clear hls hr0 hrd0 hgd hbd hod hol hon hom
  by_cases hn6 : 6 < n
  · have t4 : decide ((6 : Int) < (n : Int)) = true := decide_eq_true (by omega)
    have t4' : decide (6 < n) = true := decide_eq_true hn6
    clear hn6
    go_wp2_with (go_at_call 9; refine (HLR.out _ HB1.out).mono ?_; rintro e w' ⟨rfl, hb2⟩; have HB2 := Lib.hid hb2; clear hb2)
    go_ret
    exact ⟨rfl, HB2.out⟩
  have t4 : decide ((6 : Int) < (n : Int)) = false := decide_eq_false (by omega)
  have t4' : decide (6 < n) = false := decide_eq_false hn6
  go_wp2_with fail
  go_at_call 18
  refine HORD.out.mono ?_
  rintro e w2 ⟨vo, rfl, S1⟩
  obtain ⟨bo, co, rfl⟩ := row_some S1 (i := 0) rfl (by omega)
  have HS1 := Lib.hid ((St.of_below HB1.out).call S1)
  have HZ := Lib.hid (zeros_gl m)
  clear S1 HORD c0
  go_wp2_with (at_make; refine wpList_make_st eltI rfl _ _ rfl (n := m) rfl rfl HS1.out (by omega) (by omega) ?_; intro wc gp S2 _ _; rw [HZ.out] at S2; simp only [List.cons_append, List.nil_append] at S2; have HS2 := Lib.hid S2; clear S2)
  have HOI : Hid (∀ i, i < m → ∃ k, od[i]? = some k ∧ k < m) := fun i hi => by
    have hl := HOL.out
    exact ⟨od[i]'(by omega), List.getElem?_eq_getElem _, (HOM.out _).1 (List.getElem_mem _)⟩
  have HS3 : Hid (St W wc [row 3 1 (.slice (some ⟨bo, 0, none⟩) m co) m (natV od), row 3 1 (.slice (some ⟨gp, 0, none⟩) m m) m (intsI (gl (plT od 0) m))]) := by
    show St _ _ _
    rw [plT_zero]; exact HS2.out
  clear HS2 HS1
  go_loopw [61] (fun i w' => ∃ k : Nat, k ≤ m ∧ i = .int .i64 k ∧ St W w' [row 3 1 (.slice (some ⟨bo, 0, none⟩) m co) m (natV od), row 3 1 (.slice (some ⟨gp, 0, none⟩) m m) m (intsI (gl (plT od k) m))]) (fun i _ => m - (intOf i).toNat)
  case atStart => exact ⟨0, Nat.zero_le _, rfl, HS3.out⟩
  case round =>
    obtain ⟨i, hi, rfl, S⟩ := hrel
    clear HS3
    by_cases him : i < m
    · obtain ⟨k, hk, hkm⟩ := HOI.out i him
      obtain ⟨b1, o1, u1, hA1, _, hu1, c1⟩ := (S.row_rd (i := 0) rfl).at_ him
      cases hA1
      unfold natV at hu1
      rw [List.getElem?_map, hk] at hu1
      cases hu1
      rw [Nat.zero_add] at c1
      obtain ⟨c2, f2⟩ := row_int5 S (i := 1) rfl hkm
      have S4 := S.row_set (i := 1) rfl k (.int .i64 (i : Int))
      simp only [List.set_cons_zero, List.set_cons_succ] at S4
      rw [gl_set5 (plT_step HON.out hk).1 (plT_step HON.out hk).2] at S4
      have HS4 := Lib.hid S4
      have x1 : decide ((m : Int) ≤ (k : Int)) = false := decide_eq_false (by omega)
      have x2 : decide (m ≤ k) = false := decide_eq_false (by omega)
      generalize plT od i k = pk at *
      clear S S4 hk
      go_wp2_with fail
      go_roundw
      case rel => exact ⟨i + 1, by omega, by go_num, HS4.out⟩
      case measure => simp [intOf]; omega
    · obtain rfl : m = i := by omega
      rw [plT_all HOM.out HOL.out] at S
      have HPO := Lib.hid (plO_place HOM.out)
      have HPA := Lib.hid (fun (i k : Nat) (h : od[i]? = some k) => plO_at HON.out h)
      have HPG := Lib.hid (fun k (h : k < m) => plO_get ((HOM.out k).2 h))
      generalize plO od = pl at *
      have S5 := S.row_nil 9 1
      simp only [List.cons_append, List.nil_append] at S5
      obtain ⟨O0, hO0⟩ : ∃ O0, O0 = row 3 1 (.slice (some ⟨bo, 0, none⟩) m co) m (natV od) := ⟨_, rfl⟩
      obtain ⟨O1, hO1⟩ : ∃ O1, O1 = row 3 1 (.slice (some ⟨gp, 0, none⟩) m m) m (intsI (gl (fun k => (pl k : Int)) m)) := ⟨_, rfl⟩
      have HCO : Hid (∀ w' L, St W w' (O0 :: O1 :: L) → ∀ i k : Nat, od[i]? = some k → w'.cell? ⟨bo, i, none⟩ = some (.int .i64 (k : Int))) := fun w' L h i k hk => by
        rw [hO0] at h
        have hi : i < m := by rw [← HOL.out]; exact (List.getElem?_eq_some_iff.1 hk).1
        obtain ⟨b1, o1, u1, hA1, _, hu1, c1⟩ := (h.row_rd (i := 0) rfl).at_ hi
        cases hA1
        unfold natV at hu1
        rw [List.getElem?_map, hk] at hu1
        cases hu1
        rwa [Nat.zero_add] at c1
      have HCP : Hid (∀ w' L, St W w' (O0 :: O1 :: L) → ∀ k, k < m → w'.cell? ⟨gp, k, none⟩ = some (.int .i64 (pl k : Int))) := fun w' L h k hk => by
        rw [hO1] at h
        exact (row_int5 h (i := 1) rfl hk).1
      have HS5 : Hid (St W wr [O0, O1, row 9 1 (.slice none 0 0) 0 (strsV nmK 0)]) := by rw [hO0, hO1]; exact S5
      clear S S5 hO0 hO1
      go_wp2_with fail
      go_loopw [73, 7] (fun i pv w' => ∃ k : Nat, k ≤ m ∧ i = .int .i64 k ∧ St W w' [O0, O1, row 9 1 pv k (strsV nmK k)]) (fun i _ _ => m - (intOf i).toNat)
      case atStart => exact ⟨0, Nat.zero_le _, rfl, HS5.out⟩
      case round =>
        obtain ⟨k, hk, rfl, S⟩ := hrel
        clear HS5
        by_cases hkm : k < m
        · have HFI := Lib.hid (fromInt_any wr ((k : Int) + 1) (by omega))
          have HSV : Hid (strsV nmK (k + 1) = strsV nmK k ++ [.string (nmK k)]) := strsV_snoc nmK k
          have HNK : Hid (nmK k = (⟨#[112]⟩ : ByteArray) ++ digS ((k : Int) + 1)) := rfl
          have HS6 := Lib.hid S
          have hds : (digS ((k : Int) + 1)).size ≤ 2 := by unfold digS; split <;> (show _ ≤ 2; simp [ByteArray.size])
          generalize digS ((k : Int) + 1) = dk at *
          have hd1 : ¬ 9223372036854775807 < 1 + dk.size := by omega
          have hd2 : decide (9223372036854775807 < 1 + dk.size) = false := decide_eq_false hd1
          clear S
          go_wp2_with fail
          go_at_call 19
          refine HFI.out.mono ?_
          rintro e w3 ⟨rfl, hb3⟩
          have HS7 := Lib.hid ((HS6.out.ext hb3).alloc (.cells #[.string ((⟨#[112]⟩ : ByteArray) ++ dk)] 9))
          clear hb3 HFI
          go_wp2_with (at_builtin; refine wpList_append_st eltStrD rfl _ _ rfl rfl HS7.out (k := 2) rfl rfl (rd_one (by simp)) (one_str5 _) (by omega) (by omega) ?_; intro v' w' S' _)
          go_roundw
          case rel =>
            refine ⟨k + 1, by omega, by go_num, ?_⟩
            rw [HSV.out, HNK.out]
            exact S'
          case measure => simp [intOf]; omega
        · obtain rfl : m = k := by omega
          obtain ⟨bp, cp, rfl⟩ := row_some S (i := 2) rfl (by omega)
          have HGN := Lib.hid (nmK_good (m := m) (by omega))
          have HDR := Lib.hid (draw_ok wr m _ nmK (S.row_rd (i := 2) rfl).now HGN.out ⟨by omega, by omega⟩)
          obtain ⟨R, hR⟩ := slot_ok m ⟨by omega, by omega⟩
          have hR4 := hR.rr
          have HR := Lib.hid hR
          have HS8 := Lib.hid S
          clear S hR
          go_wp2_with fail
          go_at_call 20
          refine HDR.out.mono ?_
          rintro e w4 ⟨vs, rfl, S9⟩
          have S10 := HS8.out.call S9
          simp only [List.cons_append, List.nil_append] at S10
          obtain ⟨N, hN⟩ : ∃ N, N = (slotL m).length := ⟨_, rfl⟩
          rw [← hN] at S10
          have hNR : N = 2 ^ R := by rw [hN]; exact HR.out.len
          obtain ⟨As, cs, rfl, _, _, _⟩ := (S10.row_rd (i := 3) rfl).open_
          have HN := Lib.hid hN
          have HNR := Lib.hid hNR
          have HS10 := Lib.hid S10
          clear S9 S10 hN hNR HDR HS8
          go_wp2_with (at_make; refine wpList_make_st eltI rfl _ _ rfl (n := m) rfl rfl HS10.out (by omega) (by omega) ?_; intro wd gl0 S11 _ _; rw [HZ.out] at S11; simp only [List.cons_append, List.nil_append] at S11; have HS11 := Lib.hid S11; clear S11)
          have HSX : Hid (St W wd [O0, O1, row 9 1 (.slice (some ⟨bp, 0, none⟩) m cp) m (strsV nmK m), row 9 1 (.slice As N cs) (2 ^ (R - 0)) (strsO nmK (rndL (upK pl) none m 0)), row 3 1 (.slice (some ⟨gl0, 0, none⟩) m m) m (intsI (gl (fun p => (lostK pl m 0 p : Int)) m)), row 32 1 (.slice none 0 0) 0 (([] : List (Value × List Value)).map Prod.fst), rdAll []]) := by
            have S12 := (HS11.out.row_nil 32 1).rdAll_new
            simp only [List.cons_append, List.nil_append] at S12
            show St _ _ _
            rw [rndL_zero, Nat.sub_zero, ← HNR.out]
            exact S12
          clear HS11 HS10
          go_loopw [15, 11, 13] (fun rd sv lv w' => ∃ (r : Nat) (ms : List (Value × List Value)), r ≤ R ∧ rd = .int .i64 ((r : Int) + 1) ∧ Hid (ms.map Prod.snd = LLK nmK pl m r) ∧ St W w' [O0, O1, row 9 1 (.slice (some ⟨bp, 0, none⟩) m cp) m (strsV nmK m), row 9 1 sv (2 ^ (R - r)) (strsO nmK (rndL (upK pl) none m r)), row 3 1 (.slice (some ⟨gl0, 0, none⟩) m m) m (intsI (gl (fun p => (lostK pl m r p : Int)) m)), row 32 1 lv r (ms.map Prod.fst), rdAll ms]) (fun rd _ _ _ => 20 - (intOf rd).toNat)
          case atStart => exact ⟨0, [], Nat.zero_le _, rfl, rfl, HSX.out⟩
          case round =>
            obtain ⟨r, ms, hr, rfl, hms, S⟩ := hrel
            clear HSX
            have t9 : decide ((r : Int) + 1 < 9) = true := decide_eq_true (by omega)
            obtain ⟨q, hq⟩ : ∃ q, q = 2 ^ (R - r) := ⟨_, rfl⟩
            rw [← hq] at S
            obtain ⟨Aq, cq, rfl, _, _, _⟩ := (S.row_rd (i := 3) rfl).open_
            by_cases hlt : r < R
            · have hqc := pow_cases hR4.2 hlt
              rw [← hq] at hqc
              have HQC := Lib.hid hqc
              have hq16 : 2 ≤ q ∧ q ≤ 16 := by omega
              obtain ⟨q', hq'⟩ : ∃ q', q' = (slotL m).length / 2 ^ (r + 1) := ⟨_, rfl⟩
              have hqq : q = 2 * q' := by
                have h1 := slotK_two HR.out hlt
                rw [slotK_len HR.out hr, ← hq, ← hq'] at h1
                exact h1
              have HQQ := Lib.hid hqq
              have HQP := Lib.hid hq'
              have HQ := Lib.hid hq
              have t1 : decide ((1 : Int) < (q : Int)) = true := decide_eq_true (by omega)
              have t1' : decide (1 < q) = true := decide_eq_true (by omega)
              have hSL : (rndL (upK pl) none m r).length = q := by rw [rndL_len, slotK_len HR.out hr, hq]
              have hPB : ∀ i p, (rndL (upK pl) none m r).getD i none = some p → p < m := fun i p h => rnd_bd HR.out h
              have hINJ := rndL_inj (up := upK pl) (gone := none) (n := m) (r := r) HR.out.inj
              have hLN : ∀ k, (lossL (upK pl) none (rndL (upK pl) none m r) k).Nodup := fun k => lossL_nodup hINJ k
              have hLE : Hid (lossL (upK pl) none (rndL (upK pl) none m r) q' = lsK pl m r) := by show _ = _; rw [hq']; rfl
              have HRK := Lib.hid (runK (pl := pl) HR.out)
              have hLB : ∀ p, lostK pl m r p ≤ 90 := fun p => by have := lostK_le pl m p r (by omega); omega
              have HLE := hLE
              have HSL := Lib.hid hSL
              have HPB := Lib.hid hPB
              have HINJ := Lib.hid hINJ
              have HLN := Lib.hid hLN
              have HLB := Lib.hid hLB
              obtain ⟨SS, hSS⟩ : ∃ SS, SS = rndL (upK pl) none m r := ⟨_, rfl⟩
              rw [← hSS] at HLE HSL HPB HINJ HLN S
              have HSS := Lib.hid hSS
              obtain ⟨LK, hLK⟩ : ∃ LK, LK = lostK pl m r := ⟨_, rfl⟩
              rw [← hLK] at HLB
              have HLK := Lib.hid hLK
              have S7 := S.row_nil 9 1
              simp only [List.cons_append, List.nil_append] at S7
              have HS8 : Hid (St W wr [O0, O1, row 9 1 (.slice (some ⟨bp, 0, none⟩) m cp) m (strsV nmK m), row 9 1 (.slice Aq q cq) q (strsO nmK SS), row 3 1 (.slice (some ⟨gl0, 0, none⟩) m m) m (intsI (gl (lostP LK (lossL (upK pl) none SS 0) r) m)), row 32 1 u13 r (ms.map Prod.fst), rdAll ms, row 9 1 (.slice none 0 0) (lossL (upK pl) none SS 0).length (strsL nmK (lossL (upK pl) none SS 0))]) := by
                show St _ _ _
                rw [show lossL (upK pl) none SS 0 = [] from rfl, lostP_nil, hLK]
                exact S7
              have HMS := Lib.hid hms.out
              clear S S7 hqc hq' hq hqq hSL hPB hINJ hLN hLE hLB hSS hLK
              generalize wr = wo at *
              go_wp2_with fail
              go_loopw [17, 16] (fun i lv w' => ∃ k : Nat, k ≤ q' ∧ i = .int .i64 (2 * (k : Int)) ∧ St W w' [O0, O1, row 9 1 (.slice (some ⟨bp, 0, none⟩) m cp) m (strsV nmK m), row 9 1 (.slice Aq q cq) q (strsO nmK SS), row 3 1 (.slice (some ⟨gl0, 0, none⟩) m m) m (intsI (gl (lostP LK (lossL (upK pl) none SS k) r) m)), row 32 1 u13 r (ms.map Prod.fst), rdAll ms, row 9 1 lv (lossL (upK pl) none SS k).length (strsL nmK (lossL (upK pl) none SS k))]) (fun i _ _ => q' - (intOf i).toNat / 2)
              case atStart => exact ⟨0, Nat.zero_le _, rfl, HS8.out⟩
              case round =>
                obtain ⟨k, hk, rfl, S⟩ := hrel
                clear HS8
                by_cases hltk : k < q'
                · have hqq := HQQ.out
                  have hk2 : 2 * k < q := by omega
                  have hk3 : 2 * k + 1 < q := by omega
                  clear hqq
                  obtain ⟨b1, o1, ux0, hA1, hb0, hu0, d0⟩ := (S.row_rd (i := 3) rfl).at_ hk2
                  obtain ⟨b2', o2', ux1, hA2, _, hu1, d1⟩ := (S.row_rd (i := 3) rfl).at_ hk3
                  subst hA1
                  cases hA2
                  rw [strsO_at (by rw [HSL.out]; exact hk2)] at hu0
                  rw [strsO_at (by rw [HSL.out]; exact hk3)] at hu1
                  cases hu0
                  cases hu1
                  have hx := HPB.out (2 * k)
                  have hy := HPB.out (2 * k + 1)
                  have hxy : ∀ p, SS.getD (2 * k) none = some p → SS.getD (2 * k + 1) none = some p → False := fun p h1 h2 => by
                    have := HINJ.out _ _ p (getD_some.1 h1) (getD_some.1 h2); omega
                  have HLS := Lib.hid (lossL_snoc (upK pl) none SS k)
                  have hlk0 : (lossL (upK pl) none SS k).length ≤ 40 := by have := lossL_len (upK pl) none SS k; omega
                  have HND := Lib.hid (HLN.out (k + 1))
                  generalize lossL (upK pl) none SS k = lk at *
                  obtain ⟨lk1, hlk1⟩ : ∃ l, l = lossL (upK pl) none SS (k + 1) := ⟨_, rfl⟩
                  rw [← hlk1] at HLS HND
                  have HLK1 := Lib.hid hlk1
                  clear hlk1
                  generalize SS.getD (2 * k) none = x at *
                  generalize SS.getD (2 * k + 1) none = y at *
                  have HSX := Lib.hid hx
                  have HSY := Lib.hid hy
                  have HXY := Lib.hid hxy
                  obtain ⟨sa, hsa⟩ : ∃ sa, sa = nmO nmK x := ⟨_, rfl⟩
                  obtain ⟨sb, hsb⟩ : ∃ sb, sb = nmO nmK y := ⟨_, rfl⟩
                  obtain ⟨ia, hia⟩ : ∃ ia, ia = seedO x := ⟨_, rfl⟩
                  obtain ⟨ib, hib⟩ : ∃ ib, ib = seedO y := ⟨_, rfl⟩
                  have HRP := Lib.hid (S.row_rd (i := 2) rfl)
                  have HCA : Hid (∀ j, Calls Tryz.prog 11 #[.slice (some ⟨bp, 0, none⟩) m cp, .string sa] (wr.drewN j) fun e w' => e = .returned (.int .i64 ia) ∧ wr.drewN j = w') := fun j => by rw [hsa, hia]; exact divotSeed_ok (wr.drewN j) _ _ m nmK (HRP.out.loc (w' := wr.drewN j) (Nat.le_refl _) (fun _ _ => rfl)) HGN.out x hx
                  have HCB2 : Hid (∀ j, Calls Tryz.prog 11 #[.slice (some ⟨bp, 0, none⟩) m cp, .string sb] (wr.drewN j) fun e w' => e = .returned (.int .i64 ib) ∧ wr.drewN j = w') := fun j => by rw [hsb, hib]; exact divotSeed_ok (wr.drewN j) _ _ m nmK (HRP.out.loc (w' := wr.drewN j) (Nat.le_refl _) (fun _ _ => rfl)) HGN.out y hy
                  rw [← hsa] at d0
                  rw [← hsb] at d1
                  have HIA := Lib.hid hia
                  have HIB := Lib.hid hib
                  have HS1 := Lib.hid S
                  clear S hx hy hxy hsa hsb hia hib
                  have p1 : decide (2 * (k : Int) + 1 < (q : Int)) = true := decide_eq_true (by omega)
                  have p2 : decide (2 * (k : Int) < 0) = false := decide_eq_false (by omega)
                  have p3 : decide ((q : Int) ≤ 2 * (k : Int)) = false := decide_eq_false (by omega)
                  have p4 : decide (2 * (k : Int) + 1 < 0) = false := decide_eq_false (by omega)
                  have p5 : decide ((q : Int) ≤ 2 * (k : Int) + 1) = false := decide_eq_false (by omega)
                  have q1 : 0 ≤ 2 * (k : Int) := by omega
                  have q2 : 2 * (k : Int) < (q : Int) := by omega
                  have q3 : 0 ≤ 2 * (k : Int) + 1 := by omega
                  have q4 : 2 * (k : Int) + 1 < (q : Int) := by omega
                  have n1 : (2 * (k : Int)).toNat = 2 * k := by omega
                  have n2 : (2 * (k : Int) + 1).toNat = 2 * k + 1 := by omega
                  go_wp2_with fail
                  refine wp_cls 13 (fun w' => ∃ j, w' = wr.drewN j) (by kernel_rfl) (by kernel_rfl) ⟨1, rfl⟩ ?_
                  simp only [List.take_succ_cons, List.take_zero, List.drop_succ_cons, List.drop_zero]
                  generalize hK : (fun w' => ∃ j, w' = wr.drewN j) = K
                  intro hne
                  have kw : ∀ y : Wd K, ∃ j, y.w = wr.drewN j := by subst hK; exact fun y => y.h
                  have k0 : ∀ y : Wd K, y.w.cell? ⟨b1, o1 + 2 * k, none⟩ = some (.string sa) := fun y => by obtain ⟨j, e⟩ := kw y; rw [e]; exact d0
                  have k1 : ∀ y : Wd K, y.w.cell? ⟨b1, o1 + (2 * k + 1), none⟩ = some (.string sb) := fun y => by obtain ⟨j, e⟩ := kw y; rw [e]; exact d1
                  have HC1 : Hid (∀ y : Wd K, Calls Tryz.prog 11 #[.slice (some ⟨bp, 0, none⟩) m cp, .string sa] y.w fun e w' => e = .returned (.int .i64 ia) ∧ y.w = w') := fun y => by obtain ⟨j, e⟩ := kw y; rw [e]; exact HCA.out j
                  have HC2 : Hid (∀ y : Wd K, Calls Tryz.prog 11 #[.slice (some ⟨bp, 0, none⟩) m cp, .string sb] y.w fun e w' => e = .returned (.int .i64 ib) ∧ y.w = w') := fun y => by obtain ⟨j, e⟩ := kw y; rw [e]; exact HCB2.out j
                  clear hK
                  iterate 5 (go_big_quiet_step ((fail)))
                  go_big_quiet_step ((go_at_call 11; exact cls_same (HC1.out _)))
                  iterate 6 (go_big_quiet_step ((fail)))
                  go_big_quiet_step ((go_at_call 11; exact cls_same (HC2.out _)))
                  refine wpQuiet_nil ?_
                  intro yw
                  obtain ⟨j, hj⟩ := kw yw
                  have HS2 : Hid (St W yw.w [O0, O1, row 9 1 (.slice (some ⟨bp, 0, none⟩) m cp) m (strsV nmK m), row 9 1 (.slice (some ⟨b1, o1, none⟩) q cq) q (strsO nmK SS), row 3 1 (.slice (some ⟨gl0, 0, none⟩) m m) m (intsI (gl (lostP LK lk r) m)), row 32 1 u13 r (ms.map Prod.fst), rdAll ms, row 9 1 u16 lk.length (strsL nmK lk)]) := by rw [hj]; exact HS1.out.drewN j
                  clear k0 k1 kw hj hne HS1 HCA HCB2 HC1 HC2 HRP
                  generalize yw.w = w3 at *
                  clear yw d0 d1
                  cases x with
                  | none =>
                    have hia : ia = -1 := HIA.out
                    subst hia
                    clear HIA
                    have HS3 : Hid (St W w3 [O0, O1, row 9 1 (.slice (some ⟨bp, 0, none⟩) m cp) m (strsV nmK m), row 9 1 (.slice (some ⟨b1, o1, none⟩) q cq) q (strsO nmK SS), row 3 1 (.slice (some ⟨gl0, 0, none⟩) m m) m (intsI (gl (lostP LK lk1 r) m)), row 32 1 u13 r (ms.map Prod.fst), rdAll ms, row 9 1 u16 lk1.length (strsL nmK lk1)]) := by
                      have e : lk1 = lk := by rw [HLS.out]; simp [lossP]
                      rw [e]; exact HS2.out
                    clear HS2
                    go_wp2_with fail
                    go_roundw
                    case rel => exact ⟨k + 1, by omega, by go_num, by rw [← HLK1.out]; exact HS3.out⟩
                    case measure => simp [intOf]; omega
                  | some a =>
                    have hia : ia = (a : Int) := HIA.out
                    subst hia
                    have ha : a < m := HSX.out a rfl
                    have ta : decide ((a : Int) < 0) = false := decide_eq_false (by omega)
                    cases y with
                    | none =>
                      have hib : ib = -1 := HIB.out
                      subst hib
                      clear HIB HIA
                      have HS3 : Hid (St W w3 [O0, O1, row 9 1 (.slice (some ⟨bp, 0, none⟩) m cp) m (strsV nmK m), row 9 1 (.slice (some ⟨b1, o1, none⟩) q cq) q (strsO nmK SS), row 3 1 (.slice (some ⟨gl0, 0, none⟩) m m) m (intsI (gl (lostP LK lk1 r) m)), row 32 1 u13 r (ms.map Prod.fst), rdAll ms, row 9 1 u16 lk1.length (strsL nmK lk1)]) := by
                        have e : lk1 = lk := by rw [HLS.out]; simp [lossP]
                        rw [e]; exact HS2.out
                      clear HS2
                      go_wp2_with fail
                      go_roundw
                      case rel => exact ⟨k + 1, by omega, by go_num, by rw [← HLK1.out]; exact HS3.out⟩
                      case measure => simp [intOf]; omega
                    | some b2 =>
                      have hib : ib = (b2 : Int) := HIB.out
                      subst hib
                      have hb : b2 < m := HSY.out b2 rfl
                      have tb : decide ((b2 : Int) < 0) = false := decide_eq_false (by omega)
                      have hls := HLS.out
                      rw [lossK_two] at hls
                      have c0 := HCP.out _ _ HS2.out a ha
                      have c1 := HCP.out _ _ HS2.out b2 hb
                      have x1 : decide ((m : Int) ≤ (a : Int)) = false := decide_eq_false (by omega)
                      have x2 : decide (m ≤ a) = false := decide_eq_false (by omega)
                      have x3 : decide ((m : Int) ≤ (b2 : Int)) = false := decide_eq_false (by omega)
                      have x4 : decide (m ≤ b2) = false := decide_eq_false (by omega)
                      clear HIA HIB
                      by_cases hp : pl a < pl b2
                      · have y1 : decide ((pl a : Int) < (pl b2 : Int)) = true := decide_eq_true (by omega)
                        have y1' : decide (pl a < pl b2) = true := decide_eq_true hp
                        have HL1 : Hid (lk1 = lk ++ [b2]) := by show _ = _; rw [hls, if_pos hp]
                        have hst := lostP_step (L := LK) (lk := lk) (z := b2) (r := r) (by rw [← HL1.out]; exact HND.out)
                        rw [← HL1.out] at hst
                        have HST := Lib.hid hst
                        have HBZ := lostP_bd (L := LK) (lk := lk) (r := r) (p := b2) (HLB.out _) (by omega)
                        have c5 : w3.cell? ⟨bp, b2, none⟩ = some (.string (nmK b2)) := by
                          obtain ⟨_, _, u, hA, _, hu, hc⟩ := (HS2.out.row_rd (i := 2) rfl).at_ hb
                          cases hA
                          rw [strsV_at nmK hb] at hu
                          cases hu
                          rwa [Nat.zero_add] at hc
                        have e5 : strsL nmK lk1 = strsL nmK lk ++ [.string (nmK b2)] := by rw [HL1.out, strsL_snoc]; rfl
                        have e6 : lk1.length = lk.length + 1 := by rw [HL1.out, List.length_append]; rfl
                        have HE5 := Lib.hid e5
                        have HE6 := Lib.hid e6
                        generalize pl a = pa at *
                        generalize pl b2 = pb at *
                        generalize nmK b2 = nz at *
                        obtain ⟨lz, hlz⟩ : ∃ z, z = lostP LK lk r b2 := ⟨_, rfl⟩
                        rw [← hlz] at HBZ HST
                        have HLZ := Lib.hid hlz
                        have hw : IntKind.i64.wrap (lz + ((r : Int) + 1)) = lz + ((r : Int) + 1) := IntWalk.i64_in _ (by omega)
                        clear hls hst e5 e6 hlz HLS
                        go_wp2_with fail
                        go_quiet (fail)
                        all_goals
                          go_wp2_with (at_builtin; refine wpList_append_st eltStrD rfl _ _ rfl rfl ((HS2.out.drewN _).alloc _) (k := 7) rfl rfl (rd_one (by simp)) (one_str5 _) (by omega) (by omega) ?_; intro v' w' S' _; simp only [List.set_cons_zero, List.set_cons_succ] at S'; obtain ⟨c6, f6⟩ := row_int5 S' (i := 4) rfl hb; rw [← HLZ.out] at c6; have HS9 := Lib.hid S'; clear S')
                          go_roundw
                          case rel =>
                            refine ⟨k + 1, by omega, by go_num, ?_⟩
                            have S10 := HS9.out.row_set (i := 4) rfl b2 (.int .i64 (lz + ((r : Int) + 1)))
                            simp only [List.set_cons_zero, List.set_cons_succ] at S10
                            rw [gl_set5 HST.out.1 HST.out.2] at S10
                            rw [← HLK1.out, HE5.out, HE6.out]
                            exact S10
                          case measure => simp [intOf]; omega
                      · have y1 : decide ((pl a : Int) < (pl b2 : Int)) = false := decide_eq_false (by omega)
                        have y1' : decide (pl a < pl b2) = false := decide_eq_false hp
                        have HL1 : Hid (lk1 = lk ++ [a]) := by show _ = _; rw [hls, if_neg hp]
                        have hst := lostP_step (L := LK) (lk := lk) (z := a) (r := r) (by rw [← HL1.out]; exact HND.out)
                        rw [← HL1.out] at hst
                        have HST := Lib.hid hst
                        have HBZ := lostP_bd (L := LK) (lk := lk) (r := r) (p := a) (HLB.out _) (by omega)
                        have c5 : w3.cell? ⟨bp, a, none⟩ = some (.string (nmK a)) := by
                          obtain ⟨_, _, u, hA, _, hu, hc⟩ := (HS2.out.row_rd (i := 2) rfl).at_ ha
                          cases hA
                          rw [strsV_at nmK ha] at hu
                          cases hu
                          rwa [Nat.zero_add] at hc
                        have e5 : strsL nmK lk1 = strsL nmK lk ++ [.string (nmK a)] := by rw [HL1.out, strsL_snoc]; rfl
                        have e6 : lk1.length = lk.length + 1 := by rw [HL1.out, List.length_append]; rfl
                        have HE5 := Lib.hid e5
                        have HE6 := Lib.hid e6
                        generalize pl a = pa at *
                        generalize pl b2 = pb at *
                        generalize nmK a = nz at *
                        obtain ⟨lz, hlz⟩ : ∃ z, z = lostP LK lk r a := ⟨_, rfl⟩
                        rw [← hlz] at HBZ HST
                        have HLZ := Lib.hid hlz
                        have hw : IntKind.i64.wrap (lz + ((r : Int) + 1)) = lz + ((r : Int) + 1) := IntWalk.i64_in _ (by omega)
                        clear hls hst e5 e6 hlz HLS
                        go_wp2_with fail
                        go_quiet (fail)
                        all_goals
                          go_wp2_with (at_builtin; refine wpList_append_st eltStrD rfl _ _ rfl rfl ((HS2.out.drewN _).alloc _) (k := 7) rfl rfl (rd_one (by simp)) (one_str5 _) (by omega) (by omega) ?_; intro v' w' S' _; simp only [List.set_cons_zero, List.set_cons_succ] at S'; obtain ⟨c6, f6⟩ := row_int5 S' (i := 4) rfl ha; rw [← HLZ.out] at c6; have HS9 := Lib.hid S'; clear S')
                          go_roundw
                          case rel =>
                            refine ⟨k + 1, by omega, by go_num, ?_⟩
                            have S10 := HS9.out.row_set (i := 4) rfl a (.int .i64 (lz + ((r : Int) + 1)))
                            simp only [List.set_cons_zero, List.set_cons_succ] at S10
                            rw [gl_set5 HST.out.1 HST.out.2] at S10
                            rw [← HLK1.out, HE5.out, HE6.out]
                            exact S10
                          case measure => simp [intOf]; omega
                · obtain rfl : k = q' := by omega
                  have hqq := HQQ.out
                  have hk2 : ¬ (2 * k + 1 < q) := by omega
                  have hkb : k ≤ 8 := by omega
                  clear hqq
                  have p1 : decide (2 * (k : Int) + 1 < (q : Int)) = false := decide_eq_false (by omega)
                  obtain ⟨lk, hlk⟩ : ∃ l, l = lsK pl m r := ⟨_, rfl⟩
                  rw [HLE.out, HLK.out, lostP_end, ← hlk] at S
                  have HLKE := Lib.hid hlk
                  obtain ⟨Al, cl, rfl, _, _, _⟩ := (S.row_rd (i := 7) rfl).open_
                  have hlk63 := (S.row_rd (i := 7) rfl).le
                  have S12 := S.freeze5 (L := [_, _, _, _, _, _]) (by rw [strsL_len])
                  simp only [List.cons_append, List.nil_append] at S12
                  have HSG := Lib.hid (S12.alloc (.cells #[.slice Al lk.length cl] 32))
                  clear S S12 hlk
                  go_wp2_with (at_builtin; refine wpList_append_st eltTS rfl _ _ rfl rfl HSG.out (k := 5) rfl rfl (rd_one (by simp)) (one_sl5 _ _ _) (by omega) (by omega) ?_; intro v' w5 S' _; simp only [List.set_cons_zero, List.set_cons_succ] at S'; have HS9 := Lib.hid S'; clear S')
                  have hml : ms.length = r := by
                    have := congrArg List.length HMS.out
                    rw [List.length_map, LLK_len] at this
                    exact this
                  have hu : (ms ++ [(Value.slice Al lk.length cl, strsL nmK lk)])[r]? = some (Value.slice Al lk.length cl, strsL nmK lk) := by
                    rw [List.getElem?_append_right (by omega), hml, Nat.sub_self]; rfl
                  have hrl := HS9.out.rdAll_at (i := 6) rfl hu
                  rw [strsL_len] at hrl
                  have hnd : (pres SS).Nodup := by rw [HSS.out]; exact HRK.out.nd r hlt
                  have hpb : ∀ p ∈ pres SS, p < m := by rw [HSS.out]; exact HRK.out.bd r hlt
                  have hln : lk.Nodup := by rw [HLKE.out]; exact HRK.out.ln r hlt
                  have hlp : ∀ p ∈ lk, p ∈ pres SS := by rw [HSS.out, HLKE.out]; exact HRK.out.lp r hlt
                  have hstp : rndL (upK pl) none m (r + 1) = advL lk SS k ∧ ∀ j, j < k → (stayO lk (SS.getD (2 * j) none) && stayO lk (SS.getD (2 * j + 1) none)) = false := by
                    obtain ⟨m', e1, _, e3, e4⟩ := HRK.out.len r hlt
                    have e1 : (rndL (upK pl) none m r).length = 2 * m' := e1
                    rw [← HSS.out, HSL.out, HQQ.out] at e1
                    obtain rfl : m' = k := by omega
                    rw [HSS.out, HLKE.out]
                    exact ⟨e3, e4⟩
                  have HADV := Lib.hid (advance_ok w5 q k (.slice Aq q cq) (.slice Al lk.length cl) nmK m SS lk (HS9.out.row_rd (i := 3) rfl).now hrl HGN.out HSL.out.symm HQQ.out HQC.out hnd hpb hln hlp hstp.2)
                  rw [← hstp.1] at HADV
                  have hk1 : k = 2 ^ (R - (r + 1)) := by rw [HQP.out]; exact slotK_len HR.out (by omega)
                  have HK1 := Lib.hid hk1
                  have HML := Lib.hid hml
                  clear hu hrl hnd hpb hln hlp hstp hk1 hml HSG
                  go_at_call 21
                  refine HADV.out.mono ?_
                  rintro e w6 ⟨vn, rfl, S13⟩
                  have S14 := HS9.out.call S13
                  simp only [List.cons_append, List.nil_append] at S14
                  have S15 := S14.sub (L' := [_, _, _, _, _, _, _]) (.cons_cons _ (.cons_cons _ (.cons_cons _ (.cons _ (List.Sublist.refl _)))))
                  have S16 := S15.perm6 (L' := [_, _, _] ++ ([_] ++ [_, _, _])) (.cons _ (.cons _ (.cons _ (List.perm_append_comm (l₁ := [_, _, _]) (l₂ := [_])))))
                  simp only [List.cons_append, List.nil_append] at S16
                  have HS16 := Lib.hid S16
                  clear S13 S14 S15 S16 HADV HS9
                  go_wp2_with fail
                  go_roundw
                  case rel =>
                    refine ⟨r + 1, ms ++ [(Value.slice Al lk.length cl, strsL nmK lk)], by omega, by go_num, ?_, ?_⟩
                    · show _ = _
                      rw [List.map_append, HMS.out, LLK_snoc, HLKE.out]; rfl
                    · rw [List.map_append, ← HK1.out]
                      exact HS16.out
                  case measure => simp [intOf]; omega
            · obtain rfl : r = R := by omega
              have hq1 : q = 1 := by rw [hq, Nat.sub_self]
              clear hq
              subst hq1
              obtain ⟨b0, hb0, hb0m⟩ := HOI.out 0 (by omega)
              obtain ⟨b1, hb1, hb1m⟩ := HOI.out 1 (by omega)
              have hp0 : pl b0 = 0 := HPA.out 0 b0 hb0
              have hp1 : pl b1 = 1 := HPA.out 1 b1 hb1
              have hbest := best_wins HPO.out HR.out hb0m (fun i _ => by omega)
              have hsec := second_loses HPO.out HR.out hb1m hb0m (by omega) (fun i hi h => by
                have h1 := HPG.out i hi
                rw [show pl i = 0 by omega, hb0] at h1
                exact (Option.some.inj h1).symm)
              have hrl : rndL (upK pl) none m r = [some b0] := by
                have e1 : (rndL (upK pl) none m r).length = 1 := by rw [rndL_len, slotK_len HR.out (Nat.le_refl _), Nat.sub_self]
                have e2 := rndL_get (up := upK pl) (gone := none) (n := m) (r := r) (i := 0) (by rw [slotK_len HR.out (Nat.le_refl _), Nat.sub_self]; decide)
                rw [hbest.2] at e2
                match hm : rndL (upK pl) none m r, e1 with
                | [x], _ => rw [hm] at e2; cases e2; rfl
              have HRUN := Lib.hid (run_ok wr _ _ m r nmK (fun r => rndL (upK pl) none m r) (lsK pl m) ⟨by omega, by omega⟩ (by omega) (S.row_rd (i := 2) rfl).now HGN.out (rndL_zero _ _ _) (runK HR.out) (by rw [slotK_len HR.out (Nat.le_refl _), Nat.sub_self])
                ⟨ms.map Prod.fst, (S.row_rd (i := 5) rfl).now, fun i hi => by
                  have e : (ms.map Prod.snd)[i]? = some (strsL nmK (lsK pl m i)) := by
                    rw [hms.out]; unfold LLK
                    rw [List.getElem?_map, List.getElem?_range hi]; rfl
                  rw [List.getElem?_map, Option.map_eq_some_iff] at e
                  obtain ⟨⟨v1, x1⟩, h1, h2⟩ := e
                  have h2 : x1 = strsL nmK (lsK pl m i) := h2
                  subst h2
                  have hrd := S.rdAll_at (i := 6) rfl h1
                  rw [strsL_len] at hrd
                  exact ⟨v1, by rw [List.getElem?_map, h1]; rfl, hrd⟩⟩)
              have hrl2 : RS nmK (fun r => rndL (upK pl) none m r) (r + 1) = RS nmK (fun r => rndL (upK pl) none m r) r ++ [[.string (nmK b0)]] := by
                rw [RS_snoc]
                show _ ++ [strsO nmK (rndL (upK pl) none m r)] = _
                rw [hrl]; rfl
              have hsr : strsO nmK (rndL (upK pl) none m r) = [.string (nmK b0)] := by rw [hrl]; rfl
              rw [hsr] at S
              have HRL2 := Lib.hid hrl2
              have HBE := Lib.hid hbest.1
              have HSE := Lib.hid hsec
              have HOB0 := Lib.hid hb0
              have HOB1 := Lib.hid hb1
              have HP0 := Lib.hid hp0
              have HP1 := Lib.hid hp1
              have HS := Lib.hid S
              obtain ⟨T, hT⟩ : ∃ T, T = r + 1 := ⟨_, rfl⟩
              rw [← hT] at HRUN HRL2
              have HT := Lib.hid hT
              have hTr : (T : Int) = (r : Int) + 1 := by omega
              obtain ⟨As1, cs1, rfl, _, _, _⟩ := (S.row_rd (i := 5) rfl).open_
              clear S hrl hrl2 hsr hbest hsec hb0 hb1 hp0 hp1 hT hTr hms
              go_wp2_with fail
              go_at_call 22
              refine HRUN.out.mono ?_
              rintro e w7 ⟨va, ms2, rfl, hms2, S17⟩
              have S18 := HS.out.call S17
              simp only [List.cons_append, List.nil_append] at S18
              have hT1 : 1 ≤ T := by have := HT.out; omega
              obtain ⟨ba, ca, rfl⟩ := row_some S18 (i := 7) rfl hT1
              have hml2 : ms2.length = T := by
                have := congrArg List.length hms2
                rw [List.length_map, HRL2.out, List.length_append, RS_len] at this
                have h2 := HT.out
                simp at this
                omega
              obtain ⟨vl, hvl⟩ : ∃ vl, ms2[r]? = some (vl, [.string (nmK b0)]) := by
                have e : (ms2.map Prod.snd)[r]? = some [.string (nmK b0)] := by
                  rw [hms2, HRL2.out, List.getElem?_append_right (by rw [RS_len]; omega), RS_len, Nat.sub_self]; rfl
                rw [List.getElem?_map, Option.map_eq_some_iff] at e
                obtain ⟨⟨v1, x1⟩, h1, h2⟩ := e
                have h2 : x1 = [.string (nmK b0)] := h2
                subst h2
                exact ⟨v1, h1⟩
              have hrl := S18.rdAll_at (i := 8) rfl hvl
              obtain ⟨Al1, cl1, rfl, _, _, _⟩ := hrl.open_
              have cl0 : w7.cell? ⟨ba, r, none⟩ = some (.slice Al1 1 cl1) := by
                obtain ⟨_, _, u, hA, _, hu, hc⟩ := (S18.row_rd (i := 7) rfl).at_ (k := r) (by have := HT.out; omega)
                cases hA
                rw [List.getElem?_map, hvl] at hu
                cases hu
                rwa [Nat.zero_add] at hc
              obtain ⟨bq, oq, uq, hAq, _, huq, cq0⟩ := (S18.row_rd (i := 3) rfl).at_ (k := 0) (by omega)
              subst hAq
              cases huq
              rw [Nat.add_zero] at cq0
              have HSN0 : Hid (∀ j, Calls Tryz.prog 23 #[.slice Al1 1 cl1, .slice (some ⟨bq, oq, none⟩) 1 cq] (w7.drewN j) fun e w' => e = .returned (.bool true) ∧ ∃ q, w' = (w7.drewN j).drewN q) := fun j =>
                sameNames_yes (w7.drewN j) _ _ _ _ 1 [nmK b0] (hrl.loc (w' := w7.drewN j) (Nat.le_refl _) (fun _ _ => rfl)) ((S18.row_rd (i := 3) rfl).loc (w' := w7.drewN j) (Nat.le_refl _) (fun _ _ => rfl))
              have co0 := HCO.out _ _ S18 0 b0 HOB0.out
              have cp0 : w7.cell? ⟨bp, b0, none⟩ = some (.string (nmK b0)) := by
                obtain ⟨_, _, u, hA, _, hu, hc⟩ := (S18.row_rd (i := 2) rfl).at_ hb0m
                cases hA
                rw [strsV_at nmK hb0m] at hu
                cases hu
                rwa [Nat.zero_add] at hc
              have ct0 := (row_int5 S18 (i := 4) rfl hb0m).1
              have hz0 : ((lostK pl m r b0 : Nat) : Int) = 0 := by rw [HBE.out]; rfl
              rw [hz0] at ct0
              have s1 : ((T : Int) != (r : Int) + 1) = false := by have := HT.out; simp; omega
              have s2 : (T : Int) - 1 = (r : Int) := by have := HT.out; omega
              have s3 : decide ((T : Int) ≤ (r : Int)) = false := decide_eq_false (by have := HT.out; omega)
              have s4 : decide (T ≤ r) = false := decide_eq_false (by have := HT.out; omega)
              have s5 : r < T := by have := HT.out; omega
              have s6 : decide ((m : Int) ≤ (b0 : Int)) = false := decide_eq_false (by omega)
              have s7 : decide (m ≤ b0) = false := decide_eq_false (by omega)
              have s8 : ((nmK b0).toList != (nmK b0).toList) = false := by simp
              have s9 : decide ((T : Int) - 1 < 0) = false := decide_eq_false (by omega)
              have s10 : decide ((T : Int) ≤ (T : Int) - 1) = false := decide_eq_false (by omega)
              have HS18 := Lib.hid S18
              clear hms2 S17 S18 hml2 hvl hrl hz0 HRUN HS
              generalize nmK b0 = n0 at *
              go_wp2_with fail
              refine wp_cls 46 (fun w' => ∃ j, w' = w7.drewN j) (by kernel_rfl) (by kernel_rfl) ⟨1, rfl⟩ ?_
              simp only [List.take_succ_cons, List.take_zero, List.drop_succ_cons, List.drop_zero]
              generalize hK : (fun w' => ∃ j, w' = w7.drewN j) = K
              intro hne
              have kw : ∀ y : Wd K, ∃ j, y.w = w7.drewN j := by subst hK; exact fun y => y.h
              have HSN : Hid (∀ y : Wd K, Calls Tryz.prog 23 #[.slice Al1 1 cl1, .slice (some ⟨bq, oq, none⟩) 1 cq] y.w fun e w2 => e = .returned (.bool true) ∧ ∃ z : Wd K, w2 = z.w) := by
                subst hK
                exact fun y => by
                  obtain ⟨j, e⟩ := y.h
                  rw [e]
                  exact (HSN0.out j).mono fun e w2 ⟨h1, q, h2⟩ => ⟨h1, ⟨⟨w2, j + q, by rw [h2]; exact World.drewN_drewN _ _ _⟩, rfl⟩⟩
              have k0 : ∀ y : Wd K, y.w.cell? ⟨ba, r, none⟩ = some (.slice Al1 1 cl1) := fun y => by obtain ⟨j, e⟩ := kw y; rw [e]; exact cl0
              have k1 : ∀ y : Wd K, y.w.cell? ⟨bq, oq, none⟩ = some (.string n0) := fun y => by obtain ⟨j, e⟩ := kw y; rw [e]; exact cq0
              have k2 : ∀ y : Wd K, y.w.cell? ⟨bo, 0, none⟩ = some (.int .i64 (b0 : Int)) := fun y => by obtain ⟨j, e⟩ := kw y; rw [e]; exact co0
              have k3 : ∀ y : Wd K, y.w.cell? ⟨bp, b0, none⟩ = some (.string n0) := fun y => by obtain ⟨j, e⟩ := kw y; rw [e]; exact cp0
              have k4 : ∀ y : Wd K, y.w.cell? ⟨gl0, b0, none⟩ = some (.int .i64 0) := fun y => by obtain ⟨j, e⟩ := kw y; rw [e]; exact ct0
              clear hK
              change wpQuiet _ _ _ _ (_ :: _ :: _ :: _ :: _ :: _ :: _ :: _ :: _ :: _ :: _ :: _ :: _ :: _ :: _ :: _ :: _ :: _ :: _ :: _ :: _ :: _ :: _ :: _ :: _ :: _ :: _ :: _ :: _ :: _ :: _ :: _ :: _ :: _ :: _ :: _ :: _ :: _ :: _ :: _ :: _ :: _ :: _ :: _ :: _ :: _ :: []) _
              repeat (go_big_quiet_step ((exact HSN.out _)))
              refine wpQuiet_nil ?_
              intro y
              obtain ⟨j, hj⟩ := kw y
              have HSE2 : Hid (St W y.w [O0, O1, row 3 1 (.slice (some ⟨gl0, 0, none⟩) m m) m (intsI (gl (fun p => (lostK pl m r p : Int)) m))]) := by
                rw [hj]
                exact (HS18.out.drewN j).sub (.cons_cons _ (.cons_cons _ (.cons _ (.cons _ (.cons_cons _ (List.nil_sublist _))))))
              clear kw HSN k0 k1 k2 k3 k4 hne hj cl0 cq0 co0 cp0 ct0 HSN0 HS18
              generalize y.w = w8 at *
              go_wp2_with fail
              have HFS : Hid (∀ i, i < m → i ≠ b0 → (lostK pl m r i : Int) = firstK pl m i m) := fun i hi hne => by
                have h1 := HPG.out i hi
                have h0 : pl b0 < pl i := by
                  rw [HP0.out]
                  rcases Nat.eq_zero_or_pos (pl i) with h2 | h2
                  · rw [h2, HOB0.out] at h1
                    exact absurd (Option.some.inj h1).symm hne
                  · exact h2
                exact (lost_first HPO.out HR.out hi hb0m h0).1
              have HMT : Hid (∀ i k, i < m → k < m → i ≠ k → ∀ w, Calls Tryz.prog 24 #[.int .i64 m, .int .i64 ((i : Int) + 1), .int .i64 ((k : Int) + 1)] w fun e w' => e = .returned (.tuple #[.int .i64 (meetK m i k : Nat), .int .i64 0]) ∧ Below w.heap.size w w') := fun i k hi hk hik w => meet_ok w m r i k HR.out ⟨by omega, by omega⟩ hi hk hik
              have HCL : Hid (∀ w' i, St W w' [O0, O1, row 3 1 (.slice (some ⟨gl0, 0, none⟩) m m) m (intsI (gl (fun p => (lostK pl m r p : Int)) m))] → i < m → w'.cell? ⟨gl0, i, none⟩ = some (.int .i64 (lostK pl m r i : Nat))) := fun w' i h hi => (row_int5 h (i := 2) rfl hi).1
              go_loopw [220] (fun i w' => ∃ k : Nat, k ≤ m ∧ i = .int .i64 k ∧ St W w' [O0, O1, row 3 1 (.slice (some ⟨gl0, 0, none⟩) m m) m (intsI (gl (fun p => (lostK pl m r p : Int)) m))]) (fun i _ => m - (intOf i).toNat)
              case atStart => exact ⟨0, Nat.zero_le _, rfl, HSE2.out⟩
              case round =>
                obtain ⟨i, hi, rfl, S⟩ := hrel
                clear HSE2
                by_cases him : i < m
                · have co0 := HCO.out _ _ S 0 b0 HOB0.out
                  have x1 : decide ((m : Int) ≤ (i : Int)) = false := decide_eq_false (by omega)
                  have x2 : decide (m ≤ i) = false := decide_eq_false (by omega)
                  by_cases hib : i = b0
                  · have y1 : ((i : Int) == (b0 : Int)) = true := by simp [hib]
                    have y1' : (i == b0) = true := by simp [hib]
                    have HS1 := Lib.hid S
                    clear S hib
                    go_wp2_with fail
                    go_roundw
                    case rel => exact ⟨i + 1, by omega, by go_num, HS1.out⟩
                    case measure => simp [intOf]; omega
                  · have y1 : ((i : Int) == (b0 : Int)) = false := by rw [Bool.eq_false_iff]; intro e; have := eq_of_beq e; omega
                    have y1' : (i == b0) = false := by simp [hib]
                    have HFI := Lib.hid (HFS.out i him hib)
                    have HF0 : Hid (firstK pl m i 0 = 99) := rfl
                    have HS1 := Lib.hid S
                    clear S hib
                    go_wp2_with fail
                    go_loopw [230, 23] (fun j fv w' => ∃ k : Nat, k ≤ m ∧ j = .int .i64 k ∧ fv = .int .i64 (firstK pl m i k) ∧ St W w' [O0, O1, row 3 1 (.slice (some ⟨gl0, 0, none⟩) m m) m (intsI (gl (fun p => (lostK pl m r p : Int)) m))]) (fun j _ _ => m - (intOf j).toNat)
                    case atStart => exact ⟨0, Nat.zero_le _, rfl, by rw [HF0.out], HS1.out⟩
                    case round =>
                      obtain ⟨k, hk, rfl, rfl, S⟩ := hrel
                      clear HS1
                      by_cases hkm : k < m
                      · have c1 := HCP.out _ _ S k hkm
                        have c2 := HCP.out _ _ S i him
                        have z1 : decide ((m : Int) ≤ (k : Int)) = false := decide_eq_false (by omega)
                        have z2 : decide (m ≤ k) = false := decide_eq_false (by omega)
                        have hfb := firstK_spec pl m i k
                        have hf1 : firstK pl m i (k + 1) = if pl k < pl i then min (firstK pl m i k) (meetK m i k) else firstK pl m i k := rfl
                        have hf0 : 0 ≤ firstK pl m i k ∧ firstK pl m i k ≤ 99 := ⟨hfb.2.1, hfb.1⟩
                        have HS2 := Lib.hid S
                        by_cases hp : pl k < pl i
                        · have y2 : decide ((pl k : Int) < (pl i : Int)) = true := decide_eq_true (by omega)
                          have y2' : decide (pl k < pl i) = true := decide_eq_true hp
                          have hki : i ≠ k := fun e => by rw [e] at hp; omega
                          have HM1 := Lib.hid (fun w => HMT.out i k him hkm hki w)
                          rw [if_pos hp] at hf1
                          have HF1 := Lib.hid hf1
                          generalize meetK m i k = mt at *
                          generalize firstK pl m i k = fk at *
                          obtain ⟨mn, hmn⟩ : ∃ z : Int, z = min fk (mt : Int) := ⟨_, rfl⟩
                          rw [← hmn] at HF1
                          have hmn2 : (if (mt : Int) < fk then (mt : Int) else fk) = mn := by rw [hmn]; split <;> omega
                          generalize pl k = pk at *
                          generalize pl i = pi at *
                          clear S hfb hf1 hp hki hmn
                          go_wp2_with fail
                          go_quiet (fail)
                          all_goals
                            go_wp2_with (go_at_call 24; refine (HM1.out _).mono ?_; rintro e w9 ⟨rfl, hb9⟩; have HS3 := Lib.hid ((HS2.out.drewN _).ext hb9); clear hb9)
                            go_roundw
                            case rel => exact ⟨k + 1, by omega, by go_num, by rw [HF1.out], HS3.out⟩
                            case measure => simp [intOf]; omega
                        · have y2 : decide ((pl k : Int) < (pl i : Int)) = false := decide_eq_false (by omega)
                          have y2' : decide (pl k < pl i) = false := decide_eq_false hp
                          rw [if_neg hp] at hf1
                          have HF1 := Lib.hid hf1
                          generalize firstK pl m i k = fk at *
                          generalize pl k = pk at *
                          generalize pl i = pi at *
                          clear S hfb hf1 hp
                          go_wp2_with fail
                          go_quiet (fail)
                          all_goals
                            go_wp2_with fail
                            go_roundw
                            case rel => exact ⟨k + 1, by omega, by go_num, by rw [HF1.out], HS2.out.drewN _⟩
                            case measure => simp [intOf]; omega
                      · obtain rfl : m = k := by omega
                        have c1 := HCL.out _ i S him
                        rw [HFI.out] at c1
                        have HS2 := Lib.hid S
                        generalize firstK pl m i m = fm at *
                        have y3 : (fm != fm) = false := by simp
                        clear S
                        go_wp2_with fail
                        go_roundw
                        case rel => exact ⟨i + 1, by omega, by go_num, HS2.out⟩
                        case measure => simp [intOf]; omega
                · obtain rfl : m = i := by omega
                  have x3 : decide ((m : Int) ≤ 1) = false := decide_eq_false (by omega)
                  have x4 : decide (m ≤ 1) = false := decide_eq_false (by omega)
                  have x5 : 1 < m := by omega
                  have hne : b0 ≠ b1 := fun e => by
                    have h0 := HP0.out
                    have h1 := HP1.out
                    rw [e, h1] at h0; omega
                  have HM1 := Lib.hid (fun w => HMT.out b0 b1 hb0m hb1m hne w)
                  have cl1 := HCL.out _ b1 S hb1m
                  rw [HSE.out, meetK_comm m b1 b0] at cl1
                  generalize meetK m b0 b1 = mt at *
                  have HS2 := Lib.hid S
                  have z1 : decide ((m : Int) ≤ (b1 : Int)) = false := decide_eq_false (by omega)
                  have z2 : decide (m ≤ b1) = false := decide_eq_false (by omega)
                  have z3 : ((mt : Int) == (mt : Int)) = true := by simp
                  have HCL1 : Hid (∀ w', St W w' [O0, O1, row 3 1 (.slice (some ⟨gl0, 0, none⟩) m m) m (intsI (gl (fun p => (lostK pl m r p : Int)) m))] → w'.cell? ⟨gl0, b1, none⟩ = some (.int .i64 (mt : Int))) := fun w' h => by
                    have h1 := (row_int5 h (i := 2) rfl hb1m).1
                    obtain ⟨h2, _⟩ := row_int5 HS2.out (i := 2) rfl hb1m
                    rw [h2] at cl1
                    rw [h1]; exact cl1
                  have hcb : ∀ w', St W w' [O0, O1, row 3 1 (.slice (some ⟨gl0, 0, none⟩) m m) m (intsI (gl (fun p => (lostK pl m r p : Int)) m))] → w'.cell? ⟨bo, 1, none⟩ = some (.int .i64 (b1 : Int)) := fun w' h => HCO.out _ _ h 1 b1 HOB1.out
                  have hca : ∀ w', St W w' [O0, O1, row 3 1 (.slice (some ⟨gl0, 0, none⟩) m m) m (intsI (gl (fun p => (lostK pl m r p : Int)) m))] → w'.cell? ⟨bo, 0, none⟩ = some (.int .i64 (b0 : Int)) := fun w' h => HCO.out _ _ h 0 b0 HOB0.out
                  have HCA := Lib.hid hca
                  have HCB := Lib.hid hcb
                  clear S hne cl1 hca hcb
                  go_wp2_with fail
                  refine wp_cls 14 (fun w' => St W w' [O0, O1, row 3 1 (.slice (some ⟨gl0, 0, none⟩) m m) m (intsI (gl (fun p => (lostK pl m r p : Int)) m))]) (by kernel_rfl) (by kernel_rfl) HS2.out.drew ?_
                  simp only [List.take_succ_cons, List.take_zero, List.drop_succ_cons, List.drop_zero]
                  generalize hK : (fun w' => St W w' [O0, O1, row 3 1 (.slice (some ⟨gl0, 0, none⟩) m m) m (intsI (gl (fun p => (lostK pl m r p : Int)) m))]) = K
                  intro hne
                  have kS : ∀ y : Wd K, St W y.w [O0, O1, row 3 1 (.slice (some ⟨gl0, 0, none⟩) m m) m (intsI (gl (fun p => (lostK pl m r p : Int)) m))] := by subst hK; exact fun y => y.h
                  have hK3 : ∀ w w' : World, K w → Below w.heap.size w w' → K w' := by subst hK; exact fun w w' h h' => h.ext h'
                  have k0 : ∀ y : Wd K, y.w.cell? ⟨bo, 0, none⟩ = some (.int .i64 (b0 : Int)) := fun y => HCA.out _ (kS y)
                  have k1 : ∀ y : Wd K, y.w.cell? ⟨bo, 1, none⟩ = some (.int .i64 (b1 : Int)) := fun y => HCB.out _ (kS y)
                  have KS := Lib.hid kS
                  clear hK kS
                  change wpQuiet _ _ _ _ (_ :: _ :: _ :: _ :: _ :: _ :: _ :: _ :: _ :: _ :: _ :: _ :: _ :: _ :: []) _
                  repeat (go_big_quiet_step ((go_at_call 24; exact cls_below hK3 (HM1.out _))))
                  refine wpQuiet_nil ?_
                  intro y
                  have HSY := Lib.hid (KS.out y)
                  clear k0 k1 hK3 hne KS
                  generalize y.w = w10 at *
                  have e0 := HCB.out _ HSY.out
                  have e1 := HCL1.out _ HSY.out
                  have hbf := HSY.out.bel
                  have HBF := Lib.hid hbf
                  clear hbf
                  go_wp2_with (go_at_call 9; refine (HLR.out _ HBF.out).mono ?_; rintro e w' ⟨rfl, hb2⟩; have HB2 := Lib.hid hb2; clear hb2)
                  go_ret
                  exact ⟨rfl, HB2.out⟩
end Go.Proofs.YtkkkfjinflepmaaGreatDoor
