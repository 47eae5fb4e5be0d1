/- Part 25 of the walks of the golf union's program: WV5, SX. -/
import Derived.Test.YtlffgdmljioaoaaGreatDoorD22
import Derived.Test.YtlffgdmljioaoaaGreatDoorD01
import Derived.Test.YtlffgdmljioaoaaGreatDoorD09
set_option linter.unusedVariables false
set_option linter.unusedSimpArgs false
set_option linter.unusedSectionVars false
set_option linter.constructorNameAsVariable false
/- Walks: Mean. -/
namespace Go.Sheet
open Go.RowKit Go.Mem
theorem ownT_set {e : TypeId} {vs : List Value} {M : IMat} {k : Nat} {x : Value} {r : List Int} (hx : vs[k]? = some x) : (ownT e vs M).set k (row e 1 x r.length (ints r)) = ownT e vs (M.set k r) := by
  refine List.ext_getElem? fun i => ?_
  by_cases h : k = i
  · subst h
    by_cases hk : k < M.length
    · rw [List.getElem?_set_self (by rw [ownT, List.length_map, List.length_zip]; have := (List.getElem?_eq_some_iff.1 hx).1; omega), ownT_at hx (by rw [List.getElem?_set_self hk])]
    · rw [List.getElem?_eq_none (by rw [List.length_set, ownT, List.length_map, List.length_zip]; omega), List.getElem?_eq_none (by rw [ownT, List.length_map, List.length_zip, List.length_set]; omega)]
  · rw [List.getElem?_set_ne h]
    simp only [ownT, List.getElem?_map]
    congr 1
    simp only [List.zip, List.getElem?_zipWith, List.getElem?_set_ne h]
end Go.Sheet
namespace Go.Proofs.YtlffgdmljioaoaaGreatDoor
open Go.RowKit Go.Mem Go.Sheet
/-- how Mean ends; t: the text of the mean -/
def RetMean (W : World) (m : IMat) (t : ByteArray) (e : Ending) (w' : World) : Prop :=
  Below W.heap.size W w' ∧ ((matE m ≠ 0 ∧ e = .returned (.tuple #[.string ⟨#[]⟩, .slice none 0 0, .int .i64 (matE m)])) ∨
    (matE m = 0 ∧ (greatestF (insideM m)).found = false ∧ e = .returned (.tuple #[.string ⟨#[]⟩, .slice none 0 0, .int .i64 7])) ∨
    (matE m = 0 ∧ (greatestF (insideM m)).found = true ∧ ∃ v', e = .returned (.tuple #[.string t, v', .int .i64 0]) ∧
      Rd w' (· < w'.heap.size) 1 v' (tightF (lessM m (greatestF (insideM m))) (topF (lessM m (greatestF (insideM m))) m.length)).length (ints (tightF (lessM m (greatestF (insideM m))) (topF (lessM m (greatestF (insideM m))) m.length)))))
set_option maxRecDepth 100000 in
set_option maxHeartbeats 4000000 in
theorem mean_any (W : World) (v : Value) (m : IMat) (t : ByteArray) (h : RdRows W (· < W.heap.size) v m)
    (hOf : matE m = 0 → (greatestF (insideM m)).found = true → ∀ w, Below W.heap.size W w → Calls Tryz.prog 48 #[.int .i64 (greatestF (insideM m)).num, .int .i64 (greatestF (insideM m)).den] w fun e w' => e = .returned (.tuple #[.string t, .int .i64 0]) ∧ Below w.heap.size w w') :
    Calls Tryz.prog 8 #[v] W (RetMean W m t) := by
  have HM := Lib.hid (checkMatrix_any W v m h)
  have HH := Lib.hid h
  obtain ⟨vs0, h1, h2⟩ := h
  obtain ⟨A, c, rfl, _, _, _⟩ := h1.open_
  have hml := h1.le
  clear h1 h2
  generalize HNM : m.length = n at *
  have HN := Lib.hid HNM
  clear HNM
  go_enter Tryz.func8, Tryz.ntmps8
  go_wp2_with fail
  refine HM.out.mono ?_
  rintro e w2 ⟨rfl, hb2⟩
  clear HM
  by_cases h0 : matE m ≠ 0
  · have h0b : (matE m != 0) = true := by simpa using h0
    have H0 := Lib.hid h0
    clear h0
    generalize hME : matE m = E at *
    have HME := Lib.hid hME
    clear hME
    go_wp2
    go_ret3
    exact ⟨hb2, .inl ⟨by rw [HME.out]; exact H0.out, by rw [HME.out]; rfl⟩⟩
  · have h00 : matE m = 0 := by omega
    have H0 := Lib.hid h00
    have hok := matE_ok h00
    have hn24 : n ≤ 24 := by rw [← HN.out]; exact hok.1
    have hsq := insideM_sq hok.1 (insideM_ok h00)
    rw [HN.out] at hsq
    have HSQ := Lib.hid hsq
    have HIN := Lib.hid (fun w (hb : Below W.heap.size W w) => inside_any w _ m (HH.out.later hb) (by rw [HN.out]; omega) (fun r hr => by rw [(hok.2 r hr).1, HN.out]; omega))
    have HOF := Lib.hid (hOf h00)
    have h0b : (matE m != 0) = false := by simpa using h00
    have HB3 := Lib.hid (greatestF_bd hsq hn24)
    clear h0 hok hsq hOf h00
    generalize hME : matE m = E at *
    have HME := Lib.hid hME
    clear hME
    go_wp2_with fail
    refine (HIN.out w2 hb2).mono ?_
    rintro e w3 ⟨v3, vs3, rfl, hvs3, S3⟩
    have hr3 := ownT_rows S3 (k := 0) rfl (by rw [insideM_len]; exact hvs3)
    have hb3 := hb2.trans (S3.bel.mono hb2.size)
    have HG := Lib.hid (greatest_any w3 v3 (insideM m) n hr3 HSQ.out hn24)
    clear S3 hr3 hvs3
    go_wp2_with fail
    refine HG.out.mono ?_
    rintro e w4 ⟨rfl, hb4'⟩
    have hb4 := hb3.trans (hb4'.mono hb3.size)
    clear HG hb4' hb3 hb2
    generalize hGF : greatestF (insideM m) = GF at *
    have HGF := Lib.hid hGF
    clear hGF
    obtain ⟨num, den, found⟩ := GF
    dsimp only at HOF
    cases found with
    | false =>
      go_wp2
      go_ret3
      exact ⟨hb4, .inr (.inl ⟨by rw [HME.out]; exact H0.out, by rw [HGF.out], rfl⟩)⟩
    | true =>
      have HOF2 := Lib.hid (HOF.out rfl)
      have HB4 := Lib.hid hb4
      have hnum := HB3.out.1
      have hden := HB3.out.2
      dsimp only at hnum hden
      clear HOF
      go_wp2_with fail
      refine (HIN.out w4 hb4).mono ?_
      rintro e w5 ⟨v5, vs, rfl, hvs, S5⟩
      clear hb4 HIN
      rw [HN.out] at hvs S5
      have HV := Lib.hid hvs
      obtain ⟨A5, c5, rfl, _, _, _⟩ := (S5.row_rd (i := 0) rfl).open_
      have S6 := (S5.row_nil 23 1).perm (L' := [row 23 1 (.slice none 0 0) 0 []] ++ ([row 23 1 (.slice A5 n c5) n vs] ++ ownT 3 vs (insideM m))) List.perm_append_comm
      have HS6 := Lib.hid S6
      clear S5 S6 hvs
      go_wp2_with fail
      go_loopw [36, 9] (fun idx vl w' => ∃ k : Nat, k ≤ n ∧ idx = .int .i64 k ∧ St w4 w' ([row 23 1 vl k (vs.take k)] ++ ([row 23 1 (.slice A5 n c5) n vs] ++ ownT 3 vs (lessT ⟨num, den, true⟩ (insideM m) k)))) (fun idx _ _ => n - (intOf idx).toNat)
      case atStart => exact ⟨0, Nat.zero_le _, rfl, by rw [lessT_zero]; exact HS6.out⟩
      case round =>
        obtain ⟨k, hk, rfl, S⟩ := hrel
        clear HS6
        by_cases hlt : k < n
        · have hkI : k < (insideM m).length := by rw [insideM_len, HN.out]; exact hlt
          have hr : (insideM m)[k]? = some (insideM m)[k] := List.getElem?_eq_getElem hkI
          have hrl := HSQ.out.len _ (List.getElem_mem hkI)
          have hrb := HSQ.out.bd _ (List.getElem_mem hkI)
          have HTS := Lib.hid (lessT_set (b := ⟨num, den, true⟩) hr)
          have HTA := Lib.hid (lessT_at (b := ⟨num, den, true⟩) hr)
          generalize (insideM m)[k] = r at *
          have hkv : k < vs.length := by rw [HV.out]; exact hlt
          have hx : vs[k]? = some vs[k] := List.getElem?_eq_getElem hkv
          have HXV := Lib.hid hx
          have HTK := Lib.hid (take_at hx)
          obtain ⟨b5, cap5, hv5, _, _, _, hc5, _⟩ := S.row_form (i := 1) rfl (by omega)
          cases hv5
          have k1 := hc5 k (by omega)
          rw [hx] at k1
          have hidx : ∀ (M : IMat) (rr : List Int), M[k]? = some rr → ([row 23 1 u9 k (vs.take k)] ++ ([row 23 1 (.slice (some ⟨b5, 0, none⟩) n c5) n vs] ++ ownT 3 vs M))[2 + k]? = some (row 3 1 vs[k] rr.length (ints rr)) := by
            intro M rr hM
            show ([row 23 1 u9 k (vs.take k), row 23 1 (.slice (some ⟨b5, 0, none⟩) n c5) n vs] ++ ownT 3 vs M)[2 + k]? = _
            rw [List.getElem?_append_right (by simp), show 2 + k - [row 23 1 u9 k (vs.take k), row 23 1 (.slice (some ⟨b5, 0, none⟩) n c5) n vs].length = k by simp]
            exact ownT_at hx hM
          have hn0 : 0 < r.length := by rw [hrl]; omega
          obtain ⟨gx, capx, hvx, _, _, _, _, _⟩ := S.row_form (hidx _ _ HTA.out) hn0
          rw [hrl] at hvx
          rw [hvx] at k1
          rw [hvx] at HXV HTK hidx
          have HIDX := Lib.hid hidx
          have HRB := Lib.hid hrb
          have HRL := Lib.hid hrl
          have hS0 : St w4 wr ([row 23 1 u9 k (vs.take k)] ++ ([row 23 1 (.slice (some ⟨b5, 0, none⟩) n c5) n vs] ++ ownT 3 vs ((lessT ⟨num, den, true⟩ (insideM m) k).set k (lessP ⟨num, den, true⟩ r 0)))) := by
            rw [lessP_zero, set_same HTA.out]; exact S
          have HS0 := Lib.hid hS0
          clear hr hrl hrb hx hc5 hidx hvx hkv hkI S hS0 hn0
          go_wp2_with fail
          go_loopw [42] (fun idx w' => ∃ j : Nat, j ≤ n ∧ idx = .int .i64 j ∧ St w4 w' ([row 23 1 u9 k (vs.take k)] ++ ([row 23 1 (.slice (some ⟨b5, 0, none⟩) n c5) n vs] ++ ownT 3 vs ((lessT ⟨num, den, true⟩ (insideM m) k).set k (lessP ⟨num, den, true⟩ r j))))) (fun idx _ => n - (intOf idx).toNat)
          case atStart => exact ⟨0, Nat.zero_le _, rfl, HS0.out⟩
          case round =>
            obtain ⟨j, hj, rfl, S⟩ := hrel
            clear HS0
            by_cases hjl : j < n
            · have hjr : j < r.length := by rw [HRL.out]; exact hjl
              have hy : r[j]? = some r[j] := List.getElem?_eq_getElem hjr
              have hyb := HRB.out _ (List.getElem_mem hjr)
              have HPA := Lib.hid (lessP_at (b := ⟨num, den, true⟩) hy)
              have HPS := Lib.hid (lessP_set (b := ⟨num, den, true⟩) hy)
              have HPK := fun (h0 : r[j] = noth) => lessP_keep (b := ⟨num, den, true⟩) (hy.trans (congrArg some h0))
              have HPK := Lib.hid HPK
              generalize r[j] = y at *
              have hkl : k < (lessT ⟨num, den, true⟩ (insideM m) k).length := by rw [lessT_len, insideM_len, HN.out]; exact hlt
              have HMk : ∀ rr : List Int, ((lessT ⟨num, den, true⟩ (insideM m) k).set k rr)[k]? = some rr := fun rr => List.getElem?_set_self hkl
              have hrow := HIDX.out _ _ (HMk (lessP ⟨num, den, true⟩ r j))
              rw [lessP_len, HRL.out] at hrow
              obtain ⟨gx', capx', hvx', _, _, _, hcell, hfz⟩ := S.row_form hrow (by omega)
              cases hvx'
              have e1 := hcell j (by omega)
              rw [ints, List.getElem?_map, HPA.out] at e1
              simp only [Option.map_some] at e1
              have e2 := hfz j
              have HROW := Lib.hid hrow
              have HS := Lib.hid S
              clear hy hjr hcell hfz hrow S hkl HMk
              by_cases h1 : y = noth
              · have h1b : (y != -1125899906842624) = false := by rw [h1]; rfl
                have HK2 := Lib.hid (HPK.out h1)
                clear h1 hyb
                go_wp2
                go_roundw
                case rel => exact ⟨j + 1, by omega, by go_num, by rw [HK2.out]; exact HS.out⟩
                case measure => simp [intOf]; omega
              · have h1b : (y != -1125899906842624) = true := by simp only [bne_iff_ne, ne_eq]; exact h1
                have hyb2 : -999999999 ≤ y ∧ y ≤ 999999999 := by
                  rcases hyb with h | h
                  · exact absurd h h1
                  · exact h
                have hLX : lessX ⟨num, den, true⟩ y = y * den - num := by rw [lessX, if_neg h1]
                have hm1 := mul_bd (a := y) (b := den) (A := 999999999) (B := 24) (by omega) (by omega)
                have hw1 : IntKind.i64.wrap (y * den) = y * den := IntWalk.i64_in _ (by omega)
                have S2 := HS.out.row_set HROW.out j (.int .i64 (y * den - num))
                have S3 : St w4 (wr.setCell ⟨gx, j, none⟩ (.int .i64 (y * den - num))) ([row 23 1 u9 k (vs.take k)] ++ ([row 23 1 (.slice (some ⟨b5, 0, none⟩) n c5) n vs] ++ ownT 3 vs ((lessT ⟨num, den, true⟩ (insideM m) k).set k (lessP ⟨num, den, true⟩ r (j + 1))))) := by
                  have e9 : row 3 1 (.slice (some ⟨gx, 0, none⟩) n capx) n ((ints (lessP ⟨num, den, true⟩ r j)).set j (.int .i64 (y * den - num))) = row 3 1 (.slice (some ⟨gx, 0, none⟩) n capx) (lessP ⟨num, den, true⟩ r (j + 1)).length (ints (lessP ⟨num, den, true⟩ r (j + 1))) := by
                    rw [lessP_len, HRL.out, ← HPS.out, hLX, ints, ints, List.map_set]
                  rw [e9] at S2
                  have e10 : ∀ (M : IMat) (a b : Asr), ([a] ++ ([b] ++ ownT 3 vs M)).set (2 + k) (row 3 1 (.slice (some ⟨gx, 0, none⟩) n capx) (lessP ⟨num, den, true⟩ r (j + 1)).length (ints (lessP ⟨num, den, true⟩ r (j + 1)))) = [a] ++ ([b] ++ ownT 3 vs (M.set k (lessP ⟨num, den, true⟩ r (j + 1)))) := by
                    intro M a b
                    rw [← ownT_set HXV.out, show 2 + k = k + 1 + 1 by omega]; rfl
                  rw [e10, List.set_set] at S2
                  exact S2
                have HS3 := Lib.hid S3
                have hs1 : IntKind.i64.wrap (y * den - num) = y * den - num := IntWalk.i64_in _ (by omega)
                clear h1 hyb hLX S2 S3
                generalize hyd : y * den = yd at *
                generalize hyn : yd - num = ydn at *
                go_wp2
                go_roundw
                case rel => exact ⟨j + 1, by omega, by go_num, HS3.out⟩
                case measure => simp [intOf]; omega
            · have hjb : decide ((j : Int) < n) = false := by simp; omega
              obtain rfl : j = n := by omega
              rw [show lessP ⟨num, den, true⟩ r j = r.map (lessX ⟨num, den, true⟩) by rw [← HRL.out, lessP_end], HTS.out] at S
              have HS := Lib.hid S
              clear S
              go_wp2_with (at_builtin; refine wpList_append_st eltL rfl _ _ rfl rfl (HS.out.alloc _) (k := 0) rfl rfl (rd_one (by simp)) one_slice (by omega) (by omega) ?_; intro v' w' S' _)
              have S6 : St w4 w' ([row 23 1 v' (k + 1) (vs.take (k + 1))] ++ ([row 23 1 (.slice (some ⟨b5, 0, none⟩) j c5) j vs] ++ ownT 3 vs (lessT ⟨num, den, true⟩ (insideM m) (k + 1)))) := by
                rw [HTK.out]; exact S'
              have HS6 := Lib.hid S6
              clear S' S6
              go_roundw
              case rel => exact ⟨k + 1, by omega, by go_num, HS6.out⟩
              case measure => simp [intOf]; omega
        · have hkb : decide ((k : Int) < n) = false := by simp; omega
          obtain rfl : k = n := by omega
          have hLQ := lessM_sq HSQ.out (b := ⟨num, den, true⟩) ⟨hnum, hden⟩
          rw [show lessT ⟨num, den, true⟩ (insideM m) k = lessM m ⟨num, den, true⟩ by rw [← lessT_end, insideM_len, HN.out], List.take_of_length_le (by rw [HV.out]; exact Nat.le_refl _)] at S
          have hBW : Below W.heap.size W wr := HB4.out.trans (S.bel.mono HB4.out.size)
          obtain ⟨A9, c9, rfl, _, _, _⟩ := (S.row_rd (i := 0) rfl).open_
          have hRR := ownT_rows (L := [row 23 1 (.slice A9 k c9) k vs, row 23 1 (.slice A5 k c5) k vs]) S (k := 0) rfl (by rw [HV.out, hLQ.n_eq])
          have HBW := Lib.hid hBW
          have HRR := Lib.hid hRR
          have HLQ := Lib.hid hLQ
          generalize hLM : lessM m ⟨num, den, true⟩ = LM at *
          have HLM := Lib.hid hLM
          clear hLM hBW hRR hLQ S
          have HLN := Lib.hid HLQ.out.n_eq
          generalize hTT : topF LM k = TT at *
          have HTT := Lib.hid hTT
          clear hTT
          generalize wr = wb at *
          go_wp2_with (refine wpList_make_st eltI rfl _ _ rfl (n := k) rfl rfl (St.refl _) (by omega) (by omega) ?_; intro w6 g S6 _ _)
          have hz : (madeCells (Value.int .i64 0).cells (k * 1)).toList = ints (List.replicate k 0) := by
            show (madeCells #[.int .i64 0] (k * 1)).toList = _
            rw [toList_madeCells_one, ints]; simp
          rw [hz, List.nil_append] at S6
          have HS6 := Lib.hid S6
          clear hz S6
          go_loopw [68] (fun idx w' => ∃ (i c : Nat) (t : List Int), i ≤ k ∧ idx = .int .i64 i ∧ c ≤ i * 24 ∧ St wb w' [row 3 1 (.slice (some ⟨g, 0, none⟩) k k) k (ints t)] ∧ Hid (TopB k c t) ∧ Hid (topIt LM (k - i) t = TT)) (fun idx _ => k - (intOf idx).toNat)
          case atStart => exact ⟨0, 0, _, Nat.zero_le _, rfl, by omega, HS6.out, TopB.zero k, HTT.out⟩
          case round =>
            obtain ⟨i, c, t, hi, rfl, hc, S, HTB, HIT⟩ := hrel
            clear HS6
            by_cases hil : i < k
            · have HIT2 : Hid (topIt LM (k - (i + 1)) (topSweep 0 LM t) = TT) := by
                have := HIT.out
                rw [show k - i = (k - (i + 1)) + 1 by omega, topIt] at this
                exact this
              generalize hSW : topSweep 0 LM t = SW at *
              have HSW := Lib.hid hSW
              have HS := Lib.hid S
              clear hSW S HIT
              go_wp2_with fail
              go_loopw [72] (fun idx w' => ∃ (j c' : Nat) (t' : List Int), j ≤ k ∧ idx = .int .i64 j ∧ c' ≤ i * 24 + j ∧ St wb w' [row 3 1 (.slice (some ⟨g, 0, none⟩) k k) k (ints t')] ∧ Hid (TopB k c' t') ∧ Hid (topSweep j (LM.drop j) t' = SW)) (fun idx _ => k - (intOf idx).toNat)
              case atStart => exact ⟨0, c, t, Nat.zero_le _, rfl, by omega, HS.out, HTB, HSW.out⟩
              case round =>
                obtain ⟨j, c', t', hj, rfl, hc', S, HTB', HSW'⟩ := hrel
                clear HS HTB HSW
                by_cases hjl : j < k
                · have hjm : j < LM.length := by rw [HLN.out]; exact hjl
                  have hr : LM[j]? = some LM[j] := List.getElem?_eq_getElem hjm
                  have hrl := HLQ.out.len _ (List.getElem_mem hjm)
                  have hrb := HLQ.out.bd _ (List.getElem_mem hjm)
                  have HG : Hid (topSweep (j + 1) (LM.drop (j + 1)) (t'.set j (max (t'.getD j 0) (timesR LM[j] t'))) = SW) := by
                    have := HSW'.out
                    rw [drop_at hr, topSweep] at this
                    exact this
                  generalize LM[j] = r at *
                  obtain ⟨vs9, t1, t2⟩ := HRR.out.later S.bel
                  rw [HLN.out] at t1
                  obtain ⟨b9, o9, x9, hA, hx9, k1⟩ := t1.val hjl
                  subst hA
                  have hrd := t2 j x9 r hx9 hr
                  rw [hrl] at hrd
                  obtain ⟨Ar, cr, rfl, _, _, _⟩ := hrd.open_
                  have htl := HTB'.out.len
                  have hjt : j < t'.length := by omega
                  have hgd : t'.getD j 0 = t'[j] := by rw [List.getD_eq_getElem?_getD, List.getElem?_eq_getElem hjt, Option.getD_some]
                  rw [hgd] at HG
                  have hxb := HTB'.out.bd _ (List.getElem_mem hjt)
                  obtain ⟨g2, cap2, hv2, _, _, hg2, hc2, hf2⟩ := S.row_form (i := 0) rfl (by omega)
                  cases hv2
                  have e1 := hc2 j (by omega)
                  rw [ints, List.getElem?_map, List.getElem?_eq_getElem hjt] at e1
                  simp only [Option.map_some] at e1
                  have htop := S.row_rd (i := 0) rfl
                  have HTM := Lib.hid (fun w (hb : Below wr.heap.size wr w) => times_any w _ _ (.slice Ar k cr) (.slice (some ⟨g, 0, none⟩) k k) r t' 100000000000 (100000000000 * (c' : Int)) (by rw [hrl]; exact hrd.later hb) (by rw [htl]; exact (htop.mono (S' := (· < wr.heap.size)) fun _ hb _ => hb).later hb) (by omega) hrb (fun y hy => .inr ⟨by have := HTB'.out.bd y hy; omega, (HTB'.out.bd y hy).2⟩) (by omega) (by omega) (by omega))
                  have HTB2 : Hid (TopB k (c' + 1) (t'.set j (max (t'.getD j 0) (timesR r t')))) := HTB'.out.step (by omega) hrb
                  rw [hgd] at HTB2
                  generalize t'[j] = y at *
                  generalize timesR r t' = tv at *
                  have hmx : (if y < tv then tv else y) = max y tv := max_if _ _
                  generalize hMX : max y tv = mx at *
                  have l1 := World.block_lt_of_cell? wr _ e1
                  have HS := Lib.hid S
                  have HMX := Lib.hid hMX
                  clear hr hrl hrb hrd htl hgd t1 t2 hx9 htop hc2 S hMX hjm
                  go_wp2_with fail
                  refine wp_cls 12 (fun w' => Below wr.heap.size wr w') (by kernel_rfl) (by kernel_rfl) (Below.refl _ _).drew ?_
                  simp only [List.take_succ_cons, List.take_zero, List.drop_succ_cons, List.drop_zero]
                  have hK2 : ∀ w w' : World, Below wr.heap.size wr w → Below w.heap.size w w' → Below wr.heap.size wr w' := fun w w' h h' => h.trans (h'.mono h.size)
                  generalize hK : (fun w' => Below wr.heap.size wr w') = K
                  intro hne
                  have kb : ∀ y : Wd K, Below wr.heap.size wr y.w := by subst hK; exact fun y => y.h
                  have hK3 : ∀ w w' : World, K w → Below w.heap.size w w' → K w' := by subst hK; exact hK2
                  have y2 : ∀ z : Wd K, z.w.cell? ⟨g, j, none⟩ = some (.int .i64 y) := fun z => ((kb z).cell (p := ⟨g, j, none⟩) l1).trans e1
                  clear hK hK2
                  repeat (go_big_quiet_step ((first | (go_at_call 46; exact cls_below hK3 (plus_any _)) | (go_at_call 47; exact cls_below hK3 (HTM.out _ (kb _))))))
                  refine wpQuiet_nil ?_
                  intro z
                  have S1 := HS.out.ext (kb z)
                  have S2 := S1.row_set (i := 0) rfl j (.int .i64 mx)
                  obtain ⟨g3, cap3, hv3, _, _, _, hc3, hf3⟩ := S1.row_form (i := 0) rfl (by omega)
                  cases hv3
                  have f1 := hf3 j
                  have f2 := y2 z
                  have S3 : St wb (z.w.setCell ⟨g, j, none⟩ (.int .i64 mx)) [row 3 1 (.slice (some ⟨g, 0, none⟩) k k) k (ints (t'.set j mx))] := by
                    rw [ints, List.map_set]; exact S2
                  have HS3 := Lib.hid S3
                  clear kb hK3 y2 hne S1 S2 S3 hc3 hf3
                  generalize z.w = wz at *
                  go_wp2
                  go_roundw
                  case rel => exact ⟨j + 1, c' + 1, _, by omega, by go_num, by omega, by rw [HMX.out]; exact HS3.out, HTB2, HG⟩
                  case measure => simp [intOf]; omega
                · have hjb : decide ((j : Int) < k) = false := by simp; omega
                  obtain rfl : j = k := by omega
                  have HE : Hid (t' = SW) := by
                    have := HSW'.out
                    rw [List.drop_of_length_le (by rw [HLN.out]; exact Nat.le_refl _), topSweep] at this
                    exact this
                  have HS := Lib.hid S
                  clear S
                  go_wp2
                  go_roundw
                  case rel => exact ⟨i + 1, c', t', by omega, by go_num, by omega, HS.out, HTB', by rw [HE.out]; exact HIT2.out⟩
                  case measure => simp [intOf]; omega
            · have hib : decide ((i : Int) < k) = false := by simp; omega
              obtain rfl : i = k := by omega
              have HE : Hid (t = TT) := by
                have := HIT.out
                rw [Nat.sub_self, topIt] at this
                exact this
              have HBR := Lib.hid (HBW.out.trans (S.bel.mono HBW.out.size))
              have htl := HTB.out.len
              have hn24' := hn24
              have HTI := Lib.hid (fun w (hb : Below wr.heap.size wr w) => tight_any w _ _ LM t i ((HRR.out.later S.bel).later hb) (((S.row_rd (i := 0) rfl).mono (S' := (· < wr.heap.size)) fun _ hb _ => hb).later hb) HLQ.out htl hn24 (fun x hx => by have := HTB.out.bd x hx; omega))
              clear S htl
              go_wp2_with fail
              refine (HOF2.out wr HBR.out).mono ?_
              rintro e w10 ⟨rfl, hb10⟩
              go_wp2_with fail
              refine (HTI.out w10 hb10).mono ?_
              rintro e w11 ⟨v11, rfl, hb11, hrd11⟩
              obtain ⟨A11, c11, rfl, _, _, _⟩ := hrd11.open_
              have HRES : Hid (Below W.heap.size W w11) := (HBR.out.trans (hb10.mono HBR.out.size)).trans (hb11.mono (HBR.out.trans (hb10.mono HBR.out.size)).size)
              have HR11 := Lib.hid hrd11
              clear hb10 hb11 hrd11
              go_wp2
              go_ret3
              refine ⟨HRES.out, .inr (.inr ⟨by rw [HME.out]; exact H0.out, by rw [HGF.out], _, rfl, ?_⟩)⟩
              rw [HGF.out, HLM.out, HN.out, HTT.out, ← HE.out]
              exact HR11.out
end Go.Proofs.YtlffgdmljioaoaaGreatDoor
/- What Excluded computes, as plain functions. -/
namespace Go.Sheet
def cmpF : List Int → List Int → Int
  | [], [] => 0
  | [], _ :: _ => -1
  | _ :: _, [] => 1
  | x :: a, y :: b => if x < y then -1 else if y < x then 1 else cmpF a b
def cmp1 (x y : Int) : Int := if x < y then -1 else if y < x then 1 else 0
/-- the numbers of the guaranteed requests -/
def sureL : Nat → List RQ → List Nat
  | _, [] => []
  | k, x :: l => if x.g then k :: sureL (k + 1) l else sureL (k + 1) l
def sureN (rs : List RQ) : List Nat := sureL 0 rs
def bitOn (set k : Nat) : Bool := decide (set / 2 ^ k % 2 = 1)
/-- the members of a set -/
def memF (set : Nat) : Nat → List Nat → List Nat
  | _, [] => []
  | k, i :: l => if bitOn set k then i :: memF set (k + 1) l else memF set (k + 1) l
def wantW (b : List Bool) : List Wish → List Bool
  | [] => b
  | y :: ws => wantW (b.set y.s.toNat true) ws
def wsOf (rs : List RQ) (i : Nat) : List Wish := match rs[i]? with | some x => x.ws | none => []
def wantF (rs : List RQ) (set : Nat) : Nat → List Nat → List Bool → List Bool
  | _, [], b => b
  | k, i :: l, b => wantF rs set (k + 1) l (if bitOn set k then wantW b (wsOf rs i) else b)
def roomK (b : List Bool) (l : List Slot) : Nat → Int
  | 0 => 0
  | k + 1 => roomK b l k + if b.getD k false then (match l[k]? with | some s => s.p | none => 0) else 0
def betterF (best m : List Int) : Bool := decide (best = []) || (decide (m.length < best.length) || (decide (m.length = best.length) && decide (cmpF m best < 0)))
def natI (l : List Nat) : List Int := l.map fun k : Nat => (k : Int)
def exStep (l : List Slot) (rs : List RQ) (set : Nat) (best : List Int) : List Int :=
  if roomK (wantF rs set 0 (sureN rs) (List.replicate 24 false)) l 24 < ((memF set 0 (sureN rs)).length : Int) ∧ betterF best (natI (memF set 0 (sureN rs))) = true then natI (memF set 0 (sureN rs)) else best
/-- so many sets, from one on -/
def exAll (l : List Slot) (rs : List RQ) : Nat → Nat → List Int → List Int
  | 0, _, best => best
  | m + 1, set, best => exAll l rs m (set + 1) (exStep l rs set best)
def excluded (l : List Slot) (rs : List RQ) : List Int × Int :=
  if checkRequests l rs ≠ 0 then ([], checkRequests l rs)
  else if 12 < (sureN rs).length then ([], 22)
  else if exAll l rs (2 ^ (sureN rs).length) 0 [] = [] then ([], 7) else (exAll l rs (2 ^ (sureN rs).length) 0 [], 0)
theorem wantW_lt {L : Nat} (ws : List Wish) : ∀ (b : List Bool), (∀ y ∈ ws, 0 ≤ y.s ∧ y.s < L) → (∀ s, b.getD s false = true → s < L) → ∀ s, (wantW b ws).getD s false = true → s < L := by
  induction ws with
  | nil => intro b _ h; exact h
  | cons y ws ih =>
    intro b hy h
    refine ih _ (fun z hz => hy z (by simp [hz])) fun s hs => ?_
    rw [getD_set] at hs
    have := hy y (by simp)
    split at hs
    · omega
    · exact h s hs
theorem wantF_lt {L : Nat} {rs : List RQ} (set : Nat) (hw : ∀ x ∈ rs, ∀ y ∈ x.ws, 0 ≤ y.s ∧ y.s < L) (l : List Nat) : ∀ (k : Nat) (b : List Bool), (∀ s, b.getD s false = true → s < L) → ∀ s, (wantF rs set k l b).getD s false = true → s < L := by
  induction l with
  | nil => intro k b h; exact h
  | cons i l ih =>
    intro k b h
    refine ih _ _ ?_
    split
    · refine wantW_lt _ _ (fun y hy => ?_) h
      rw [wsOf] at hy
      cases hx : rs[i]? with
      | none => rw [hx] at hy; cases hy
      | some x => rw [hx] at hy; exact hw x (List.mem_of_getElem? hx) y hy
    · exact h
theorem roomK_step {b : List Bool} {l : List Slot} {k : Nat} : roomK b l (k + 1) = roomK b l k + if b.getD k false then (match l[k]? with | some s => s.p | none => 0) else 0 := rfl
end Go.Sheet
