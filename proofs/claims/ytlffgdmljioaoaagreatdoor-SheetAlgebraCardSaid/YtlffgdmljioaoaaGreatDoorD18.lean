/- Part 18 of the walks of the golf union's program: WP3. -/
import Derived.Test.YtlffgdmljioaoaaGreatDoorD09
import Derived.Test.YtlffgdmljioaoaaGreatDoorD01
import Derived.Test.YtlffgdmljioaoaaGreatDoorD07
import Derived.Test.YtlffgdmljioaoaaGreatDoorD16
import Derived.Test.YtlffgdmljioaoaaGreatDoorD17
set_option linter.unusedVariables false
set_option linter.unusedSimpArgs false
set_option linter.unusedSectionVars false
set_option linter.constructorNameAsVariable false
/- Walks: played. -/
namespace Go.Proofs.YtlffgdmljioaoaaGreatDoor
open Go.RowKit Go.Mem Go.Sheet
theorem eltL : Elt Tryz.prog 22 23 (.slice none 0 0) 1 24 := ⟨Tryz.underlying22, by kernel_rfl, rfl, by decide⟩
theorem one_slice {A : Option Addr} {n c : Nat} : ∀ u ∈ [Value.slice A n c], u.oneCell' = true := by simp [Value.oneCell']
/-- how played ends -/
def RetPlayed (W : World) (p : PC) (e : Ending) (w' : World) : Prop :=
  (checkPace p ≠ 0 ∧ e = .returned (.tuple #[.pointer none, .int .i64 (checkPace p)]) ∧ Below W.heap.size W w') ∨
  (checkPace p = 0 ∧ ∃ g A B C, e = .returned (.tuple #[.pointer (some ⟨g, 0, none⟩), .int .i64 0]) ∧ Below W.heap.size W w' ∧
    w'.cell? ⟨g, 0, none⟩ = some A ∧ w'.cell? ⟨g, 1, none⟩ = some B ∧ w'.cell? ⟨g, 2, none⟩ = some C ∧
    RdRows w' (· < w'.heap.size) A (played p).c ∧ RdRows w' (· < w'.heap.size) B (played p).b ∧ RdRows w' (· < w'.heap.size) C (played p).e)
set_option maxRecDepth 100000 in
set_option maxHeartbeats 4000000 in
theorem played_any (W : World) (vr vm vh : Value) (p : PC) (h : RdPace W (· < W.heap.size) vr vm vh p) :
    Calls Tryz.prog 88 #[.agg #[vr, vm, vh]] W (RetPlayed W p) := by
  have H := Lib.hid h
  have hrd := h.rd
  have hho := h.ho
  obtain ⟨vs, hm1, hm2⟩ := h.mi
  obtain ⟨Ar, cr, rfl, _, _, _⟩ := hrd.open_
  obtain ⟨Ah, ch, rfl, _, _, _⟩ := hho.open_
  obtain ⟨Am, cm, rfl, _, _, _⟩ := hm1.open_
  clear hrd hho hm1 hm2 h
  generalize HRN : p.rd.length = rn at *
  generalize HHN : p.ho.length = hn at *
  generalize HMN : p.mi.length = mn at *
  have hb1 := (Below.refl W.heap.size W).alloc (Nat.le_refl _) (.cells #[.slice Ar rn cr, .slice Am mn cm, .slice Ah hn ch] 75)
  have HC := Lib.hid (checkPace_any _ _ _ _ p (H.out.later hb1))
  go_enter Tryz.func88, Tryz.ntmps88
  go_wp2_with fail
  refine HC.out.mono ?_
  rintro e w2 ⟨rfl, hb2⟩
  clear HC
  have HP : Hid (checkPace p = 0 → POk p) := fun h => pok_of h
  generalize hE : checkPace p = E at *
  have HE := Lib.hid hE
  clear hE
  by_cases h0 : (E != 0) = true
  · go_wp2
    refine bodyPost_ret (v := .tuple #[.pointer none, .int .i64 E]) (by simp [results, Tryz.results88, go_sem]) rfl (.inl ⟨by rw [HE.out]; simpa using h0, by rw [HE.out], hb1.trans (hb2.mono hb1.size)⟩)
  · have hE0 : E = 0 := by simpa using h0
    have hok := HP.out hE0
    have HB := Lib.hid (hb1.trans (hb2.mono hb1.size))
    have d0 : w2.cell? ⟨W.heap.size, 0, none⟩ = some (.slice Ar rn cr) := (hb2.cell (p := ⟨W.heap.size, 0, none⟩) (by simp)).trans (by simp)
    have d1 : w2.cell? ⟨W.heap.size, 1, none⟩ = some (.slice Am mn cm) := (hb2.cell (p := ⟨W.heap.size, 1, none⟩) (by simp)).trans (by simp)
    have d2 : w2.cell? ⟨W.heap.size, 2, none⟩ = some (.slice Ah hn ch) := (hb2.cell (p := ⟨W.heap.size, 2, none⟩) (by simp)).trans (by simp)
    have hg0 : W.heap.size < w2.heap.size := World.block_lt_of_cell? w2 _ d0
    have HR := Lib.hid (H.out.later HB.out)
    have hrn : rn ≤ 24 := HRN ▸ hok.rd24
    have hhn : hn ≤ 36 := HHN ▸ hok.ho36
    have HOK := Lib.hid hok
    have h0' : (E != 0) = false := by simpa using h0
    clear hb1 hb2 HP H hok h0 hE0
    have S0 : St w2 (w2.alloc (.cells #[.slice none 0 0, .slice none 0 0, .slice none 0 0] 142)) [blk w2.heap.size 142 #[.slice none 0 0, .slice none 0 0, .slice none 0 0], row 23 1 (.slice none 0 0) 0 [], row 23 1 (.slice none 0 0) 0 [], row 23 1 (.slice none 0 0) 0 [], rdAll []] :=
      ((((((St.refl w2).blk_new #[.slice none 0 0, .slice none 0 0, .slice none 0 0] 142).row_nil 23 1).row_nil 23 1).row_nil 23 1).push (A := rdAll []) (F := fun _ => False) (Below.refl _ _) (fun _ h => by cases h) (fun _ h => h.elim))
    go_wp2_with fail
    have HG := Lib.hid (show w2.heap.size = w2.heap.size from rfl)
    generalize hgo : w2.heap.size = go at S0 ⊢
    clear HG
    go_loopw [24] (fun i w' => ∃ (k : Nat) (A B C : Value) (vc vb ve : List Value) (T : Tab) (ms : List (Value × List Value)), k ≤ rn ∧ i = .int .i64 k ∧
      St w2 w' [blk go 142 #[A, B, C], row 23 1 A k vc, row 23 1 B k vb, row 23 1 C k ve, rdAll ms] ∧
      Hid (PInv p hn k ms vc vb ve T)) (fun i _ => rn - (intOf i).toNat)
    case atStart => exact ⟨0, _, _, _, _, _, _, ⟨[], [], []⟩, [], Nat.zero_le _, rfl, S0, Tabs.nil _, Tabs.nil _, Tabs.nil _, TOk.nil _ _, TOk.nil _ _, rfl⟩
    case round =>
      obtain ⟨k, A, B, C, vc, vb, ve, T, ms, hk, rfl, S, HT⟩ := hrel
      clear S0
      have hbw := S.bel
      by_cases hlt : k < rn
      · obtain ⟨b, o, x, rfl, hx, hc⟩ := (HR.out.rd.later hbw).int (k := k) (by rw [HRN]; exact hlt)
        have HX := Lib.hid hx
        have e2 := (hbw.cell (p := ⟨W.heap.size, 2, none⟩) hg0).trans d2
        clear hx
        have S1 := ((S.row_nil 3 1).row_nil 3 1).row_nil 3 1
        clear hbw
        go_wp2_with fail
        go_loopw [33, 8, 9, 10, 11] (fun jj vcs vbs ves va w' => ∃ (j : Nat) (cl bl el : List Int) (a : Int), j ≤ hn ∧ jj = .int .i64 j ∧ va = .int .i64 a ∧
          St w2 w' [blk go 142 #[A, B, C], row 23 1 A k vc, row 23 1 B k vb, row 23 1 C k ve, rdAll ms, row 3 1 vcs j (ints cl), row 3 1 vbs j (ints bl), row 3 1 ves j (ints el)] ∧
          0 ≤ a ∧ a ≤ 10000 + 360000 * k + 10000 * j ∧
          Hid (cl ++ (playH k T.b T.e (p.mi.getD k []) j (p.ho.drop j) a).map (·.1) = (playH k T.b T.e (p.mi.getD k []) 0 p.ho x).map (·.1) ∧
            bl ++ (playH k T.b T.e (p.mi.getD k []) j (p.ho.drop j) a).map (·.2.1) = (playH k T.b T.e (p.mi.getD k []) 0 p.ho x).map (·.2.1) ∧
            el ++ (playH k T.b T.e (p.mi.getD k []) j (p.ho.drop j) a).map (·.2.2) = (playH k T.b T.e (p.mi.getD k []) 0 p.ho x).map (·.2.2))) (fun jj _ _ _ _ _ => hn - (intOf jj).toNat)
        case atStart =>
          refine ⟨0, [], [], [], x, Nat.zero_le _, rfl, rfl, by simpa [ints] using S1, ?_, ?_, rfl, rfl, rfl⟩
          · have := HOK.out.rdb x (List.mem_of_getElem? HX.out); omega
          · have := HOK.out.rdb x (List.mem_of_getElem? HX.out); omega
        case round =>
          obtain ⟨j, cl, bl, el, a, hj, rfl, rfl, S, ha0, ha1, HI⟩ := hrel
          clear S1
          by_cases hjl : j < hn
          · have hbw2 := S.bel
            obtain ⟨bh, oh, hd, hA2, hhd, ch0⟩ := (HR.out.ho.later hbw2).int (k := j) (by rw [HHN]; exact hjl)
            subst hA2
            have hhb := HOK.out.hob hd (List.mem_of_getElem? hhd)
            have hkm : k < p.mi.length := by rw [HOK.out.mil, HRN]; exact hlt
            have hmr : p.mi[k]? = some (p.mi.getD k []) := by rw [List.getD_eq_getElem?_getD, List.getElem?_eq_getElem hkm, Option.getD_some]
            obtain ⟨bm, om, bm2, om2, cm2, m, hAm, m1, hcm2, hm, m2⟩ := rows_at HR.out.mi hmr ((HOK.out.mib _ (List.mem_of_getElem? hmr)).1.trans HHN) hjl
            subst hAm
            have hmb := (HOK.out.mib _ (List.mem_of_getElem? hmr)).2 m (List.mem_of_getElem? hm)
            have hbm : bm < w2.heap.size := World.block_lt_of_cell? w2 _ m1
            have hbm2 : bm2 < w2.heap.size := World.block_lt_of_cell? w2 _ m2
            have HM0 : Hid (∀ w', Below w2.heap.size w2 w' → w'.cell? ⟨W.heap.size, 1, none⟩ = some (.slice (some ⟨bm, om, none⟩) mn cm) ∧ w'.cell? ⟨bm, om + k, none⟩ = some (.slice (some ⟨bm2, om2, none⟩) hn cm2) ∧ w'.cell? ⟨bm2, om2 + j, none⟩ = some (.int .i64 m)) :=
              fun w' h => ⟨(h.cell (p := ⟨W.heap.size, 1, none⟩) hg0).trans d1, (h.cell (p := ⟨bm, om + k, none⟩) hbm).trans m1, (h.cell (p := ⟨bm2, om2 + j, none⟩) hbm2).trans m2⟩
            have HHD := Lib.hid hhd
            have HMM := Lib.hid hm
            have hmn : k < mn := by rw [← HMN]; exact hkm
            clear hhd hm hmr hkm m1 m2 hbw2 d1
            obtain ⟨t1, t2, t3, t4, t5, t6⟩ := HT.out
            have HT1 := Lib.hid t2
            have HT2 := Lib.hid t3
            have HO1 := Lib.hid t4
            have HO2 := Lib.hid t5
            have hM0 : (0 : Int) ≤ 10000 + 360000 * k := by omega
            clear t1 t2 t3 t4 t5 t6
            by_cases hk0 : 0 < k
            · obtain ⟨i1, hi1⟩ : ∃ i1 : Nat, (k : Int) - 1 = i1 := ⟨k - 1, by omega⟩
              have hi1k : i1 < k := by omega
              have hk0b : decide (0 < (k : Int)) = true := by simp; omega
              obtain ⟨gB, cB, bB, oB, ccB, hBe, hcB, hvB, hccB⟩ := tab_form S (i4 := 4) (iB := 2) rfl rfl HT1.out HO1.out hi1k (by omega)
              obtain ⟨gE, cE, bE, oE, ccE, hEe, hcE, hvE, hccE⟩ := tab_form S (i4 := 4) (iB := 3) rfl rfl HT2.out HO2.out hi1k (by omega)
              subst hBe hEe
              have HVB := Lib.hid hvB
              have HVE := Lib.hid hvE
              have hx1 := HO1.out.at_ hM0 i1 j
              have hx3 := HO2.out.at_ hM0 i1 j
              clear hvB hvE
              by_cases hhk : hd ≤ (k : Int)
              · obtain ⟨i2, hi2⟩ : ∃ i2 : Nat, (k : Int) - hd = i2 := ⟨((k : Int) - hd).toNat, by omega⟩
                have hi2k : i2 < k := by omega
                obtain ⟨gE', cE', bE2, oE2, ccE2, hEe, _, hvE2, hccE2⟩ := tab_form S (i4 := 4) (iB := 3) rfl rfl HT2.out HO2.out hi2k (by omega)
                cases hEe
                have HVE2 := Lib.hid hvE2
                have hx2 := HO2.out.at_ hM0 i2 j
                clear hvE2
                obtain ⟨b1, hb1⟩ : ∃ b1, (if a < at2 T.b i1 j then at2 T.b i1 j else a) = b1 := ⟨_, rfl⟩
                obtain ⟨b2, hb2⟩ : ∃ b2, (if b1 < at2 T.e i2 j then at2 T.e i2 j else b1) = b2 := ⟨_, rfl⟩
                obtain ⟨e, he⟩ : ∃ e, (if b2 + m < at2 T.e i1 j then at2 T.e i1 j else b2 + m) = e := ⟨_, rfl⟩
                have HST := Lib.hid (playH_step HHD.out (beginF_2 hk0 hi1 hhk hhb.1 hi2 hb1 hb2) HMM.out (endF_1 hk0 hi1 he) HI.out)
                have q1 : 0 ≤ b1 ∧ b1 ≤ 10000 + 360000 * k + 10000 * j := by rw [← hb1]; split <;> omega
                have q2 : 0 ≤ b2 ∧ b2 ≤ 10000 + 360000 * k + 10000 * j := by rw [← hb2]; split <;> omega
                have q3 : 0 ≤ e ∧ e ≤ 10000 + 360000 * k + 10000 * (j + 1) := by rw [← he]; split <;> omega
                have hpos : (0 : Int) ≤ k := by omega
                go_wp2_with (first
                  | (at_builtin; refine wpList_append_st eltI rfl _ _ rfl rfl (S.alloc _) (k := 5) rfl rfl (rd_one (by simp)) (one_int _ _) (by omega) (by omega) ?_; intro v5 w5 S5 _; have gg51 := S5.blk_cell (i := 0) rfl 1; have gg52 := S5.blk_cell (i := 0) rfl 2; obtain ⟨f1, f1'⟩ := tab_cell S5 (i4 := 4) (iB := 2) rfl rfl HT1.out HO1.out HVB.out hjl; obtain ⟨f2, f2'⟩ := tab_cell S5 (i4 := 4) (iB := 3) rfl rfl HT2.out HO2.out HVE2.out hjl; skip)
                  | (at_builtin; refine wpList_append_st eltI rfl _ _ rfl rfl (S5.alloc _) (k := 6) rfl rfl (rd_one (by simp)) (one_int _ _) (by omega) (by omega) ?_; intro v6 w6 S6 _; have gg62 := S6.blk_cell (i := 0) rfl 2; obtain ⟨f3, f3'⟩ := tab_cell S6 (i4 := 4) (iB := 3) rfl rfl HT2.out HO2.out HVE.out hjl; obtain ⟨m0, m1, m2⟩ := HM0.out w6 S6.bel)
                  | (at_builtin; refine wpList_append_st eltI rfl _ _ rfl rfl (S6.alloc _) (k := 7) rfl rfl (rd_one (by simp)) (one_int _ _) (by omega) (by omega) ?_; intro v7 w7 S7 _; skip))
                go_roundw
                case rel => exact ⟨j + 1, cl ++ [a], bl ++ [b2], el ++ [e], e, by omega, by go_num, rfl, by simpa [ints] using S7, by omega, by omega, HST.out⟩
                case measure => simp [intOf]; omega
              · have hhkb : decide (hd ≤ (k : Int)) = false := by simp; omega
                obtain ⟨b1, hb1⟩ : ∃ b1, (if a < at2 T.b i1 j then at2 T.b i1 j else a) = b1 := ⟨_, rfl⟩
                obtain ⟨e, he⟩ : ∃ e, (if b1 + m < at2 T.e i1 j then at2 T.e i1 j else b1 + m) = e := ⟨_, rfl⟩
                have HST := Lib.hid (playH_step HHD.out (beginF_1 hk0 hi1 hhk hb1) HMM.out (endF_1 hk0 hi1 he) HI.out)
                have q1 : 0 ≤ b1 ∧ b1 ≤ 10000 + 360000 * k + 10000 * j := by rw [← hb1]; split <;> omega
                have q3 : 0 ≤ e ∧ e ≤ 10000 + 360000 * k + 10000 * (j + 1) := by rw [← he]; split <;> omega
                clear hhk
                have hpos : (0 : Int) ≤ k := by omega
                go_wp2_with (first
                  | (at_builtin; refine wpList_append_st eltI rfl _ _ rfl rfl (S.alloc _) (k := 5) rfl rfl (rd_one (by simp)) (one_int _ _) (by omega) (by omega) ?_; intro v5 w5 S5 _; have gg51 := S5.blk_cell (i := 0) rfl 1; have gg52 := S5.blk_cell (i := 0) rfl 2; obtain ⟨f1, f1'⟩ := tab_cell S5 (i4 := 4) (iB := 2) rfl rfl HT1.out HO1.out HVB.out hjl; skip)
                  | (at_builtin; refine wpList_append_st eltI rfl _ _ rfl rfl (S5.alloc _) (k := 6) rfl rfl (rd_one (by simp)) (one_int _ _) (by omega) (by omega) ?_; intro v6 w6 S6 _; have gg62 := S6.blk_cell (i := 0) rfl 2; obtain ⟨f3, f3'⟩ := tab_cell S6 (i4 := 4) (iB := 3) rfl rfl HT2.out HO2.out HVE.out hjl; obtain ⟨m0, m1, m2⟩ := HM0.out w6 S6.bel)
                  | (at_builtin; refine wpList_append_st eltI rfl _ _ rfl rfl (S6.alloc _) (k := 7) rfl rfl (rd_one (by simp)) (one_int _ _) (by omega) (by omega) ?_; intro v7 w7 S7 _; skip))
                go_roundw
                case rel => exact ⟨j + 1, cl ++ [a], bl ++ [b1], el ++ [e], e, by omega, by go_num, rfl, by simpa [ints] using S7, by omega, by omega, HST.out⟩
                case measure => simp [intOf]; omega
            · have hk0b : decide (0 < (k : Int)) = false := by simp; omega
              have hk0c : decide (0 < k) = false := by simp; omega
              have hhkb : decide (hd ≤ (k : Int)) = false := by simp; omega
              have HST : Hid (_ ∧ _ ∧ _) := Lib.hid (playH_step (b := a) (e := a + m) HHD.out (by rw [show k = 0 by omega]; exact beginF_0 hhb.1) HMM.out (by rw [show k = 0 by omega]; exact endF_0) HI.out)
              clear hk0
              have hpos : (0 : Int) ≤ k := by omega
              go_wp2_with (first
                | (at_builtin; refine wpList_append_st eltI rfl _ _ rfl rfl (S.alloc _) (k := 5) rfl rfl (rd_one (by simp)) (one_int _ _) (by omega) (by omega) ?_; intro v5 w5 S5 _; skip)
                | (at_builtin; refine wpList_append_st eltI rfl _ _ rfl rfl (S5.alloc _) (k := 6) rfl rfl (rd_one (by simp)) (one_int _ _) (by omega) (by omega) ?_; intro v6 w6 S6 _; obtain ⟨m0, m1, m2⟩ := HM0.out w6 S6.bel)
                | (at_builtin; refine wpList_append_st eltI rfl _ _ rfl rfl (S6.alloc _) (k := 7) rfl rfl (rd_one (by simp)) (one_int _ _) (by omega) (by omega) ?_; intro v7 w7 S7 _; skip))
              go_roundw
              case rel => exact ⟨j + 1, cl ++ [a], bl ++ [a], el ++ [(a + m)], (a + m), by omega, by go_num, rfl, by simpa [ints] using S7, by omega, by omega, HST.out⟩
              case measure => simp [intOf]; omega
          · have hjn : decide ((j : Int) < hn) = false := by simp; omega
            have hjj : hn = j := by omega
            subst hjj
            obtain ⟨Ac, cc, rfl, _, _, _⟩ := (S.row_rd (i := 5) rfl).open_
            obtain ⟨Ab, cb, rfl, _, _, _⟩ := (S.row_rd (i := 6) rfl).open_
            obtain ⟨Ae, ce, rfl, _, _, _⟩ := (S.row_rd (i := 7) rfl).open_
            go_wp2_with fail
            clear e2
            refine wp_head_tail3 3 24 6 [0, 1, 2] [3, 4, 5, 6, 7, 10, 11, 12, 13, 14, 17, 18, 19, 20, 21] rfl (fun w' => w'.cell? ⟨go, 0, none⟩ = some A ∧ w'.cell? ⟨go, 1, none⟩ = some B ∧ w'.cell? ⟨go, 2, none⟩ = some C)
              (fun a a' w' => ∃ (g : Nat → Nat) (v : Nat → Value), St w2 w' (rows1 23 [⟨.slice Ac hn cc, A, k, vc⟩, ⟨.slice Ab hn cb, B, k, vb⟩, ⟨.slice Ae hn ce, C, k, ve⟩] v ++ [blk go 142 #[A, B, C], rdAll ms, row 3 1 (.slice Ac hn cc) hn (ints cl), row 3 1 (.slice Ab hn cb) hn (ints bl), row 3 1 (.slice Ae hn ce) hn (ints el)]) ∧ a' = putAll g v 0 [⟨8, 9, 115, 116, 114, 117⟩, ⟨15, 16, 122, 123, 121, 124⟩, ⟨22, 23, 129, 130, 128, 131⟩] a)
              (by kernel_rfl) (by kernel_rfl) ⟨S.drew.blk_cell (i := 0) rfl 0, S.drew.blk_cell (i := 0) rfl 1, S.drew.blk_cell (i := 0) rfl 2⟩ ?_
            simp only [pick, List.filterMap_cons, List.filterMap_nil, List.getElem?_toArray, List.getElem?_cons_succ, List.getElem?_cons_zero]
            have SD := Lib.hid S.drew
            generalize hK : (fun w' : World => w'.cell? ⟨go, 0, none⟩ = some A ∧ w'.cell? ⟨go, 1, none⟩ = some B ∧ w'.cell? ⟨go, 2, none⟩ = some C) = K
            have k0 : ∀ y : Wd K, y.w.cell? ⟨go, 0, none⟩ = some A := by subst hK; exact fun y => y.h.1
            have k1 : ∀ y : Wd K, y.w.cell? ⟨go, 1, none⟩ = some B := by subst hK; exact fun y => y.h.2.1
            have k2 : ∀ y : Wd K, y.w.cell? ⟨go, 2, none⟩ = some C := by subst hK; exact fun y => y.h.2.2
            have HK := Lib.hid hK
            have hne : Nonempty (Wd K) := ⟨⟨wr.drew, by subst hK; exact ⟨SD.out.blk_cell (i := 0) rfl 0, SD.out.blk_cell (i := 0) rfl 1, SD.out.blk_cell (i := 0) rfl 2⟩⟩⟩
            clear hK S
            generalize wr.drew = w3 at *
            change wpQuiet _ _ _ _ (_ :: _ :: _ :: []) _
            repeat (go_big_quiet_step ((fail)))
            refine wpQuiet_nil ?_
            change wpQuiet _ _ _ _ (_ :: _ :: _ :: _ :: _ :: _ :: _ :: _ :: _ :: _ :: _ :: _ :: _ :: _ :: _ :: []) _
            repeat (go_big_quiet_step ((fail)))
            refine wpQuiet_nil ?_
            have hKd : ∀ (w' : World) (t : TypeId) (L : List Asr), St w2 w' (blk go t #[A, B, C] :: L) → K w' := by
              intro w' t L h
              rw [← HK.out]
              exact ⟨h.blk_cell (i := 0) rfl 0, h.blk_cell (i := 0) rfl 1, h.blk_cell (i := 0) rfl 2⟩
            have hfin : ∀ (w' : World) (A' B' C' : Value), St w2 w' [blk go 142 #[A', B', C'], row 23 1 A' (k + 1) (vc ++ [.slice Ac hn cc]), row 23 1 B' (k + 1) (vb ++ [.slice Ab hn cb]), row 23 1 C' (k + 1) (ve ++ [.slice Ae hn ce]), rdAll ms, row 3 1 (.slice Ac hn cc) hn (ints cl), row 3 1 (.slice Ab hn cb) hn (ints bl), row 3 1 (.slice Ae hn ce) hn (ints el)] →
                ∃ (T' : Tab) (ms' : List (Value × List Value)), St w2 w' [blk go 142 #[A', B', C'], row 23 1 A' (k + 1) (vc ++ [.slice Ac hn cc]), row 23 1 B' (k + 1) (vb ++ [.slice Ab hn cb]), row 23 1 C' (k + 1) (ve ++ [.slice Ae hn ce]), rdAll ms'] ∧ Hid (PInv p hn (k + 1) ms' (vc ++ [.slice Ac hn cc]) (vb ++ [.slice Ab hn cb]) (ve ++ [.slice Ae hn ce]) T') := by
              intro w' A' B' C' h
              obtain ⟨i1, i2, i3⟩ := HI.out
              rw [List.drop_eq_nil_of_le (by omega), playH] at i1 i2 i3
              simp only [List.map_nil, List.append_nil] at i1 i2 i3
              exact play_step HOK.out HHN HX.out HT.out i1 i2 i3 h
            clear HI HT
            have S3 : St w2 w3 (rows0 23 [⟨.slice Ac hn cc, A, k, vc⟩, ⟨.slice Ab hn cb, B, k, vb⟩, ⟨.slice Ae hn ce, C, k, ve⟩] ++ [blk go 142 #[A, B, C], rdAll ms, row 3 1 (.slice Ac hn cc) hn (ints cl), row 3 1 (.slice Ab hn cb) hn (ints bl), row 3 1 (.slice Ae hn ce) hn (ints el)]) :=
              SD.out.perm (List.Perm.append_right [rdAll ms, row 3 1 (.slice Ac hn cc) hn (ints cl), row 3 1 (.slice Ab hn cb) hn (ints bl), row 3 1 (.slice Ae hn ce) hn (ints el)] (List.perm_append_comm (l₁ := [_]) (l₂ := [_, _, _])))
            refine ⟨headW_appends (chs := [⟨8, 9, 115, 116, 114, 117⟩, ⟨15, 16, 122, 123, 121, 124⟩, ⟨22, 23, 129, 130, 128, 131⟩]) (D := [⟨.slice Ac hn cc, A, k, vc⟩, ⟨.slice Ab hn cb, B, k, vb⟩, ⟨.slice Ae hn ce, C, k, ve⟩]) (L0 := [blk go 142 #[A, B, C], rdAll ms, row 3 1 (.slice Ac hn cc) hn (ints cl), row 3 1 (.slice Ab hn cb) hn (ints bl), row 3 1 (.slice Ae hn ce) hn (ints el)]) eltL rfl (by kernel_rfl) ?_ ?_ ?_ (fun w' R h => hKd w' _ _ (h.sub (List.sublist_append_right _ _))) S3, ?_⟩
            · exact List.forall_mem_cons.2 ⟨⟨⟨_, rfl, rfl, rfl, rfl⟩, ⟨_, rfl, rfl, rfl, rfl⟩⟩, List.forall_mem_cons.2 ⟨⟨⟨_, rfl, rfl, rfl, rfl⟩, ⟨_, rfl, rfl, rfl, rfl⟩⟩, List.forall_mem_cons.2 ⟨⟨⟨_, rfl, rfl, rfl, rfl⟩, ⟨_, rfl, rfl, rfl, rfl⟩⟩, List.forall_mem_nil _⟩⟩⟩
            · intro q hq
              have hq' : q < 140 := (show ∀ q ∈ [116, 117, 123, 124, 130, 131], q < 140 by decide) q hq
              exact hq'
            · intro j c d hc hd
              match j with
              | 0 => cases hc; cases hd; exact ⟨rfl, rfl, rfl, by dsimp only; omega, by dsimp only; omega⟩
              | 1 => cases hc; cases hd; exact ⟨rfl, rfl, rfl, by dsimp only; omega, by dsimp only; omega⟩
              | 2 => cases hc; cases hd; exact ⟨rfl, rfl, rfl, by dsimp only; omega, by dsimp only; omega⟩
              | n + 3 => simp at hc
            · as_aux_lemma =>
                rintro a' w9 ⟨g, v, S9', rfl⟩
                have S9 : St w2 w9 [row 23 1 (v 0) (k + 1) (vc ++ [.slice Ac hn cc]), row 23 1 (v 1) (k + 1) (vb ++ [.slice Ab hn cb]), row 23 1 (v 2) (k + 1) (ve ++ [.slice Ae hn ce]), blk go 142 #[A, B, C], rdAll ms, row 3 1 (.slice Ac hn cc) hn (ints cl), row 3 1 (.slice Ab hn cb) hn (ints bl), row 3 1 (.slice Ae hn ce) hn (ints el)] := S9'
                clear S9' S3 SD hKd HK hne k0 k1 k2
                simp only [putAll, sl1, Nat.zero_add, Nat.reduceAdd]
                generalize v 0 = v1 at *
                generalize v 1 = v2 at *
                generalize v 2 = v3 at *
                generalize g 0 = g1 at *
                generalize g 1 = g2 at *
                generalize g 2 = g3 at *
                obtain ⟨A1, c1, rfl, _, _, _⟩ := (S9.row_rd (i := 0) rfl).open_
                obtain ⟨B1, c2, rfl, _, _, _⟩ := (S9.row_rd (i := 1) rfl).open_
                obtain ⟨C1, c3, rfl, _, _, _⟩ := (S9.row_rd (i := 2) rfl).open_
                simp only [List.drop_succ_cons, List.drop_zero]
                have T0 := S9.blk_set (i := 3) rfl 0 (.slice A1 (k + 1) c1)
                have T1 := T0.blk_set (i := 3) rfl 1 (.slice B1 (k + 1) c2)
                have T2 := T1.blk_set (i := 3) rfl 2 (.slice C1 (k + 1) c3)
                have f0 := S9.blk_cell (i := 3) rfl 0
                have f1 := S9.blk_cell (i := 3) rfl 1
                have f2 := S9.blk_cell (i := 3) rfl 2
                have z0 := S9.blk_frozen (i := 3) rfl 0
                have z1 := S9.blk_frozen (i := 3) rfl 1
                have z2 := S9.blk_frozen (i := 3) rfl 2
                go_wp2_with fail
                obtain ⟨T', ms', S', hP⟩ := hfin _ _ _ _ (T2.perm (List.Perm.append_right [rdAll ms, row 3 1 (.slice Ac hn cc) hn (ints cl), row 3 1 (.slice Ab hn cb) hn (ints bl), row 3 1 (.slice Ae hn ce) hn (ints el)] (List.perm_append_comm (l₁ := [_, _, _]) (l₂ := [_]))))
                clear T0 T1 T2 S9 f0 f1 f2 z0 z1 z2 hfin
                refine NoPanic.normal ?_
                go_wp2
                go_roundw
                case rel => exact ⟨k + 1, _, _, _, _, _, _, T', ms', by omega, by go_num, S', hP⟩
                case measure => simp [intOf]; omega
      · have hkn : decide ((k : Int) < rn) = false := by simp; omega
        obtain ⟨t1, t2, t3, t4, t5, t6⟩ := HT.out
        have hkr : k = rn := by omega
        rw [List.drop_eq_nil_of_le (by omega), playG] at t6
        have r0 := tab_rows S (i4 := 4) (iB := 1) rfl rfl t1
        have r1 := tab_rows S (i4 := 4) (iB := 2) rfl rfl t2
        have r2 := tab_rows S (i4 := 4) (iB := 3) rfl rfl t3
        rw [t6] at r0 r1 r2
        have f0 := S.blk_cell (i := 0) rfl 0
        have f1 := S.blk_cell (i := 0) rfl 1
        have f2 := S.blk_cell (i := 0) rfl 2
        have HFIN : Hid (RetPlayed W p (.returned (.tuple #[.pointer (some ⟨go, 0, none⟩), .int .i64 0])) wr) :=
          .inr ⟨by rw [HE.out]; simpa using h0', go, A, B, C, rfl, HB.out.trans (hbw.mono HB.out.size), f0, f1, f2, r0, r1, r2⟩
        clear t1 t2 t3 t4 t5 t6 r0 r1 r2 f0 f1 f2 hkr S hbw
        go_wp2
        exact bodyPost_ret (v := .tuple #[.pointer (some ⟨go, 0, none⟩), .int .i64 0]) (by simp [results, Tryz.results88, go_sem]) rfl HFIN.out
end Go.Proofs.YtlffgdmljioaoaaGreatDoor
