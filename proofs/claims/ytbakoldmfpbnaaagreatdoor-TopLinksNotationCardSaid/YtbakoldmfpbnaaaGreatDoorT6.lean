/- TopLinksNotation: the law. -/
import Derived.Test.YtbakoldmfpbnaaaGreatDoorT5
import Derived.Test.YtbakoldmfpbnaaaGreatDoorB30
import Derived.Test.YtbakoldmfpbnaaaGreatDoorB34
set_option linter.unusedVariables false
set_option linter.unusedSimpArgs false
set_option linter.unusedSectionVars false
set_option linter.constructorNameAsVariable false
namespace Go.Proofs.YtbakoldmfpbnaaaGreatDoor
open Go.RowKit Go.Mem Go.Sheet Go.Adj Go.Shelf Go.Maps
attribute [local go_sem] Oper.semAt_some
def againB : ByteArray := ⟨#[97, 103, 97, 105, 110]⟩
theorem again_name : nameB againB = true := by decide +kernel
def MI0 (b c : Nat) (f : Nat → Int) (S : Nat → Prop) : Asr := mapK Tryz.prog 3 3 b c f S
theorem zeroInt (w : World) : (zeroValue 3).run Tryz.prog w = .ok (.int .i64 0) w := by kernel_rfl
theorem lookK {w : World} {b n : Nat} {D : DataW Unit} {f : Nat → Int} (h : w.ownsMap Tryz.prog 3 (plainElem Tryz.prog 3) b n D) (hat : ∀ x : Nat, D.atKey (.int .i64 x) (.lit (.int .i64 0)) = .lit (.int .i64 (f x))) (x : Nat) (hx : x ≤ 1000) :
    (Instr.lookup 28 (.map (some b)) (.int .i64 (x : Int)) false).run Tryz.prog w = .ok (.int .i64 (f x)) w := by
  obtain ⟨c, h1, h2, _⟩ := h.lookup_int (int_keyed Tryz.underlying3) Tryz.underlying28 Tryz.underlying3 (zeroInt w) (keyOf_int_mk Tryz.underlying3 (a := (x : Int)) (WalkArith.wf_i64 (by omega)))
  rw [hat x] at h2
  simp only [DataW.lit.injEq, Lit.int.injEq, true_and] at h2
  rw [← h2] at h1
  exact h1
set_option maxRecDepth 100000 in
set_option maxHeartbeats 16000000 in
theorem notation_any (W : World) (v vp : Value) (n m : Nat) (hs : List HI) (ps : List PI) (hbd : m * 48 ≤ 140737488351232) (h : Rd W (· < W.heap.size) 2 v n (hs.flatMap HI.cells)) (hp : RdPl W (· < W.heap.size) vp m ps) (hgm : GlobM W) :
    Calls Tryz.prog 3 #[.agg #[v, vp]] W fun e w' => e = .returned (.bool true) ∧ Below W.heap.size W w' := by
  have HL := Lib.hid (h.count (f := HI.cells) (size := 2) (fun _ => rfl) (by decide))
  have H := Lib.hid h
  have HP := Lib.hid hp
  have HGM := Lib.hid hgm
  obtain ⟨A, c, rfl, _, _, _⟩ := h.open_
  obtain ⟨Ap, cp, rfl, _, _, _⟩ := hp.1.open_
  have hm63 := hp.1.le
  clear h hp hgm
  have S0 := (St.refl W).blk_new #[.slice A n c, .slice Ap m cp] 25
  simp only [List.nil_append] at S0
  have HF := Lib.hid (linksFew_any (W.alloc (.cells #[.slice A n c, .slice Ap m cp] 25)) _ _ n m hs ps hbd (H.out.later S0.bel) (HP.out.later S0.bel))
  have HLR : Hid (∀ w', Below W.heap.size W w' → Calls Tryz.prog 7 #[] w' fun e w2 => e = .returned (.bool true) ∧ Below W.heap.size W w2) := fun w' hb => (linksRound_any w' (HGM.out.later hb)).mono fun e w2 ⟨h1, h2⟩ => ⟨h1, hb.trans (h2.mono hb.size)⟩
  have HS0 := Lib.hid S0
  clear S0
  go_enter Tryz.func3, Tryz.ntmps3
  go_wp2_with fail
  go_at_call 6
  refine HF.out.mono ?_
  rintro e w1 ⟨⟨bo, rfl, hgood⟩, hb1⟩
  have S1 := HS0.out.ext hb1
  clear HS0 HF hb1
  generalize hgc : W.heap.size = gc at S1 ⊢
  have c1 := S1.blk_cell (i := 0) rfl 1
  have HS1 := Lib.hid S1
  by_cases hbo : bo = false
  · subst hbo
    clear hgood
    go_wp2_with (go_at_call 7; refine (HLR.out _ HS1.out.bel).mono ?_; rintro e w' ⟨rfl, hb2⟩; have HB2 := Lib.hid hb2; clear hb2)
    go_ret
    exact ⟨rfl, HB2.out⟩
  obtain rfl : bo = true := by simpa using hbo
  obtain ⟨g1, g2, g3⟩ := hgood rfl
  have HG1 := Lib.hid g1
  have HG3 := Lib.hid g3
  have hn36 : 1 ≤ n ∧ n ≤ 36 := by rw [HL.out]; exact g1.len
  have SM := (S1.mapK_new Tryz.prog 3 3).mapK_new Tryz.prog 3 3
  simp only [List.cons_append, List.nil_append, World.size_alloc] at SM
  have c2 := SM.blk_cell (i := 0) rfl 1
  clear hgood g1 g3 hbo S1 c1 HS1
  have hmm := @run_makeMap Tryz.prog
  go_wp2_with fail
  clear hmm
  obtain ⟨b1, hb1⟩ : ∃ x, x = w1.heap.size := ⟨_, rfl⟩
  obtain ⟨b2, hb2⟩ : ∃ x, x = w1.heap.size + 1 := ⟨_, rfl⟩
  rw [← hb2, ← hb1] at SM ⊢
  have hb12 : b1 ≠ b2 := by omega
  clear hb1 hb2 c2
  generalize hfld : blk gc 25 #[.slice A n c, .slice Ap m cp] = FA at *
  have HFA : Hid (∀ w' L, St W w' (FA :: L) → w'.cell? ⟨gc, 0, none⟩ = some (.slice A n c) ∧ w'.cell? ⟨gc, 1, none⟩ = some (.slice Ap m cp)) := fun w' L h => by
    subst hfld
    exact ⟨h.blk_cell (i := 0) rfl 0, h.blk_cell (i := 0) rfl 1⟩
  obtain ⟨CC, hCC⟩ : ∃ C, C = sumTo (fun i => 2 + (hAt hs i).par) n := ⟨_, rfl⟩
  have HCC := Lib.hid hCC
  have SM0 : ∃ (cn : Nat) (f g : Nat → Int) (S T : Nat → Prop), cn ≤ 0 ∧ Hid (∀ x, S x → x < 0 ∧ f x + g x = CC) ∧ St W ((w1.alloc (.map #[] 0)).alloc (.map #[] 0)) [FA, MI0 b1 cn f S, MI0 b2 cn g T] := ⟨0, _, _, _, _, Nat.le_refl _, Lib.hid (fun x h => h.elim), SM⟩
  clear hfld hCC SM
  go_loopw [36] (fun i w' => ∃ k : Nat, k ≤ m ∧ i = .int .i64 k ∧ ∃ (cn : Nat) (f g : Nat → Int) (S T : Nat → Prop), cn ≤ k ∧ Hid (∀ x, S x → x < k ∧ f x + g x = CC) ∧ St W w' [FA, MI0 b1 cn f S, MI0 b2 cn g T]) (fun i _ => m - (intOf i).toNat)
  case atStart => exact ⟨0, Nat.zero_le _, rfl, SM0⟩
  case round =>
    obtain ⟨k, hk, rfl, cn, f, g, KS, KT, hcn, hks, S⟩ := hrel
    clear SM0
    by_cases hlt : k < m
    · obtain ⟨bp, op, x, hA, hx, p0, p1, p2⟩ := (HP.out.later S.bel).elem hlt
      subst hA
      have hgx := HG3.out.ok k hlt
      rw [pAt_eq hx] at hgx
      obtain ⟨⟨x1, x2, x3, x4⟩, hco⟩ := hgx
      have hmn : x.m = n := x3.trans HL.out.symm
      have HCE : Hid (∀ w, Below W.heap.size W w → CEnv w (.slice A n c) (.slice x.a x.m x.c) n hs x.es x.name) := fun w hb => by
        have := ((HP.out.later hb).2 x (List.mem_of_getElem? hx))
        rw [hmn] at this ⊢
        exact ⟨H.out.later hb, this.1, x1, x2, this.2, by rwa [hmn] at x4⟩
      clear hx x1 x2 x3 x4
      obtain ⟨xn, xa, xm, xc, xes, xco⟩ := x
      simp only at p0 p1 p2 HCE hco hmn
      subst hmn
      have hce0 := HCE.out W (Below.refl _ _)
      have hel : xm = xes.length := hce0.re.count (f := EI.cells) (fun _ => rfl) (by decide)
      have hge : ∀ z ∈ xes, GoodE z := fun z hz => by
        obtain ⟨i, hi⟩ := List.mem_iff_getElem?.1 hz
        have := hce0.ge i (by have := (List.getElem?_eq_some_iff.1 hi).1; omega)
        rwa [eAt_eq hi] at this
      obtain ⟨hnota, hesof⟩ := toksC_nota (l := xes) (by omega) hge
      rw [← hel] at hnota hesof
      have htx : joinW (wordsC xes ((xm + 8) / 9)) = textW (toksC xes ((xm + 8) / 9)) := by unfold textW; rw [toksC_word]
      have HPR : Hid (∀ w, Below W.heap.size W w → Calls Tryz.prog 8 #[.slice xa xm xc] w fun e w' => e = .returned (.tuple #[.string (wB (textW (toksC xes ((xm + 8) / 9)))), .int .i64 0]) ∧ Below w.heap.size w w') := fun w hb => by
        have := print_all w _ xm xes (HCE.out w hb).re hn36 hce0.ge
        rw [htx] at this
        exact this
      have HPA : Hid (∀ w, GlobM w → Calls Tryz.prog 9 #[.string (wB (textW (toksC xes ((xm + 8) / 9))))] w fun e w' => ∃ v', e = .returned (.tuple #[v', .int .i64 0, .int .i64 0]) ∧ St w w' [row 54 2 v' xm (xes.flatMap EI.cells)]) := fun w hg => by
        have := parse_any w _ hnota hg
        rw [hesof, ← hel] at this
        exact this
      generalize wB (textW (toksC xes ((xm + 8) / 9))) = TX at *
      have HEL := Lib.hid hel
      have SA := S.blk_new #[.string xn, .slice xa xm xc, .int .i64 xco] 33
      simp only [List.cons_append, List.nil_append] at SA
      have u1 := SA.blk_cell (i := 3) rfl 1
      have HSA := Lib.hid SA
      have q1 := (HFA.out _ _ S).2
      clear S SA hce0 hel hge hnota hesof htx
      go_wp2_with fail
      generalize wr.alloc (.cells #[.string xn, .slice xa xm xc, .int .i64 xco] 33) = w2 at *
      generalize wr.heap.size = gp at *
      go_at_call 8
      refine (HPR.out _ HSA.out.bel).mono ?_
      rintro e w3 ⟨rfl, hb3⟩
      have HS3 := Lib.hid (HSA.out.ext hb3)
      clear hb3 HSA HPR p0 p1 p2 u1 q1
      go_wp2_with fail
      go_at_call 9
      refine (HPA.out _ (HGM.out.later HS3.out.bel)).mono ?_
      rintro e w4 ⟨vl, rfl, S4⟩
      have S5 := HS3.out.call S4
      simp only [List.cons_append, List.nil_append] at S5
      obtain ⟨bl, cl, rfl⟩ := row_some2 S5 (i := 4) rfl hn36.1
      have u1 := S5.blk_cell (i := 3) rfl 1
      have u2 := S5.blk_cell (i := 3) rfl 2
      have HSE := Lib.hid (sameEntries_yes w4 _ _ _ _ xm xes (S5.row_rd (i := 4) rfl) (HCE.out _ S5.bel).re)
      have HS5 := Lib.hid S5
      clear S4 S5 HS3 HPA
      go_wp2_with fail
      go_at_call 10
      refine HSE.out.mono ?_
      rintro e w5 ⟨rfl, q, hq5⟩
      have S6 := HS5.out.drewN q
      rw [← hq5] at S6
      have u1 := S6.blk_cell (i := 3) rfl 1
      have u2 := S6.blk_cell (i := 3) rfl 2
      have S7 := S6.blk_new #[.string ⟨#[97, 103, 97, 105, 110]⟩, .slice (some ⟨bl, 0, none⟩) xm cl, .int .i64 xco] 33
      simp only [List.cons_append, List.nil_append] at S7
      have HFC : Hid (∀ w' L, St W w' (FA :: MI0 b1 cn f KS :: MI0 b2 cn g KT :: blk gp 33 #[.string xn, .slice xa xm xc, .int .i64 xco] :: row 54 2 (.slice (some ⟨bl, 0, none⟩) xm cl) xm (xes.flatMap EI.cells) :: blk w5.heap.size 33 #[.string ⟨#[97, 103, 97, 105, 110]⟩, .slice (some ⟨bl, 0, none⟩) xm cl, .int .i64 xco] :: L) →
          w'.cell? ⟨gc, 0, none⟩ = some (.slice A xm c) ∧ w'.cell? ⟨gc, 1, none⟩ = some (.slice (some ⟨bp, op, none⟩) m cp) ∧ (w'.cell? ⟨gp, 0, none⟩ = some (.string xn) ∧ w'.cell? ⟨gp, 1, none⟩ = some (.slice xa xm xc) ∧ w'.cell? ⟨gp, 2, none⟩ = some (.int .i64 xco)) ∧
          (w'.cell? ⟨w5.heap.size, 0, none⟩ = some (.string ⟨#[97, 103, 97, 105, 110]⟩) ∧ w'.cell? ⟨w5.heap.size, 1, none⟩ = some (.slice (some ⟨bl, 0, none⟩) xm cl) ∧ w'.cell? ⟨w5.heap.size, 2, none⟩ = some (.int .i64 xco)) ∧ CEnv w' (.slice A xm c) (.slice (some ⟨bl, 0, none⟩) xm cl) xm hs xes (⟨#[97, 103, 97, 105, 110]⟩ : ByteArray)) := fun w' L h =>
        ⟨(HFA.out _ _ h).1, (HFA.out _ _ h).2, ⟨h.blk_cell (i := 3) rfl 0, h.blk_cell (i := 3) rfl 1, h.blk_cell (i := 3) rfl 2⟩, ⟨h.blk_cell (i := 5) rfl 0, h.blk_cell (i := 5) rfl 1, h.blk_cell (i := 5) rfl 2⟩,
          ⟨(HCE.out _ h.bel).rh, (h.row_rd (i := 4) rfl).now, (HCE.out _ h.bel).gh, again_name, by decide +kernel, (HCE.out _ h.bel).ge⟩⟩
      have HBD := Lib.hid (pts_bd (HCE.out W (Below.refl _ _)) hco)
      have HPS : Hid (allO (netF hs xes xco) xm = true → posB (ptsL hs xes xco) xm = true → sumTo (ptsL hs xes xco) xm + sumTo (fun i => (netF hs xes xco i).s) xm = CC) := fun h1 h2 => by rw [HCC.out]; exact pts_score h1 h2
      have HNB := Lib.hid (net_bd (HCE.out W (Below.refl _ _)) hco)
      have HSC : Hid (∀ w ve nm, CEnv w (.slice A xm c) ve xm hs xes nm → Calls Tryz.prog 11 #[.slice A xm c, .agg #[.string nm, ve, .int .i64 xco]] w fun e w' => e = .returned (.tuple #[.int .i64 (if allO (netF hs xes xco) xm then sumTo (fun i => (netF hs xes xco i).s) xm else 0), .int .i64 (whenE (!allO (netF hs xes xco) xm) 7)]) ∧ Below w.heap.size w w') := fun w ve nm h => score_any w _ ve xm hs xes nm xco hco h
      have HPT : Hid (∀ w ve nm, CEnv w (.slice A xm c) ve xm hs xes nm → Calls Tryz.prog 12 #[.slice A xm c, .agg #[.string nm, ve, .int .i64 xco]] w fun e w' => ∃ v', e = .returned (.tuple #[v', .int .i64 0]) ∧ St w w' [row 3 1 v' xm (intsI (gl (ptsL hs xes xco) xm))]) := fun w ve nm h => points_ok w _ ve xm hs xes nm xco hco h
      generalize allO (netF hs xes xco) xm = bo at *
      have HSB : Hid (-7200 ≤ sumTo (fun i => (netF hs xes xco i).s) xm ∧ sumTo (fun i => (netF hs xes xco i).s) xm ≤ 7200) := by
        have := sumTo_bd (f := fun i => (netF hs xes xco i).s) (a := -200) (b := 200) (n := xm) HNB.out
        show _ ∧ _
        omega
      generalize sumTo (fun i => (netF hs xes xco i).s) xm = SC at *
      generalize ptsL hs xes xco = PF at *
      obtain ⟨q0, q1, ⟨u0, u1, u2⟩, ⟨v0, v1, v2⟩, _⟩ := HFC.out _ _ S7
      have HS7 := Lib.hid S7
      clear S6 S7 HS5 HSE hq5 HNB
      cases bo
      · have HSC2 : Hid (∀ w ve nm, CEnv w (.slice A xm c) ve xm hs xes nm → Calls Tryz.prog 11 #[.slice A xm c, .agg #[.string nm, ve, .int .i64 xco]] w fun e w' => e = .returned (.tuple #[.int .i64 0, .int .i64 7]) ∧ Below w.heap.size w w') := HSC.out
        clear HSC
        go_wp2_with fail
        generalize w5.alloc (.cells #[.string ⟨#[97, 103, 97, 105, 110]⟩, .slice (some ⟨bl, 0, none⟩) xm cl, .int .i64 xco] 33) = w6 at *
        generalize w5.heap.size = gr at *
        go_at_call 11
        refine (HSC2.out _ _ _ (HCE.out _ HS7.out.bel)).mono ?_
        rintro e w7 ⟨rfl, hb7⟩
        have S8 := HS7.out.ext hb7
        obtain ⟨q0, q1, ⟨u0, u1, u2⟩, ⟨v0, v1, v2⟩, hce⟩ := HFC.out _ _ S8
        have HCR := Lib.hid hce
        have HS8 := Lib.hid S8
        clear S8 hb7 HS7 hce
        go_wp2_with fail
        go_at_call 11
        refine (HSC2.out _ _ _ HCR.out).mono ?_
        rintro e w8 ⟨rfl, hb8⟩
        have S9 := HS8.out.ext hb8
        obtain ⟨q0, q1, ⟨u0, u1, u2⟩, ⟨v0, v1, v2⟩, hce⟩ := HFC.out _ _ S9
        have HS9 := Lib.hid S9
        clear S9 hb8 HS8 HCR hce
        go_wp2_with fail
        go_at_call 12
        refine (HPT.out _ _ _ (HCE.out _ HS9.out.bel)).mono ?_
        rintro e w9 ⟨vx, rfl, Sx⟩
        have S10 := HS9.out.call Sx
        simp only [List.cons_append, List.nil_append] at S10
        obtain ⟨bx_, cx, rfl⟩ := row_some S10 (i := 6) rfl hn36.1
        obtain ⟨q0, q1, ⟨u0, u1, u2⟩, ⟨v0, v1, v2⟩, hce⟩ := HFC.out _ _ S10
        have HCR := Lib.hid hce
        have HS10 := Lib.hid S10
        clear S10 Sx HS9 hce
        go_wp2_with fail
        go_at_call 12
        refine (HPT.out _ _ _ HCR.out).mono ?_
        rintro e w10 ⟨vy, rfl, Sy⟩
        have S11 := HS10.out.call Sy
        simp only [List.cons_append, List.nil_append] at S11
        obtain ⟨by_, cy, rfl⟩ := row_some S11 (i := 7) rfl hn36.1
        have hsi := sameInts_any w10 _ _ _ _ (gl PF xm) (gl PF xm) (by rw [gl_len]; exact S11.row_rd (i := 6) rfl) (by rw [gl_len]; exact S11.row_rd (i := 7) rfl)
        rw [decide_eq_true rfl] at hsi
        have HSI := Lib.hid hsi
        have HS11 := Lib.hid S11
        clear S11 Sy HS10 HCR hsi HPT HSC2 q0 q1 u0 u1 u2 v0 v1 v2
        go_wp2_with fail
        go_at_call 13
        refine HSI.out.mono ?_
        rintro e w11 ⟨rfl, q, hq11⟩
        have S12 := HS11.out.drewN q
        rw [← hq11] at S12
        have S13 := S12.sub (L' := [FA, MI0 b1 cn f KS, MI0 b2 cn g KT, row 3 1 (.slice (some ⟨bx_, 0, none⟩) xm cx) xm (intsI (gl PF xm))]) (.cons_cons _ (.cons_cons _ (.cons_cons _ (.cons _ (.cons _ (.cons _ (.cons_cons _ (.cons _ (List.Sublist.refl _)))))))))
        have HX : Hid (∀ j, j < xm → w11.cell? ⟨bx_, j, none⟩ = some (.int .i64 (PF j))) := fun j hj => by
          have := rd_cellI (S13.row_rd (i := 3) rfl) (gl_at PF hj)
          rwa [Nat.zero_add] at this
        have HS13 := Lib.hid (S13.sub (L' := [FA, MI0 b1 cn f KS, MI0 b2 cn g KT]) (List.sublist_append_left [_, _, _] [_]))
        have HPB : Hid (∀ j, j ≤ xm → 0 ≤ sumTo PF j ∧ sumTo PF j ≤ 10800) := fun j hj => by
          have := sumTo_bd (f := PF) (a := 0) (b := 300) (n := j) (fun i hi => HBD.out i (by omega))
          omega
        have HS1 : Hid (∀ j, sumTo PF (j + 1) = sumTo PF j + PF j) := fun _ => rfl
        have HQ1 : Hid (∀ j, posB PF (j + 1) = (posB PF j && decide (0 < PF j))) := fun _ => rfl
        clear S12 S13 HS11 HSI hq11
        go_wp2_with fail
        go_loopw [135, 21, 22] (fun i s a w' => ∃ j : Nat, j ≤ xm ∧ i = .int .i64 j ∧ s = .int .i64 (sumTo PF j) ∧ a = .bool false ∧ w' = w11) (fun i _ _ _ => xm - (intOf i).toNat)
        case atStart => exact ⟨0, Nat.zero_le _, rfl, rfl, rfl, rfl⟩
        case round =>
          obtain ⟨j, hj, rfl, rfl, rfl, rfl⟩ := hrel
          by_cases hltj : j < xm
          · have d0 := HX.out j hltj
            have hs1 := HS1.out j
            have hb1 := HPB.out j hj
            have hb2 := HBD.out j hltj
            have HSJ := Lib.hid hs1
            clear hs1
            generalize sumTo PF j = sj at *
            generalize PF j = pj at *
            go_wp2_with fail
            go_roundw
            case rel => exact ⟨j + 1, by omega, by go_num, by rw [HSJ.out], by trivial⟩
            case measure => simp [intOf]; omega
          · go_wp2_with fail
            go_roundw
            case rel => exact ⟨k + 1, by omega, by go_num, cn, f, g, KS, KT, by omega, Lib.hid (fun x hx => ⟨by have := (hks.out x hx).1; omega, (hks.out x hx).2⟩), HS13.out⟩
            case measure => simp [intOf]; omega
      · have HSC2 : Hid (∀ w ve nm, CEnv w (.slice A xm c) ve xm hs xes nm → Calls Tryz.prog 11 #[.slice A xm c, .agg #[.string nm, ve, .int .i64 xco]] w fun e w' => e = .returned (.tuple #[.int .i64 SC, .int .i64 0]) ∧ Below w.heap.size w w') := HSC.out
        clear HSC
        go_wp2_with fail
        generalize w5.alloc (.cells #[.string ⟨#[97, 103, 97, 105, 110]⟩, .slice (some ⟨bl, 0, none⟩) xm cl, .int .i64 xco] 33) = w6 at *
        generalize w5.heap.size = gr at *
        go_at_call 11
        refine (HSC2.out _ _ _ (HCE.out _ HS7.out.bel)).mono ?_
        rintro e w7 ⟨rfl, hb7⟩
        have S8 := HS7.out.ext hb7
        obtain ⟨q0, q1, ⟨u0, u1, u2⟩, ⟨v0, v1, v2⟩, hce⟩ := HFC.out _ _ S8
        have HCR := Lib.hid hce
        have HS8 := Lib.hid S8
        clear S8 hb7 HS7 hce
        go_wp2_with fail
        go_at_call 11
        refine (HSC2.out _ _ _ HCR.out).mono ?_
        rintro e w8 ⟨rfl, hb8⟩
        have S9 := HS8.out.ext hb8
        obtain ⟨q0, q1, ⟨u0, u1, u2⟩, ⟨v0, v1, v2⟩, hce⟩ := HFC.out _ _ S9
        have HS9 := Lib.hid S9
        clear S9 hb8 HS8 HCR hce
        go_wp2_with fail
        go_at_call 12
        refine (HPT.out _ _ _ (HCE.out _ HS9.out.bel)).mono ?_
        rintro e w9 ⟨vx, rfl, Sx⟩
        have S10 := HS9.out.call Sx
        simp only [List.cons_append, List.nil_append] at S10
        obtain ⟨bx_, cx, rfl⟩ := row_some S10 (i := 6) rfl hn36.1
        obtain ⟨q0, q1, ⟨u0, u1, u2⟩, ⟨v0, v1, v2⟩, hce⟩ := HFC.out _ _ S10
        have HCR := Lib.hid hce
        have HS10 := Lib.hid S10
        clear S10 Sx HS9 hce
        go_wp2_with fail
        go_at_call 12
        refine (HPT.out _ _ _ HCR.out).mono ?_
        rintro e w10 ⟨vy, rfl, Sy⟩
        have S11 := HS10.out.call Sy
        simp only [List.cons_append, List.nil_append] at S11
        obtain ⟨by_, cy, rfl⟩ := row_some S11 (i := 7) rfl hn36.1
        have hsi := sameInts_any w10 _ _ _ _ (gl PF xm) (gl PF xm) (by rw [gl_len]; exact S11.row_rd (i := 6) rfl) (by rw [gl_len]; exact S11.row_rd (i := 7) rfl)
        rw [decide_eq_true rfl] at hsi
        have HSI := Lib.hid hsi
        have HS11 := Lib.hid S11
        clear S11 Sy HS10 HCR hsi HPT HSC2 q0 q1 u0 u1 u2 v0 v1 v2
        go_wp2_with fail
        go_at_call 13
        refine HSI.out.mono ?_
        rintro e w11 ⟨rfl, q, hq11⟩
        have S12 := HS11.out.drewN q
        rw [← hq11] at S12
        have S13 := S12.sub (L' := [FA, MI0 b1 cn f KS, MI0 b2 cn g KT, row 3 1 (.slice (some ⟨bx_, 0, none⟩) xm cx) xm (intsI (gl PF xm))]) (.cons_cons _ (.cons_cons _ (.cons_cons _ (.cons _ (.cons _ (.cons _ (.cons_cons _ (.cons _ (List.Sublist.refl _)))))))))
        have HX : Hid (∀ j, j < xm → w11.cell? ⟨bx_, j, none⟩ = some (.int .i64 (PF j))) := fun j hj => by
          have := rd_cellI (S13.row_rd (i := 3) rfl) (gl_at PF hj)
          rwa [Nat.zero_add] at this
        have HS13 := Lib.hid (S13.sub (L' := [FA, MI0 b1 cn f KS, MI0 b2 cn g KT]) (List.sublist_append_left [_, _, _] [_]))
        have HPB : Hid (∀ j, j ≤ xm → 0 ≤ sumTo PF j ∧ sumTo PF j ≤ 10800) := fun j hj => by
          have := sumTo_bd (f := PF) (a := 0) (b := 300) (n := j) (fun i hi => HBD.out i (by omega))
          omega
        have HS1 : Hid (∀ j, sumTo PF (j + 1) = sumTo PF j + PF j) := fun _ => rfl
        have HQ1 : Hid (∀ j, posB PF (j + 1) = (posB PF j && decide (0 < PF j))) := fun _ => rfl
        clear S12 S13 HS11 HSI hq11
        go_wp2_with fail
        go_loopw [135, 21, 22] (fun i s a w' => ∃ j : Nat, j ≤ xm ∧ i = .int .i64 j ∧ s = .int .i64 (sumTo PF j) ∧ a = .bool (posB PF j) ∧ w' = w11) (fun i _ _ _ => xm - (intOf i).toNat)
        case atStart => exact ⟨0, Nat.zero_le _, rfl, rfl, rfl, rfl⟩
        case round =>
          obtain ⟨j, hj, rfl, rfl, rfl, rfl⟩ := hrel
          by_cases hltj : j < xm
          · have d0 := HX.out j hltj
            have hs1 := HS1.out j
            have hq1 := HQ1.out j
            have hb1 := HPB.out j hj
            have hb2 := HBD.out j hltj
            have HSJ := Lib.hid hs1
            generalize hpz : posB PF j = pz at *
            clear hs1 hpz
            generalize sumTo PF j = sj at *
            generalize PF j = pj at *
            cases pz
            · rw [Bool.false_and] at hq1
              have HQJ := Lib.hid hq1
              clear hq1
              go_wp2_with fail
              go_roundw
              case rel => exact ⟨j + 1, by omega, by go_num, by rw [HSJ.out], by rw [HQJ.out], by trivial⟩
              case measure => simp [intOf]; omega
            · rw [Bool.true_and] at hq1
              have HQJ := Lib.hid hq1
              clear hq1
              go_wp2_with fail
              go_roundw
              case rel => exact ⟨j + 1, by omega, by go_num, by rw [HSJ.out], by rw [HQJ.out], by trivial⟩
              case measure => simp [intOf]; omega
          · obtain rfl : xm = j := by omega
            have hps := HPS.out (by trivial)
            have hb1 := HPB.out xm (Nat.le_refl _)
            generalize hpz : posB PF xm = pz at *
            clear hpz
            generalize sumTo PF xm = sp at *
            have hsc := HSB.out
            cases pz
            · clear hps
              go_wp2_with fail
              go_roundw
              case rel => exact ⟨k + 1, by omega, by go_num, cn, f, g, KS, KT, by omega, Lib.hid (fun x hx => ⟨by have := (hks.out x hx).1; omega, (hks.out x hx).2⟩), HS13.out⟩
              case measure => simp [intOf]; omega
            · have HPSS := Lib.hid (hps (by trivial))
              clear hps
              go_wp2_with (first
                | (at_mapUpdate; refine wpList_mapUpdate_k rfl _ _ _ 28 rfl 3 3 Tryz.underlying3 Tryz.underlying28 Tryz.underlying3 HS13.out (i := 1) rfl rfl (by omega) k rfl (by omega) sp rfl (by omega) ?_; intro w12 S14)
                | (at_mapUpdate; refine wpList_mapUpdate_k rfl _ _ _ 28 rfl 3 3 Tryz.underlying3 Tryz.underlying28 Tryz.underlying3 S14 (i := 2) rfl rfl (by omega) k rfl (by omega) SC rfl (by omega) ?_; intro w13 S15))
              simp only [List.set_cons_zero, List.set_cons_succ] at S15
              have HS15 := Lib.hid S15
              clear S14 S15
              go_roundw
              case rel =>
                refine ⟨k + 1, by omega, by go_num, cn + 1, _, _, _, _, by omega, Lib.hid (fun x hx => ?_), HS15.out⟩
                rcases hx with hx | hx
                · have h1 := hks.out x hx
                  rw [if_neg (by omega), if_neg (by omega)]
                  exact ⟨by omega, h1.2⟩
                · subst hx
                  rw [if_pos rfl, if_pos rfl]
                  exact ⟨by omega, HPSS.out⟩
              case measure => simp [intOf]; omega
    · obtain rfl : m = k := by omega
      have hw1 := S.bel
      obtain ⟨F1, hF1, ⟨⟨D1, ho1, hM1, hat1, hk1⟩, hb1⟩⟩ := S.get (i := 1) rfl
      obtain ⟨F2, hF2, ⟨⟨D2, ho2, hM2, hat2, hk2⟩, hb2⟩⟩ := S.get (i := 2) rfl
      have hge1 := hF1 _ hb1
      have hge2 := hF2 _ hb2
      have HKEY : Hid (∀ kl, has D1 kl = true → ∃ x : Nat, kl = .int .i64 x ∧ x < m ∧ f x + g x = CC) := fun kl h => by
        obtain ⟨x, h1, h2⟩ := hk1 kl h
        exact ⟨x, h1, hks.out x h2⟩
      have HA1 := Lib.hid hat1
      have HA2 := Lib.hid hat2
      have HW1 := Lib.hid hw1
      have HO1 := Lib.hid ho1
      have HO2 := Lib.hid ho2
      clear S hks hk1 hk2 hat1 hat2 ho1 ho2 hw1 hF1 hF2 hb1 hb2
      go_wp2_with (at_range; refine wpList_range_own _ rfl _ 28 rfl 3 3 (int_keyed Tryz.underlying3) Tryz.underlying28 _ b1 cn D1 rfl HO1.out ?_; intro w2 hrg hg2 hs2)
      go_frame
      obtain ⟨r1, hr1⟩ : ∃ r, r = wr.heap.size := ⟨_, rfl⟩
      rw [← hr1] at hrg ⊢
      have hb2r : b2 < r1 := by rw [hr1]; exact HO2.out.lt
      have hWr : W.heap.size ≤ r1 := by rw [hr1]; exact HW1.out.size
      have HB2R := Lib.hid (show b2 < r1 ∧ W.heap.size ≤ r1 from ⟨hb2r, hWr⟩)
      have HIN : Hid (∃ (left : Lit → Bool) (cnt : Nat), w2.ranges Tryz.prog 3 (plainElem (H := Unit) Tryz.prog 3) b1 r1 cn D1 left cnt ∧ Hid (∀ kl, left kl = true → has D1 kl = true) ∧ w2.ownsMap Tryz.prog 3 (plainElem (H := Unit) Tryz.prog 3) b2 cn D2 ∧ Below W.heap.size W w2) :=
        ⟨_, _, hrg, Lib.hid (fun kl h => h), HO2.out.kept hg2 (by simp), HW1.out.grown hg2 HW1.out.size (fun k e => by cases e)⟩
      clear hr1 hrg hg2 hs2 HO1 HO2 HW1 hb2r hWr hge1 hge2
      go_loopw [25] (fun _ w' => ∃ (left : Lit → Bool) (cnt : Nat), w'.ranges Tryz.prog 3 (plainElem (H := Unit) Tryz.prog 3) b1 r1 cn D1 left cnt ∧ Hid (∀ kl, left kl = true → has D1 kl = true) ∧ w'.ownsMap Tryz.prog 3 (plainElem (H := Unit) Tryz.prog 3) b2 cn D2 ∧ Below W.heap.size W w') (fun _ w' => w'.rangeLeft b1 r1)
      case atStart => exact HIN.out
      case round =>
        obtain ⟨left, cnt, hrg, hlf, ho2, hbw⟩ := hrel
        clear HIN
        have HO2 := Lib.hid ho2
        have HBW := Lib.hid hbw
        clear ho2 hbw
        go_wp2_with (first
          | (at_next; refine wpList_next_ranges_ii _ rfl _ rfl 3 3 .i64 .i64 (int_keyed Tryz.underlying3) Tryz.underlying3 Tryz.underlying3 b1 r1 cn D1 left cnt rfl hrg ?_ ?_)
          | go_in)
        · intro _ _
          go_wp2_with (go_at_call 7; refine (HLR.out _ HBW.out).mono ?_; rintro e w' ⟨rfl, hb4⟩; have HB4 := Lib.hid hb4; clear hb4)
          go_ret
          exact ⟨rfl, HB4.out⟩
        · intro x cx w3 cnt3 hwx hwc hlx hat3 hrg3 hlt3 hg3 hs3 hen3
          obtain ⟨xn, hxn, hxm, hxf⟩ := HKEY.out _ (hlf.out _ hlx)
          obtain rfl : x = (xn : Int) := by simpa using hxn
          have hr2b := HB2R.out
          have ho3 := HO2.out.kept hg3 (by simp; omega)
          have hbw3 := HBW.out.grown hg3 HBW.out.size (fun k e => by cases e; exact hr2b.2)
          have HLF3 : Hid (∀ kl, (left kl && !kl.sameKey (.int .i64 (xn : Int))) = true → has D1 kl = true) := fun kl h => hlf.out kl (by simp only [Bool.and_eq_true] at h; exact h.1)
          have HLT := Lib.hid hlt3
          have HRG0 := Lib.hid hrg
          have HXF := Lib.hid hxf
          have HO3 := Lib.hid ho3
          have HBW3 := Lib.hid hbw3
          have HRG3 := Lib.hid hrg3
          clear hwx hwc hlx hat3 hlt3 hg3 hs3 hxn hrg hlf HO2 HBW ho3 hbw3 hrg3 hr2b hxf
          go_wp2_with (at_range; refine wpList_range_own _ rfl _ 28 rfl 3 3 (int_keyed Tryz.underlying3) Tryz.underlying28 _ b1 cn D1 rfl HRG3.out.owns ?_; intro w4 hrg4 hg4 hs4)
          go_frame
          obtain ⟨r2, hr2⟩ : ∃ r, r = w3.heap.size := ⟨_, rfl⟩
          rw [← hr2] at hrg4 ⊢
          have HR12 := Lib.hid (show r1 < r2 by rw [hr2]; exact HRG3.out.lt)
          have HIN : Hid (∃ (left2 : Lit → Bool) (cnt2 : Nat), w4.ranges Tryz.prog 3 (plainElem (H := Unit) Tryz.prog 3) b1 r2 cn D1 left2 cnt2 ∧ Hid (∀ kl, left2 kl = true → has D1 kl = true) ∧ w4.ranges Tryz.prog 3 (plainElem (H := Unit) Tryz.prog 3) b1 r1 cn D1 (fun z => left z && !z.sameKey (.int .i64 (xn : Int))) cnt3 ∧ w4.ownsMap Tryz.prog 3 (plainElem (H := Unit) Tryz.prog 3) b2 cn D2 ∧ Below W.heap.size W w4) :=
            ⟨_, _, hrg4, Lib.hid (fun kl h => h), HRG3.out.kept hg4 (by simp) (by simp), HO3.out.kept hg4 (by simp), HBW3.out.grown hg4 HBW3.out.size (fun k e => by cases e)⟩
          clear hr2 hrg4 hg4 hs4 HO3 HRG3 HBW3 hen3
          go_loopw [26] (fun _ w' => ∃ (left2 : Lit → Bool) (cnt2 : Nat), w'.ranges Tryz.prog 3 (plainElem (H := Unit) Tryz.prog 3) b1 r2 cn D1 left2 cnt2 ∧ Hid (∀ kl, left2 kl = true → has D1 kl = true) ∧ w'.ranges Tryz.prog 3 (plainElem (H := Unit) Tryz.prog 3) b1 r1 cn D1 (fun z => left z && !z.sameKey (.int .i64 (xn : Int))) cnt3 ∧ w'.ownsMap Tryz.prog 3 (plainElem (H := Unit) Tryz.prog 3) b2 cn D2 ∧ Below W.heap.size W w') (fun _ w' => w'.rangeLeft b1 r2)
          case atStart => exact HIN.out
          case round =>
            obtain ⟨left2, cnt2, hrg5, hlf5, hro5, ho5, hbw5⟩ := hrel
            clear HIN
            have HRO5 := Lib.hid hro5
            have HO5 := Lib.hid ho5
            have HBW5 := Lib.hid hbw5
            clear hro5 ho5 hbw5
            go_wp2_with (first
              | (at_next; refine wpList_next_ranges_ii _ rfl _ rfl 3 3 .i64 .i64 (int_keyed Tryz.underlying3) Tryz.underlying3 Tryz.underlying3 b1 r2 cn D1 left2 cnt2 rfl hrg5 ?_ ?_)
              | go_in)
            · intro _ _
              go_wp2_with fail
              go_roundw
              case rel => exact ⟨_, cnt3, HRO5.out, HLF3, HO5.out, HBW5.out⟩
              case measure => rw [HRO5.out.left_eq, HRG0.out.left_eq]; exact HLT.out
            · intro y cy w6 cnt6 hwy hwd hly hat6 hrg6 hlt6 hg6 hs6 hen6
              obtain ⟨yn, hyn, hym, hyf⟩ := HKEY.out _ (hlf5.out _ hly)
              obtain rfl : y = (yn : Int) := by simpa using hyn
              have hr2b := HB2R.out
              have hr12 := HR12.out
              have ho6 := HO5.out.kept hg6 (by simp; omega)
              have hbw6 := HBW5.out.grown hg6 HBW5.out.size (fun k e => by cases e; omega)
              have hro6 := HRO5.out.kept hg6 (by have := hrg6.ne; simpa using fun e => this e.symm) (by simp; omega)
              have l1 := lookK hrg6.owns HA1.out xn (by omega)
              have l2 := lookK hrg6.owns HA1.out yn (by omega)
              have l3 := lookK ho6 HA2.out yn (by omega)
              have l4 := lookK ho6 HA2.out xn (by omega)
              have hsub : f xn - f yn = g yn - g xn := by have := HXF.out; omega
              have HLF6 : Hid (∀ kl, (left2 kl && !kl.sameKey (.int .i64 (yn : Int))) = true → has D1 kl = true) := fun kl h => hlf5.out kl (by simp only [Bool.and_eq_true] at h; exact h.1)
              have HRG5 := Lib.hid hrg5
              have HRG6 := Lib.hid hrg6
              have HRO6 := Lib.hid hro6
              have HO6 := Lib.hid ho6
              have HBW6 := Lib.hid hbw6
              have HLT6 := Lib.hid hlt6
              clear hwy hwd hly hat6 hlt6 hg6 hs6 hyn hrg5 hlf5 HO5 HBW5 ho6 hbw6 hrg6 hro6 hr2b hr12 hyf HRO5
              go_wp2_with fail
              go_roundw
              case rel => exact ⟨_, cnt6, HRG6.out, HLF6, HRO6.out, HO6.out, HBW6.out⟩
              case measure => rw [HRG6.out.left_eq, HRG5.out.left_eq]; exact HLT6.out
end Go.Proofs.YtbakoldmfpbnaaaGreatDoor
