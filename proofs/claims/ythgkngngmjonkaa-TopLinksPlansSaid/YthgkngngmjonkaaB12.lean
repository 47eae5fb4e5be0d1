/- Part 12 of the walks of the golf union's program: KS. -/
import Derived.Test.YthgkngngmjonkaaB10
import Derived.Test.YthgkngngmjonkaaB11
set_option linter.unusedVariables false
set_option linter.unusedSimpArgs false
set_option linter.unusedSectionVars false
set_option linter.constructorNameAsVariable false
/- TopLinksPlans: the law, walked. -/
namespace Go.Proofs.Ythgkngngmjonkaa
open Go.RowKit Go.Mem Go.Sheet Go.Plan
theorem eltRule : Elt Try.prog 24 27 (.agg #[.int .i64 0, .int .i64 0, .int .i64 0]) 3 24 := ⟨Try.underlying24, by kernel_rfl, rfl, by decide⟩
def RetLaw (W : World) (e : Ending) (w' : World) : Prop := e = .returned (.bool true) ∧ Below W.heap.size W w'
set_option maxRecDepth 100000 in
set_option maxHeartbeats 4000000 in
theorem law_any (W : World) (vl va vb : Value) (nl n m : Nat) (l : List RI) (a b : List Int) (hl : Rd W (· < W.heap.size) 3 vl nl (l.flatMap RI.cells)) (ha : Rd W (· < W.heap.size) 1 va n (a.map (Value.int .i64))) (hb : Rd W (· < W.heap.size) 1 vb m (b.map (Value.int .i64))) (hsz : nl * 24 ≤ 140737488355328) :
    Calls Try.prog 3 #[vl, va, vb] W (RetLaw W) := by
  have HL := Lib.hid (hl.count (f := RI.cells) (size := 3) (fun _ => rfl) (by decide))
  have HA := Lib.hid ha.count1
  have HB := Lib.hid hb.count1
  have HRL := Lib.hid hl
  have HRA := Lib.hid ha
  have HRB := Lib.hid hb
  have hn63 := ha.le
  have hm63 := hb.le
  have hl63 := hl.le
  obtain ⟨Al, cl, rfl, _, _, _⟩ := hl.open_
  obtain ⟨Aa, ca, rfl, _, _, _⟩ := ha.open_
  obtain ⟨Ab, cb, rfl, _, _, _⟩ := hb.open_
  clear hl ha hb
  have S0 := ((St.refl W).blk_new #[.slice Al nl cl] 22).row_nil 27 3
  simp only [List.nil_append, List.cons_append] at S0
  go_enter Try.func3, Try.ntmps3
  go_wp2
  go_loopw [7, 32] (fun rv i w' => ∃ k : Nat, k ≤ nl ∧ i = .int .i64 k ∧ St W w' [blk W.heap.size 22 #[.slice Al nl cl], row 27 3 rv k ((l.take k).flatMap RI.cells)]) (fun _ i _ => nl - (intOf i).toNat)
  case atStart => exact ⟨0, Nat.zero_le _, rfl, S0⟩
  case round =>
    obtain ⟨k, hk, rfl, S⟩ := hrel
    clear S0
    by_cases hlt : k < nl
    · obtain ⟨bq, o, x, hA, hx, c0, c1, c2⟩ := (HRL.out.below S.bel).elem3 (k := k) (fun s : RI => .int .i64 s.fr) (fun s : RI => .int .i64 s.to) (fun s : RI => .int .i64 s.le) (fun _ => rfl) hlt
      subst hA
      have HX := Lib.hid hx
      clear hx
      have SQ := (S.alloc (.cells #[.int .i64 x.fr, .int .i64 x.to, .int .i64 x.le] 26)).alloc (.cells #[.int .i64 x.fr, .int .i64 x.to, .int .i64 x.le] 27)
      have HQ : Rd ((wr.alloc (.cells #[.int .i64 x.fr, .int .i64 x.to, .int .i64 x.le] 26)).alloc (.cells #[.int .i64 x.fr, .int .i64 x.to, .int .i64 x.le] 27)) (fun _ => True) 3 (.slice (some ⟨wr.heap.size + 1, 0, none⟩) 1 1) 1 x.cells := by
        have := rd_new (wr.alloc (.cells #[.int .i64 x.fr, .int .i64 x.to, .int .i64 x.le] 26)) (size := 3) (m := 1) #[.int .i64 x.fr, .int .i64 x.to, .int .i64 x.le] 27 rfl (by omega) (fun _ => True) trivial
        rw [World.size_alloc] at this
        exact this
      go_wp2_with (at_builtin; refine wpList_append_st eltRule rfl _ _ rfl rfl SQ (k := 1) rfl rfl HQ (by simp [RI.cells, Value.oneCell']) (by omega) (by omega) ?_; intro v' w5 S5 _)
      have HS5 : Hid (St W w5 [blk W.heap.size 22 #[.slice (some ⟨bq, o, none⟩) nl cl], row 27 3 v' (k + 1) ((l.take (k + 1)).flatMap RI.cells)]) := by
        show St _ _ _
        rw [take_at HX.out, List.flatMap_append, List.flatMap_cons, List.flatMap_nil, List.append_nil]
        exact S5
      clear S5 SQ HQ S c0 c1 c2
      go_roundw
      case rel => exact ⟨k + 1, by omega, by go_num, HS5.out⟩
      case measure => simp [intOf]; omega
    · obtain rfl : nl = k := by omega
      rw [List.take_of_length_le (Nat.le_of_eq HL.out.symm)] at S
      have HS := Lib.hid S
      have d0 := S.blk_cell (i := 0) rfl 0
      have HBW := Lib.hid S.bel
      obtain ⟨Ar, cr, rfl, _, _, _⟩ := (S.row_rd (i := 1) rfl).open_
      have HRR : Hid (Rd wr (· < wr.heap.size) 3 (.slice Ar nl cr) nl (l.flatMap RI.cells)) := (S.row_rd (i := 1) rfl).now
      clear S hlt hk
      by_cases h1 : n = m
      case neg =>
        have t1 : ((n : Int) != (m : Int)) = true := by simp; omega
        go_wp2_with (go_at_call 5; refine (green_any _).mono ?_; rintro e w' ⟨rfl, hbg⟩)
        go_ret
        exact ⟨rfl, HBW.out.trans (hbg.mono HBW.out.size)⟩
      obtain rfl : n = m := h1
      by_cases h6 : 6 < n
      · have t1 : decide (6 < (n : Int)) = true := by simp; omega
        have t1' : decide (6 < n) = true := by simp; omega
        go_wp2_with (go_at_call 5; refine (green_any _).mono ?_; rintro e w' ⟨rfl, hbg⟩)
        go_ret
        exact ⟨rfl, HBW.out.trans (hbg.mono HBW.out.size)⟩
      by_cases h30 : 30 < nl
      · have t1 : decide (6 < (n : Int)) = false := by simp; omega
        have t1' : decide (6 < n) = false := by simp; omega
        have t2 : decide (30 < (nl : Int)) = true := by simp; omega
        have t2' : decide (30 < nl) = true := by simp; omega
        go_wp2_with (go_at_call 5; refine (green_any _).mono ?_; rintro e w' ⟨rfl, hbg⟩)
        go_ret
        exact ⟨rfl, HBW.out.trans (hbg.mono HBW.out.size)⟩
      have t1 : decide (6 < (n : Int)) = false := by simp; omega
      have t1' : decide (6 < n) = false := by simp; omega
      have t2 : decide (30 < (nl : Int)) = false := by simp; omega
      have t2' : decide (30 < nl) = false := by simp; omega
      have HCK := Lib.hid (refCheckRules_any wr n _ _ l HRR.out)
      by_cases hE : rulesE n l = 0
      case neg =>
        have hE' : (rulesE n l != 0) = true := by simpa using hE
        generalize rulesE n l = E at *
        clear hE
        go_wp2_with fail
        refine HCK.out.mono ?_
        rintro e w5 ⟨rfl, q5, rfl⟩
        have HBW5 := Lib.hid ((HS.out.drewN q5).bel)
        clear HBW
        have HBW := HBW5
        go_wp2_with (go_at_call 5; refine (green_any _).mono ?_; rintro e w' ⟨rfl, hbg⟩)
        go_ret
        exact ⟨rfl, HBW.out.trans (hbg.mono HBW.out.size)⟩
      have hok := rules_ok hE
      have hcells := rules_cells hE
      have HIN := Lib.hid (rules_in hE)
      have HLE := Lib.hid (rules_le hE)
      have HEAR : Hid (∀ w, Below W.heap.size W w → _) := fun w (hbw : Below W.heap.size W w) => earliest_any w n _ _ l hE (HRL.out.later hbw)
      have HFIT : Hid (∀ (w : World) (v : Value) (q : List Int), Below W.heap.size W w → w.cell? ⟨W.heap.size, 0, none⟩ = some (.slice Al nl cl) → Rd w (· < w.heap.size) 1 v n (q.map (Value.int .i64)) → Calls Try.prog 7 #[v, .pointer (some ⟨W.heap.size, 0, none⟩)] w fun e w' => e = .returned (.bool (fitF (l.map RI.rl) q)) ∧ Below w.heap.size w w') := fun w v q hbw hcell hv => by
        have hr := HRL.out.later hbw
        rw [hcells] at hr
        exact fits_any w n _ v nl W.heap.size (l.map RI.rl) q hcell (World.block_lt_of_cell? w _ hcell) HIN.out HLE.out hr hv
      have hn1 := hok.1.1
      rw [hE] at HCK
      clear hok hcells hE
      generalize l.map RI.rl = L at *
      go_wp2_with fail
      refine HCK.out.mono ?_
      rintro e w5 ⟨rfl, q5, rfl⟩
      have HS5 := Lib.hid ((HS.out.drewN q5).sub (L' := [_]) (List.sublist_append_left [_] [_]))
      generalize wr.drewN q5 = w5 at *
      clear HCK HS HBW HRR d0
      have d0 := HS5.out.blk_cell (i := 0) rfl 0
      go_wp2_with fail
      refine (HEAR.out _ HS5.out.bel).mono ?_
      rintro e w6 (⟨g, D, rfl, hD, hDb, S6⟩ | ⟨x, rfl, hinf, hb6⟩)
      case inr =>
        have ha0 := fit_none HA.out.symm hinf
        have hb0 := fit_none HB.out.symm hinf
        have HS6 := Lib.hid (HS5.out.ext hb6)
        have HF1 := Lib.hid (HFIT.out w6 _ a HS6.out.bel (HS6.out.blk_cell (i := 0) rfl 0) (HRA.out.later HS6.out.bel))
        rw [ha0] at HF1
        clear d0 hb6 HS5
        go_wp2_with fail
        refine HF1.out.mono ?_
        rintro e w7 ⟨rfl, hb7⟩
        have HS7 := Lib.hid (HS6.out.ext hb7)
        have HF2 := Lib.hid (HFIT.out w7 _ b HS7.out.bel (HS7.out.blk_cell (i := 0) rfl 0) (HRB.out.later HS7.out.bel))
        rw [hb0] at HF2
        clear hb7 HS6 HF1
        go_wp2_with fail
        refine HF2.out.mono ?_
        rintro e w8 ⟨rfl, hb8⟩
        have HBW := Lib.hid (HS7.out.ext hb8).bel
        clear hb8 HS7 HF2
        go_wp2_with (go_at_call 5; refine (green_any _).mono ?_; rintro e w' ⟨rfl, hbg⟩)
        go_ret
        exact ⟨rfl, HBW.out.trans (hbg.mono HBW.out.size)⟩
      have HD := Lib.hid hD
      have HS6 := Lib.hid (HS5.out.call S6)
      have hfd := fit_days (by omega) HIN.out (fun r hr => (HLE.out r hr).2) hD
      have hDV := dayL_V n D
      rw [hDV] at S6
      have hrd6 : Rd w6 (· < w6.heap.size) 1 (.slice (some ⟨g, 0, none⟩) n n) n ((dayL n D).map (Value.int .i64)) := (S6.row_rd (i := 0) rfl).now
      have HF1 := Lib.hid (HFIT.out w6 _ (dayL n D) HS6.out.bel (HS6.out.blk_cell (i := 0) rfl 0) hrd6)
      rw [hfd] at HF1
      have HS6b : Hid (St W w6 [blk W.heap.size 22 #[.slice Al nl cl], row 3 1 (.slice (some ⟨g, 0, none⟩) n n) n ((dayL n D).map (Value.int .i64))]) := by
        show St _ _ _
        rw [← hDV]; exact HS6.out
      clear hD hrd6 hfd hDV S6 HS5 HS6 d0 HEAR
      go_wp2_with fail
      refine HF1.out.mono ?_
      rintro e w7 ⟨rfl, hb7⟩
      have S7 := (HS6b.out.ext hb7)
      have HS7 := Lib.hid (((S7.row_nil 3 1).row_nil 3 1).row_nil 3 1)
      clear hb7 HF1 HS6b S7
      go_wp2_with fail
      have hn6 : n ≤ 6 := by omega
      go_loopw [13, 14, 15, 106] (fun v1 v2 v3 i w' => ∃ k : Nat, k ≤ n ∧ i = .int .i64 k ∧ St W w' [blk W.heap.size 22 #[.slice Al nl cl], row 3 1 (.slice (some ⟨g, 0, none⟩) n n) n ((dayL n D).map (Value.int .i64)), row 3 1 v1 k (intsI (zipF min a b k)), row 3 1 v2 k (intsI (zipF max a b k)), row 3 1 v3 k (intsI (zipF (fun x _ => x + 7) (dayL n D) [] k))]) (fun _ _ _ i _ => n - (intOf i).toNat)
      case atStart => exact ⟨0, Nat.zero_le _, rfl, HS7.out⟩
      case round =>
        obtain ⟨k, hk, rfl, S⟩ := hrel
        clear HS7
        obtain ⟨A1, c1, rfl, _, _, _⟩ := (S.row_rd (i := 2) rfl).open_
        obtain ⟨A2, c2, rfl, _, _, _⟩ := (S.row_rd (i := 3) rfl).open_
        obtain ⟨A3, c3, rfl, _, _, _⟩ := (S.row_rd (i := 4) rfl).open_
        by_cases hlt : k < n
        · obtain ⟨ba, oa, xa, hAa, hxa, ca0⟩ := (HRA.out.below S.bel).int hlt
          obtain ⟨bb, ob, xb, hAb, hxb, cb0⟩ := (HRB.out.below S.bel).int hlt
          subst hAa
          subst hAb
          have hba : ba < W.heap.size := by
            obtain ⟨_, _, hg, hS, _⟩ := HRA.out.addr (by omega)
            cases hg; exact hS
          have hbb : bb < W.heap.size := by
            obtain ⟨_, _, hg, hS, _⟩ := HRB.out.addr (by omega)
            cases hg; exact hS
          have HCA : Hid (∀ w, Below W.heap.size W w → w.cell? ⟨ba, oa + k, none⟩ = some (.int .i64 xa)) := fun w hb => by
            have h1 := S.bel.cell (p := ⟨ba, oa + k, none⟩) hba
            exact (hb.cell (p := ⟨ba, oa + k, none⟩) hba).trans (h1.symm.trans ca0)
          have HCB : Hid (∀ w, Below W.heap.size W w → w.cell? ⟨bb, ob + k, none⟩ = some (.int .i64 xb)) := fun w hb => by
            have h1 := S.bel.cell (p := ⟨bb, ob + k, none⟩) hbb
            exact (hb.cell (p := ⟨bb, ob + k, none⟩) hbb).trans (h1.symm.trans cb0)
          have hgA : a.getD k 0 = xa := by rw [List.getD_eq_getElem?_getD, hxa]; rfl
          have hgB : b.getD k 0 = xb := by rw [List.getD_eq_getElem?_getD, hxb]; rfl
          have hz6 := least_le6 hn6 HIN.out (fun r hr => (HLE.out r hr).2) HD.out hlt
          have HFL1 : Hid (fitF L a = true → D k ≤ xa) := fun h => by rw [← hgA]; exact fit_least HA.out.symm HD.out h hlt
          have HFL2 : Hid (fitF L b = true → D k ≤ xb) := fun h => by rw [← hgB]; exact fit_least HB.out.symm HD.out h hlt
          have hE1 := zipF_succ min a b k
          have hE2 := zipF_succ max a b k
          have hE3 := zipF_succ (fun x _ => x + 7) (dayL n D) [] k
          rw [hgA, hgB] at hE1 hE2
          rw [dayL_at hlt] at hE3
          have HE1 := Lib.hid hE1
          have HE2 := Lib.hid hE2
          have HE3 := Lib.hid hE3
          have HDC : Hid (∀ w (L' : List Asr) (i : Nat), St W w L' → L'[i]? = some (row 3 1 (.slice (some ⟨g, 0, none⟩) n n) n ((dayL n D).map (Value.int .i64))) → w.cell? ⟨g, k, none⟩ = some (.int .i64 (D k))) := fun w L' i h hi => by
            obtain ⟨g', cap', hv', _, _, _, hcell, _⟩ := h.row_form hi (by omega)
            cases hv'
            rw [hcell k (by omega), List.getElem?_map, dayL, List.getElem?_map, List.getElem?_range hlt]; rfl
          clear hE1 hE2 hE3 hxa hxb ca0 cb0 hgA hgB hDb
          generalize hzz : D k = z at *
          generalize zipF min a b k = e1 at *
          generalize zipF max a b k = e2 at *
          generalize zipF (fun x _ => x + 7) (dayL n D) [] k = e3 at *
          clear hzz
          have HS := Lib.hid S
          clear S
          go_wp2_with fail
          refine wp_head_tail3 0 32 6 [] [0, 1, 2, 3, 4, 5, 6, 7, 8, 9, 12, 13, 14, 15, 16, 17, 18, 19, 20, 21, 24, 25, 26, 27, 28, 29] rfl (fun w' : World => w'.cell? ⟨ba, oa + k, none⟩ = some (.int .i64 xa) ∧ w'.cell? ⟨bb, ob + k, none⟩ = some (.int .i64 xb) ∧ w'.cell? ⟨g, k, none⟩ = some (.int .i64 z))
            (fun a a' w' => ∃ (gg : Nat → Nat) (v : Nat → Value), St W w' (rows1 3 [⟨.int .i64 (min xa xb), .slice A1 k c1, k, intsI e1⟩, ⟨.int .i64 (max xa xb), .slice A2 k c2, k, intsI e2⟩, ⟨.int .i64 (z + 7), .slice A3 k c3, k, intsI e3⟩] v ++ [blk W.heap.size 22 #[.slice Al nl cl], row 3 1 (.slice (some ⟨g, 0, none⟩) n n) n ((dayL n D).map (Value.int .i64))]) ∧ a' = putAll gg v 0 [⟨10, 11, 118, 119, 109, 120⟩, ⟨22, 23, 130, 131, 121, 132⟩, ⟨30, 31, 138, 139, 133, 140⟩] a)
            (by kernel_rfl) (by kernel_rfl) ⟨HCA.out _ HS.out.drew.bel, HCB.out _ HS.out.drew.bel, HDC.out _ _ 1 HS.out.drew rfl⟩ ?_
          simp only [pick, List.filterMap_cons, List.filterMap_nil, List.getElem?_toArray, List.getElem?_cons_succ, List.getElem?_cons_zero]
          have SD := Lib.hid HS.out.drew
          generalize hK : (fun w' : World => w'.cell? ⟨ba, oa + k, none⟩ = some (.int .i64 xa) ∧ w'.cell? ⟨bb, ob + k, none⟩ = some (.int .i64 xb) ∧ w'.cell? ⟨g, k, none⟩ = some (.int .i64 z)) = K
          have k0 : ∀ y : Wd K, y.w.cell? ⟨ba, oa + k, none⟩ = some (.int .i64 xa) := by subst hK; exact fun y => y.h.1
          have k1 : ∀ y : Wd K, y.w.cell? ⟨bb, ob + k, none⟩ = some (.int .i64 xb) := by subst hK; exact fun y => y.h.2.1
          have k2 : ∀ y : Wd K, y.w.cell? ⟨g, k, none⟩ = some (.int .i64 z) := by subst hK; exact fun y => y.h.2.2
          have hKd : ∀ (w' : World) (R : List Asr), St W w' (R ++ [blk W.heap.size 22 #[.slice Al nl cl], row 3 1 (.slice (some ⟨g, 0, none⟩) n n) n ((dayL n D).map (Value.int .i64))]) → K w' := by
            intro w' R h
            subst hK
            have h' := h.sub (List.sublist_append_right R [blk W.heap.size 22 #[.slice Al nl cl], row 3 1 (.slice (some ⟨g, 0, none⟩) n n) n ((dayL n D).map (Value.int .i64))])
            exact ⟨HCA.out _ h.bel, HCB.out _ h.bel, HDC.out _ _ 1 h' rfl⟩
          have hne : Nonempty (Wd K) := ⟨⟨wr.drew, by subst hK; exact ⟨HCA.out _ SD.out.bel, HCB.out _ SD.out.bel, HDC.out _ _ 1 SD.out rfl⟩⟩⟩
          clear hK HS
          generalize wr.drew = w3 at *
          refine wpQuiet_nil ?_
          change wpQuiet _ _ _ _ (_ :: _ :: _ :: _ :: _ :: _ :: _ :: _ :: _ :: _ :: _ :: _ :: _ :: _ :: _ :: _ :: _ :: _ :: _ :: _ :: _ :: _ :: _ :: _ :: _ :: _ :: []) _
          repeat (go_big_quiet_step ((fail)))
          refine wpQuiet_nil ?_
          have S3 : St W w3 (rows0 3 [⟨.int .i64 (min xa xb), .slice A1 k c1, k, intsI e1⟩, ⟨.int .i64 (max xa xb), .slice A2 k c2, k, intsI e2⟩, ⟨.int .i64 (z + 7), .slice A3 k c3, k, intsI e3⟩] ++ [blk W.heap.size 22 #[.slice Al nl cl], row 3 1 (.slice (some ⟨g, 0, none⟩) n n) n ((dayL n D).map (Value.int .i64))]) := SD.out.perm (List.perm_append_comm (l₁ := [_, _]) (l₂ := [_, _, _]))
          clear SD k0 k1 k2 hne
          refine ⟨headW_appends (chs := [⟨10, 11, 118, 119, 109, 120⟩, ⟨22, 23, 130, 131, 121, 132⟩, ⟨30, 31, 138, 139, 133, 140⟩]) (D := [⟨.int .i64 (min xa xb), .slice A1 k c1, k, intsI e1⟩, ⟨.int .i64 (max xa xb), .slice A2 k c2, k, intsI e2⟩, ⟨.int .i64 (z + 7), .slice A3 k c3, k, intsI e3⟩]) (L0 := [blk W.heap.size 22 #[.slice Al nl cl], row 3 1 (.slice (some ⟨g, 0, none⟩) n n) n ((dayL n D).map (Value.int .i64))]) eltI rfl (by kernel_rfl) ?_ ?_ ?_ (fun w' R h => hKd w' R h) S3, ?_⟩
          · exact List.forall_mem_cons.2 ⟨⟨⟨_, rfl, rfl, rfl, rfl⟩, ⟨_, rfl, rfl, rfl, rfl⟩⟩, List.forall_mem_cons.2 ⟨⟨⟨_, rfl, rfl, rfl, rfl⟩, ⟨_, rfl, rfl, rfl, rfl⟩⟩, List.forall_mem_cons.2 ⟨⟨⟨_, rfl, rfl, rfl, rfl⟩, ⟨_, rfl, rfl, rfl, rfl⟩⟩, List.forall_mem_nil _⟩⟩⟩
          · intro q hq
            have hq' : q < 310 := (show ∀ q ∈ [119, 120, 131, 132, 139, 140], q < 310 by decide) q hq
            exact hq'
          · intro j c d hc hd
            match j with
            | 0 => cases hc; cases hd; exact ⟨rfl, rfl, rfl, by dsimp only; omega, by dsimp only; omega⟩
            | 1 => cases hc; cases hd; exact ⟨rfl, rfl, rfl, by dsimp only; omega, by dsimp only; omega⟩
            | 2 => cases hc; cases hd; exact ⟨rfl, rfl, rfl, by dsimp only; omega, by dsimp only; omega⟩
            | n + 3 => simp at hc
          · rintro a' w9 ⟨gg, v, S9', rfl⟩
            have S9 : St W w9 [row 3 1 (v 0) (k + 1) (intsI e1 ++ [.int .i64 (min xa xb)]), row 3 1 (v 1) (k + 1) (intsI e2 ++ [.int .i64 (max xa xb)]), row 3 1 (v 2) (k + 1) (intsI e3 ++ [.int .i64 (z + 7)]), blk W.heap.size 22 #[.slice Al nl cl], row 3 1 (.slice (some ⟨g, 0, none⟩) n n) n ((dayL n D).map (Value.int .i64))] := S9'
            clear S9' S3 hKd
            simp only [putAll, sl1, Nat.zero_add, Nat.reduceAdd]
            generalize v 0 = v1 at *
            generalize v 1 = v2 at *
            generalize v 2 = v3 at *
            generalize gg 0 = g1 at *
            generalize gg 1 = g2 at *
            generalize gg 2 = g3 at *
            obtain ⟨B1, d1, rfl, _, _, _⟩ := (S9.row_rd (i := 0) rfl).open_
            obtain ⟨B2, d2, rfl, _, _, _⟩ := (S9.row_rd (i := 1) rfl).open_
            obtain ⟨B3, d3, rfl, _, _, _⟩ := (S9.row_rd (i := 2) rfl).open_
            have HS9 : Hid (St W w9 [blk W.heap.size 22 #[.slice Al nl cl], row 3 1 (.slice (some ⟨g, 0, none⟩) n n) n ((dayL n D).map (Value.int .i64)), row 3 1 (.slice B1 (k + 1) d1) (k + 1) (intsI (zipF min a b (k + 1))), row 3 1 (.slice B2 (k + 1) d2) (k + 1) (intsI (zipF max a b (k + 1))), row 3 1 (.slice B3 (k + 1) d3) (k + 1) (intsI (zipF (fun x _ => x + 7) (dayL n D) [] (k + 1)))]) := by
              show St _ _ _
              rw [HE1.out, HE2.out, HE3.out]
              have := S9.perm (List.perm_append_comm (l₁ := [_, _, _]) (l₂ := [_, _]))
              simpa only [intsI, List.map_append, List.map_cons, List.map_nil, List.cons_append, List.nil_append] using this
            clear S9
            simp only [List.drop_succ_cons, List.drop_zero]
            go_wp2_with fail
            refine NoPanic.normal ?_
            go_wp2_with fail
            have HFA : Hid (∀ w, St W w ([blk W.heap.size 22 #[.slice Al nl cl], row 3 1 (.slice (some ⟨g, 0, none⟩) n n) n ((dayL n D).map (Value.int .i64)), row 3 1 (.slice B1 (k + 1) d1) (k + 1) (intsI (zipF min a b (k + 1))), row 3 1 (.slice B2 (k + 1) d2) (k + 1) (intsI (zipF max a b (k + 1))), row 3 1 (.slice B3 (k + 1) d3) (k + 1) (intsI (zipF (fun x _ => x + 7) (dayL n D) [] (k + 1)))]) → Calls Try.prog 7 #[.slice (some ⟨ba, oa, none⟩) n ca, .pointer (some ⟨W.heap.size, 0, none⟩)] w fun e w' => e = .returned (.bool (fitF L a)) ∧ Below w.heap.size w w') := fun w h => HFIT.out w _ a h.bel (h.blk_cell (i := 0) rfl 0) (HRA.out.later h.bel)
            have HFB : Hid (∀ w, St W w ([blk W.heap.size 22 #[.slice Al nl cl], row 3 1 (.slice (some ⟨g, 0, none⟩) n n) n ((dayL n D).map (Value.int .i64)), row 3 1 (.slice B1 (k + 1) d1) (k + 1) (intsI (zipF min a b (k + 1))), row 3 1 (.slice B2 (k + 1) d2) (k + 1) (intsI (zipF max a b (k + 1))), row 3 1 (.slice B3 (k + 1) d3) (k + 1) (intsI (zipF (fun x _ => x + 7) (dayL n D) [] (k + 1)))]) → Calls Try.prog 7 #[.slice (some ⟨bb, ob, none⟩) n cb, .pointer (some ⟨W.heap.size, 0, none⟩)] w fun e w' => e = .returned (.bool (fitF L b)) ∧ Below w.heap.size w w') := fun w h => HFIT.out w _ b h.bel (h.blk_cell (i := 0) rfl 0) (HRB.out.later h.bel)
            refine wp_cls 29 (fun w' => St W w' ([blk W.heap.size 22 #[.slice Al nl cl], row 3 1 (.slice (some ⟨g, 0, none⟩) n n) n ((dayL n D).map (Value.int .i64)), row 3 1 (.slice B1 (k + 1) d1) (k + 1) (intsI (zipF min a b (k + 1))), row 3 1 (.slice B2 (k + 1) d2) (k + 1) (intsI (zipF max a b (k + 1))), row 3 1 (.slice B3 (k + 1) d3) (k + 1) (intsI (zipF (fun x _ => x + 7) (dayL n D) [] (k + 1)))])) (by kernel_rfl) (by kernel_rfl) HS9.out.drew ?_
            simp only [List.take_succ_cons, List.take_zero, List.drop_succ_cons, List.drop_zero]
            generalize hK : (fun w' => St W w' ([blk W.heap.size 22 #[.slice Al nl cl], row 3 1 (.slice (some ⟨g, 0, none⟩) n n) n ((dayL n D).map (Value.int .i64)), row 3 1 (.slice B1 (k + 1) d1) (k + 1) (intsI (zipF min a b (k + 1))), row 3 1 (.slice B2 (k + 1) d2) (k + 1) (intsI (zipF max a b (k + 1))), row 3 1 (.slice B3 (k + 1) d3) (k + 1) (intsI (zipF (fun x _ => x + 7) (dayL n D) [] (k + 1)))])) = K
            intro hne
            have kb : ∀ y : Wd K, St W y.w ([blk W.heap.size 22 #[.slice Al nl cl], row 3 1 (.slice (some ⟨g, 0, none⟩) n n) n ((dayL n D).map (Value.int .i64)), row 3 1 (.slice B1 (k + 1) d1) (k + 1) (intsI (zipF min a b (k + 1))), row 3 1 (.slice B2 (k + 1) d2) (k + 1) (intsI (zipF max a b (k + 1))), row 3 1 (.slice B3 (k + 1) d3) (k + 1) (intsI (zipF (fun x _ => x + 7) (dayL n D) [] (k + 1)))]) := by subst hK; exact fun y => y.h
            have hK3 : ∀ w w', K w → Below w.heap.size w w' → K w' := by subst hK; exact fun w w' h hb => h.ext hb
            have k0 : ∀ y : Wd K, y.w.cell? ⟨ba, oa + k, none⟩ = some (.int .i64 xa) := fun y => HCA.out _ (kb y).bel
            have k1 : ∀ y : Wd K, y.w.cell? ⟨bb, ob + k, none⟩ = some (.int .i64 xb) := fun y => HCB.out _ (kb y).bel
            have k2 : ∀ y : Wd K, y.w.cell? ⟨g, k, none⟩ = some (.int .i64 z) := fun y => HDC.out _ _ 1 (kb y) rfl
            have HCFA : Hid (∀ y : Wd K, Calls Try.prog 7 #[.slice (some ⟨ba, oa, none⟩) n ca, .pointer (some ⟨W.heap.size, 0, none⟩)] y.w fun e w' => e = .returned (.bool (fitF L a)) ∧ Below y.w.heap.size y.w w') := fun y => HFA.out _ (kb y)
            have HCFB : Hid (∀ y : Wd K, Calls Try.prog 7 #[.slice (some ⟨bb, ob, none⟩) n cb, .pointer (some ⟨W.heap.size, 0, none⟩)] y.w fun e w' => e = .returned (.bool (fitF L b)) ∧ Below y.w.heap.size y.w w') := fun y => HFB.out _ (kb y)
            clear hK HFA HFB HS9 HE1 HE2 HE3
            generalize fitF L a = fa at *
            generalize fitF L b = fb at *
            cases fa <;> cases fb
            · iterate 2 (go_big_quiet_step ((fail)))
              go_big_quiet_step ((go_at_call 7; exact cls_below hK3 (HCFA.out _)))
              iterate 1 (go_big_quiet_step ((fail)))
              iterate 9 (go_big_quiet_step ((fail)))
              iterate 2 (go_big_quiet_step ((fail)))
              iterate 2 (go_big_quiet_step ((fail)))
              go_big_quiet_step ((go_at_call 7; exact cls_below hK3 (HCFB.out _)))
              iterate 1 (go_big_quiet_step ((fail)))
              iterate 9 (go_big_quiet_step ((fail)))
              iterate 1 (go_big_quiet_step ((fail)))
              refine wpQuiet_nil ?_
              intro y
              have hy := kb y
              clear k0 k1 k2 kb HCFA HCFB hne
              generalize y.w = w10 at *
              have HY := Lib.hid hy
              clear hy
              go_wp2_with fail
              go_roundw
              case rel => exact ⟨k + 1, by omega, by go_num, HY.out⟩
              case measure => simp [intOf]; omega
            · have n2 : decide (xb < z) = false := by have := HFL2.out rfl; simp; omega
              iterate 2 (go_big_quiet_step ((fail)))
              go_big_quiet_step ((go_at_call 7; exact cls_below hK3 (HCFA.out _)))
              iterate 1 (go_big_quiet_step ((fail)))
              iterate 9 (go_big_quiet_step ((fail)))
              iterate 2 (go_big_quiet_step ((fail)))
              iterate 2 (go_big_quiet_step ((fail)))
              go_big_quiet_step ((go_at_call 7; exact cls_below hK3 (HCFB.out _)))
              iterate 1 (go_big_quiet_step ((fail)))
              iterate 9 (go_big_quiet_step ((fail)))
              iterate 1 (go_big_quiet_step ((fail)))
              refine wpQuiet_nil ?_
              intro y
              have hy := kb y
              clear k0 k1 k2 kb HCFA HCFB hne
              generalize y.w = w10 at *
              have HY := Lib.hid hy
              clear hy
              go_wp2_with fail
              go_roundw
              case rel => exact ⟨k + 1, by omega, by go_num, HY.out⟩
              case measure => simp [intOf]; omega
            · have n1 : decide (xa < z) = false := by have := HFL1.out rfl; simp; omega
              iterate 2 (go_big_quiet_step ((fail)))
              go_big_quiet_step ((go_at_call 7; exact cls_below hK3 (HCFA.out _)))
              iterate 1 (go_big_quiet_step ((fail)))
              iterate 9 (go_big_quiet_step ((fail)))
              iterate 2 (go_big_quiet_step ((fail)))
              iterate 2 (go_big_quiet_step ((fail)))
              go_big_quiet_step ((go_at_call 7; exact cls_below hK3 (HCFB.out _)))
              iterate 1 (go_big_quiet_step ((fail)))
              iterate 9 (go_big_quiet_step ((fail)))
              iterate 1 (go_big_quiet_step ((fail)))
              refine wpQuiet_nil ?_
              intro y
              have hy := kb y
              clear k0 k1 k2 kb HCFA HCFB hne
              generalize y.w = w10 at *
              have HY := Lib.hid hy
              clear hy
              go_wp2_with fail
              go_roundw
              case rel => exact ⟨k + 1, by omega, by go_num, HY.out⟩
              case measure => simp [intOf]; omega
            · have n1 : decide (xa < z) = false := by have := HFL1.out rfl; simp; omega
              have n2 : decide (xb < z) = false := by have := HFL2.out rfl; simp; omega
              iterate 2 (go_big_quiet_step ((fail)))
              go_big_quiet_step ((go_at_call 7; exact cls_below hK3 (HCFA.out _)))
              iterate 1 (go_big_quiet_step ((fail)))
              iterate 9 (go_big_quiet_step ((fail)))
              iterate 2 (go_big_quiet_step ((fail)))
              iterate 2 (go_big_quiet_step ((fail)))
              go_big_quiet_step ((go_at_call 7; exact cls_below hK3 (HCFB.out _)))
              iterate 1 (go_big_quiet_step ((fail)))
              iterate 9 (go_big_quiet_step ((fail)))
              iterate 1 (go_big_quiet_step ((fail)))
              refine wpQuiet_nil ?_
              intro y
              have hy := kb y
              clear k0 k1 k2 kb HCFA HCFB hne
              generalize y.w = w10 at *
              have HY := Lib.hid hy
              clear hy
              go_wp2_with fail
              go_roundw
              case rel => exact ⟨k + 1, by omega, by go_num, HY.out⟩
              case measure => simp [intOf]; omega
        · obtain rfl : n = k := by omega
          have hda : decide ((n : Int) < n) = false := by simp
          have HT20 : Hid (St W wr [blk W.heap.size 22 #[.slice Al nl cl], row 3 1 (.slice (some ⟨g, 0, none⟩) n n) n ((dayL n D).map (Value.int .i64)), row 3 1 (.slice A1 n c1) n (intsI (zipF min a b n)), row 3 1 (.slice A2 n c2) n (intsI (zipF max a b n)), row 3 1 (.slice A3 n c3) n (intsI (zipF (fun x _ => x + 7) (dayL n D) [] n))]) := S
          have HFMV := Lib.hid (fit_moved hn6 HIN.out (fun r hr => (HLE.out r hr).2) HD.out)
          have HFEV0 : Hid (fitF L a = true → fitF L b = true → fitF L (zipF min a b n) = true) := fun h1 h2 => fit_early HA.out.symm HB.out.symm HIN.out h1 h2
          have HFLV0 : Hid (fitF L a = true → fitF L b = true → fitF L (zipF max a b n) = true) := fun h1 h2 => fit_late HA.out.symm HB.out.symm HIN.out h1 h2
          clear S
          generalize wr = w20 at *
          obtain ⟨fa, hfa⟩ : ∃ x, fitF L a = x := ⟨_, rfl⟩
          obtain ⟨fb, hfb⟩ : ∃ x, fitF L b = x := ⟨_, rfl⟩
          have HFAV := Lib.hid hfa
          have HFBV := Lib.hid hfb
          clear hfa hfb
          cases fa
          · have HFEV : Hid True := trivial
            have HFLV : Hid True := trivial
            have SS := HT20.out
            have HG := Lib.hid (HFIT.out w20 _ a SS.bel (SS.blk_cell (i := 0) rfl 0) (HRA.out.later SS.bel))
            rw [HFAV.out] at HG
            clear SS
            go_wp2_with fail
            refine HG.out.mono ?_
            rintro e w21 ⟨rfl, hbk⟩
            have HT21 := Lib.hid (HT20.out.ext hbk)
            clear hbk HG HT20
            have SS := HT21.out
            have HG := Lib.hid (HFIT.out w21 _ (zipF (fun x _ => x + 7) (dayL n D) [] n) SS.bel (SS.blk_cell (i := 0) rfl 0) ((SS.row_rd (i := 4) rfl).now))
            rw [HFMV.out] at HG
            clear SS
            go_wp2_with fail
            refine HG.out.mono ?_
            rintro e w22 ⟨rfl, hbk⟩
            have HT22 := Lib.hid (HT21.out.ext hbk)
            clear hbk HG HT21
            have HSD := Lib.hid (HT22.out.sub (L' := [_, _]) (List.sublist_append_left [_, _] [_, _, _]))
            generalize w22 = wD at *
            clear HT22 HFAV HFBV HFEV HFLV HFMV HFIT
            go_wp2_with fail
            have S21 := HSD.out.row_nil 3 1
            simp only [List.cons_append, List.nil_append] at S21
            have HS21 := Lib.hid S21
            clear S21
            have hdn : ∀ d ∈ dayL n D, 0 ≤ d := fun d hd => by
              obtain ⟨x, _, rfl⟩ := List.mem_map.1 hd
              exact (hDb x).1
            have HDN := Lib.hid hdn
            clear hdn
            go_loopw [17, 18, 19, 200] (fun v s lm i w' => ∃ k : Nat, k ≤ n ∧ i = .int .i64 k ∧ s = .int .i64 (sumI (((dayL n D).take k).map flowF)) ∧ lm = .int .i64 (limF 1 ((dayL n D).take k)) ∧ St W w' [blk W.heap.size 22 #[.slice Al nl cl], row 3 1 (.slice (some ⟨g, 0, none⟩) n n) n ((dayL n D).map (Value.int .i64)), row 3 1 v k (intsI (((dayL n D).take k).map flowF))]) (fun _ _ _ i _ => n - (intOf i).toNat)
            case atStart => exact ⟨0, Nat.zero_le _, rfl, rfl, rfl, HS21.out⟩
            case round =>
              obtain ⟨k, hk, rfl, rfl, rfl, S⟩ := hrel
              clear HS21
              obtain ⟨A4, c4, rfl, _, _, _⟩ := (S.row_rd (i := 2) rfl).open_
              by_cases hlt : k < n
              · obtain ⟨g', cap', hv', _, _, hglt, hcell, _⟩ := S.row_form (i := 1) rfl (by omega)
                cases hv'
                have hdk : (dayL n D)[k]? = some (D k) := by rw [dayL, List.getElem?_map, List.getElem?_range hlt]; rfl
                have cd := hcell k (by omega)
                rw [List.getElem?_map, hdk, Option.map_some] at cd
                have hz0 := (hDb k).1
                have hfb := flow_bd hz0
                have htk := take_at hdk
                have HT := Lib.hid htk
                have hsb := sumI_bd (((dayL n D).take k).map flowF) (fun d hd => by
                  obtain ⟨x, hx, rfl⟩ := List.mem_map.1 hd
                  have := flow_bd (HDN.out x (List.mem_of_mem_take hx))
                  omega)
                have hlb := limF_le ((dayL n D).take k) 1 (by omega) (fun d hd => HDN.out d (List.mem_of_mem_take hd))
                have hlb1 := (limF_ge ((dayL n D).take k) 1).1
                rw [List.length_map, List.length_take] at hsb
                have hsb2 : 0 ≤ sumI (((dayL n D).take k).map flowF) ∧ sumI (((dayL n D).take k).map flowF) ≤ 100 := by omega
                have HS1 : Hid (sumI (((dayL n D).take (k + 1)).map flowF) = sumI (((dayL n D).take k).map flowF) + flowF (D k)) := by
                  show _ = _
                  rw [HT.out, List.map_append]; exact sumI_snoc _ _
                have HL1 : Hid (limF 1 ((dayL n D).take (k + 1)) = max (limF 1 ((dayL n D).take k)) (flowF (D k))) := by
                  show _ = _
                  rw [HT.out]; exact limF_snoc _ _ _
                have HF1 : Hid (intsI (((dayL n D).take (k + 1)).map flowF) = intsI (((dayL n D).take k).map flowF) ++ [.int .i64 (flowF (D k))]) := by
                  show _ = _
                  rw [HT.out, List.map_append, intsI, List.map_append]; rfl
                clear hsb htk hdk hcell
                generalize sumI (((dayL n D).take k).map flowF) = s0 at *
                generalize limF 1 ((dayL n D).take k) = l0 at *
                generalize ((dayL n D).take k).map flowF = f0 at *
                have hflw : flowF (D k) = 1 + (D k).tmod 9 := rfl
                rw [hflw] at hfb HS1 HL1 HF1
                clear hflw
                have hzl := (hDb k).2
                generalize D k = z at *
                have hr9 : 0 ≤ z.tmod 9 ∧ z.tmod 9 ≤ 8 := by omega
                generalize hrr : z.tmod 9 = r at *
                have SQ := S.alloc (.cells #[.int .i64 (1 + r)] 3)
                have HQ := rd_new wr (size := 1) (m := 1) #[.int .i64 (1 + r)] 3 rfl (by omega) (fun _ => True) trivial
                go_wp2_with (at_builtin; refine wpList_append_st eltI rfl _ _ rfl rfl SQ (k := 2) rfl rfl HQ (by simp [Value.oneCell']) (by omega) (by omega) ?_; intro v' w5 S5 _)
                have HS5 : Hid (St W w5 [blk W.heap.size 22 #[.slice Al nl cl], row 3 1 (.slice (some ⟨g, 0, none⟩) n n) n ((dayL n D).map (Value.int .i64)), row 3 1 v' (k + 1) (intsI (((dayL n D).take (k + 1)).map flowF))]) := by
                  show St _ _ _
                  rw [HF1.out]; exact S5
                clear S5 SQ HQ S
                go_roundw
                case rel => exact ⟨k + 1, by omega, by go_num, by rw [HS1.out], by rw [HL1.out], HS5.out⟩
                case measure => simp [intOf]; omega
              · obtain rfl : n = k := by omega
                have htake : (dayL n D).take n = dayL n D := List.take_of_length_le (by rw [dayL_len]; omega)
                rw [htake] at S
                rw [htake]
                obtain ⟨fs, hfs⟩ : ∃ fs, (dayL n D).map flowF = fs := ⟨_, rfl⟩
                obtain ⟨lim, hlim⟩ : ∃ x, limF 1 (dayL n D) = x := ⟨_, rfl⟩
                have hfl : fs.length = n := by rw [← hfs, List.length_map, dayL_len]
                have hfb : ∀ f ∈ fs, 1 ≤ f ∧ f ≤ lim := fun f hf => by
                  rw [← hfs] at hf
                  obtain ⟨d, hd, rfl⟩ := List.mem_map.1 hf
                  rw [← hlim]
                  exact ⟨(flow_bd (HDN.out d hd)).1, (limF_ge (dayL n D) 1).2 d hd⟩
                have hl1 : 1 ≤ lim := by rw [← hlim]; exact (limF_ge (dayL n D) 1).1
                have hl9 : lim ≤ 9 := by rw [← hlim]; exact limF_le (dayL n D) 1 (by omega) HDN.out
                rw [hfs] at S
                rw [hfs, hlim]
                have HFS := Lib.hid hfl
                have HFB := Lib.hid hfb
                have HROU := Lib.hid (rounds_any wr (.slice A4 n c4) n fs lim (S.row_rd (i := 2) rfl).now (by omega) (by omega) hfb)
                have HRF := Lib.hid (S.row_rd (i := 2) rfl).now
                have HBW := Lib.hid S.bel
                have hsb := sumI_bd fs (fun f hf => by have := hfb f hf; omega)
                rw [hfl] at hsb
                have hs0 := hsb.1
                have hs1 : sumI fs ≤ 100 := by omega
                clear S hfs hlim htake hfl hfb hsb HD HDN hDb HSD HFEV0 HFLV0
                go_wp2_with fail
                refine HROU.out.mono ?_
                rintro e w30 ⟨hb30, v', ks, cc, rfl, hc1, hcn, hkf, hmin, hrd⟩
                obtain ⟨hkl, hkn, hct1, hctn, hchk, hsum⟩ := rounds_law HFS.out hn1 (fun f hf => by have := HFB.out f hf; omega) hl1 hc1 hcn hkf hmin
                have HB30 := Lib.hid (HBW.out.trans (hb30.mono HBW.out.size))
                have HRF2 : Hid (Rd w30 (· < w30.heap.size) 1 (.slice A4 n c4) n (intsI fs)) := HRF.out.later hb30
                have HRK := Lib.hid hrd
                have HKL := Lib.hid hkl
                have HKN := Lib.hid hkn
                have HCHK := Lib.hid hchk
                obtain ⟨A5, c5, rfl, _, _, _⟩ := hrd.open_
                have HBND : Hid (∀ i, i < cntF 0 ks → -100 ≤ loadF fs ks i ∧ loadF fs ks i ≤ 100) := fun i _ => by
                  have h1 := load_bd fs ks i (fun f hf => by have := HFB.out f hf; omega)
                  rw [HFS.out] at h1
                  omega
                clear hb30 hrd hkl hkn hchk hkf hmin HROU HRF HBW hc1 hcn cc
                obtain ⟨cnt, hcnt⟩ : ∃ x, cntF 0 ks = x := ⟨_, rfl⟩
                have HCNT := Lib.hid hcnt
                rw [hcnt] at hct1 hctn hsum HCHK HBND
                have HSUM := Lib.hid hsum
                clear hcnt hsum
                generalize hss : sumI fs = ss at *
                clear hss
                go_wp2_with (at_make; refine wpList_make_st eltI rfl _ _ rfl (n := n) rfl rfl (St.refl w30) (by omega) (by omega) ?_; intro w31 gu S31 _ _)
                have S32 : St w30 w31 [row 3 1 (.slice (some ⟨gu, 0, none⟩) n n) n (daysV n (fun i => loadF (fs.take 0) (ks.take 0) i))] := by
                  have hmc : (madeCells (Value.int .i64 0).cells (n * 1)).toList = daysV n (fun i => loadF (fs.take 0) (ks.take 0) i) := by
                    have : (fun i => loadF (fs.take 0) (ks.take 0) i) = fun _ => 0 := rfl
                    rw [this, ← daysV_zero]
                    show (madeCells #[.int .i64 0] (n * 1)).toList = _
                    rw [toList_madeCells_one, Nat.mul_one]
                  rw [hmc] at S31
                  exact S31
                have HS32 := Lib.hid S32
                clear S31 S32
                go_loopw [25, 241] (fun cv i w' => ∃ k : Nat, k ≤ n ∧ i = .int .i64 k ∧ cv = .int .i64 (cntF 0 (ks.take k) : Nat) ∧ St w30 w' [row 3 1 (.slice (some ⟨gu, 0, none⟩) n n) n (daysV n (fun i => loadF (fs.take k) (ks.take k) i))]) (fun _ i _ => n - (intOf i).toNat)
                case atStart => exact ⟨0, Nat.zero_le _, rfl, rfl, HS32.out⟩
                case round =>
                  obtain ⟨k, hk, rfl, rfl, S⟩ := hrel
                  clear HS32
                  by_cases hlt : k < n
                  · obtain ⟨bk, ok, xk, hAk, hxk, ck0⟩ := (HRK.out.below S.bel).int hlt
                    obtain ⟨bf, of_, xf, hAf, hxf, cf0⟩ := (HRF2.out.below S.bel).int hlt
                    subst hAk
                    subst hAf
                    obtain ⟨kk, hkk, rfl⟩ : ∃ kk, ks[k]? = some kk ∧ (kk : Int) = xk := by
                      rw [natI, List.getElem?_map] at hxk
                      cases h : ks[k]? with
                      | none => rw [h] at hxk; cases hxk
                      | some q => rw [h] at hxk; exact ⟨q, rfl, Option.some.inj hxk⟩
                    have hkn := HKN.out kk (List.mem_of_getElem? hkk)
                    have hfb := HFB.out xf (List.mem_of_getElem? hxf)
                    have hbk : bk < w30.heap.size := by
                      obtain ⟨_, _, hg, hS, _⟩ := HRK.out.addr (by omega)
                      cases hg; exact hS
                    have hbf : bf < w30.heap.size := by
                      obtain ⟨_, _, hg, hS, _⟩ := HRF2.out.addr (by omega)
                      cases hg; exact hS
                    have ht1 := take_at hkk
                    have ht2 := take_at hxf
                    have hlb := load_bd (fs.take k) (ks.take k) kk (fun f hf => by have := HFB.out f (List.mem_of_mem_take hf); omega)
                    rw [List.length_take] at hlb
                    have hlb2 : 0 ≤ loadF (fs.take k) (ks.take k) kk ∧ loadF (fs.take k) (ks.take k) kk ≤ 100 := by omega
                    have hlens : (fs.take k).length = (ks.take k).length := by rw [List.length_take, List.length_take, HFS.out, HKL.out]
                    have HCN1 : Hid (cntF 0 (ks.take (k + 1)) = max (cntF 0 (ks.take k)) (kk + 1)) := by
                      show _ = _
                      rw [ht1]; exact cntF_snoc _ _ _
                    have HLO : Hid (daysV n (Plan.upd (fun i => loadF (fs.take k) (ks.take k) i) kk (loadF (fs.take k) (ks.take k) kk + xf)) = daysV n (fun i => loadF (fs.take (k + 1)) (ks.take (k + 1)) i)) := by
                      show _ = _
                      refine daysV_ext fun x _ => ?_
                      rw [ht1, ht2, load_snoc _ _ _ _ _ hlens]
                      unfold Plan.upd
                      by_cases e : x = kk
                      · subst e; rw [if_pos rfl, if_pos rfl]
                      · rw [if_neg e, if_neg (fun h => e h.symm), Int.add_zero]
                    have hcb := cntF_le (ks.take k) 0 n (Nat.zero_le _) (fun q hq => HKN.out q (List.mem_of_mem_take hq))
                    obtain ⟨g', cap', hv', _, hgW, hglt, hcell, hfz⟩ := S.row_form (i := 0) rfl (by omega)
                    cases hv'
                    have cu := (hcell kk (by omega)).trans (daysV_at hkn)
                    have fu := hfz kk
                    have SZ := S.row_set (i := 0) rfl kk (.int .i64 (loadF (fs.take k) (ks.take k) kk + xf))
                    simp only [List.set_cons_zero] at SZ
                    rw [daysV_set hkn, HLO.out] at SZ
                    generalize loadF (fs.take k) (ks.take k) kk = u at *
                    generalize cntF 0 (ks.take k) = cv at *
                    have HSZ := Lib.hid SZ
                    have q1 : decide ((kk : Int) < 0) = false := by simp
                    have q2 : decide ((n : Int) ≤ (kk : Int)) = false := by simp; omega
                    have q2' : decide (n ≤ kk) = false := by simp; omega
                    clear ht1 ht2 hlb hlens hxk hxf hcell hfz SZ HLO
                    have HS := Lib.hid S
                    clear S
                    go_wp2_with fail
                    refine wp_cls 10 (fun w' => ∃ q, w' = wr.drewN q) (by kernel_rfl) (by kernel_rfl) ⟨1, rfl⟩ ?_
                    simp only [List.take_succ_cons, List.take_zero, List.drop_succ_cons, List.drop_zero]
                    generalize hK : (fun w' => ∃ q, w' = wr.drewN q) = K
                    intro hne
                    have kw : ∀ y : Wd K, ∃ q, y.w = wr.drewN q := by subst hK; exact fun y => y.h
                    have y0 : ∀ y : Wd K, y.w.cell? ⟨gu, kk, none⟩ = some (.int .i64 u) := fun y => by obtain ⟨q, e⟩ := kw y; rw [e]; exact cu
                    have y1 : ∀ y : Wd K, y.w.cell? ⟨bf, of_ + k, none⟩ = some (.int .i64 xf) := fun y => by obtain ⟨q, e⟩ := kw y; rw [e]; exact cf0
                    clear hK
                    repeat (go_big_quiet_step ((fail)))
                    refine wpQuiet_nil ?_
                    intro y
                    obtain ⟨nn, hyn⟩ := kw y
                    have cy : y.w.cell? ⟨gu, kk, none⟩ = some (.int .i64 u) := y0 y
                    have fy : y.w.frozen? ⟨gu, kk, none⟩ = false := by rw [hyn]; exact fu
                    have HSY : Hid (St w30 (y.w.setCell ⟨gu, kk, none⟩ (.int .i64 (u + xf))) [row 3 1 (.slice (some ⟨gu, 0, none⟩) n n) n (daysV n (fun i => loadF (fs.take (k + 1)) (ks.take (k + 1)) i))]) := by
                      rw [hyn]
                      exact HSZ.out.drewN nn
                    clear y0 y1 kw hyn hne cu fu HSZ HS ck0 cf0
                    generalize y.w = w33 at *
                    go_wp2_with fail
                    go_roundw
                    case rel => exact ⟨k + 1, by omega, by go_num, by rw [HCN1.out]; congr 1; omega, HSY.out⟩
                    case measure => simp [intOf]; omega
                  · obtain rfl : n = k := by omega
                    have hk1 : ks.take n = ks := List.take_of_length_le (by rw [HKL.out]; omega)
                    have hk2 : fs.take n = fs := List.take_of_length_le (by rw [HFS.out]; omega)
                    rw [hk1, hk2] at S
                    rw [hk1]
                    rw [HCNT.out]
                    have HS := Lib.hid S
                    clear S hk1 hk2 HKN HKL HFS HFB HCNT HRK
                    have HLD : Hid (∀ i, i < cnt → -100 ≤ loadF fs ks i ∧ loadF fs ks i ≤ 100) := HBND
                    generalize loadF fs ks = ld at *
                    go_wp2_with fail
                    go_loopw [270] (fun i w' => ∃ k : Nat, k ≤ cnt ∧ i = .int .i64 k ∧ St w30 w' [row 3 1 (.slice (some ⟨gu, 0, none⟩) n n) n (daysV n ld)]) (fun i _ => cnt - (intOf i).toNat)
                    case atStart => exact ⟨0, Nat.zero_le _, rfl, HS.out⟩
                    case round =>
                      obtain ⟨i, hi, rfl, S⟩ := hrel
                      clear HS
                      by_cases hlt2 : i < cnt
                      · have hchk := HCHK.out i hlt2
                        have HCK2 := Lib.hid hchk.2
                        have hli := hchk.1
                        have hbi := HLD.out i hlt2
                        have HS := Lib.hid S
                        clear S hchk
                        go_wp2_with fail
                        go_loopw [274] (fun j w' => ∃ k : Nat, k ≤ i ∧ j = .int .i64 k ∧ St w30 w' [row 3 1 (.slice (some ⟨gu, 0, none⟩) n n) n (daysV n ld)]) (fun j _ => i - (intOf j).toNat)
                        case atStart => exact ⟨0, Nat.zero_le _, rfl, HS.out⟩
                        case round =>
                          obtain ⟨k, hk, rfl, S⟩ := hrel
                          clear HS
                          obtain ⟨g', cap', hv', _, _, hglt, hcell, _⟩ := S.row_form (i := 0) rfl (by omega)
                          cases hv'
                          have ci := (hcell i (by omega)).trans (daysV_at (show i < n by omega))
                          have HS := Lib.hid S
                          by_cases hlt3 : k < i
                          · have ck := (hcell k (by omega)).trans (daysV_at (show k < n by omega))
                            have hgt := HCK2.out k hlt3
                            have hbk := HLD.out k (by omega)
                            have hin : i < n := by omega
                            have hkn : k < n := by omega
                            clear hcell S
                            generalize ld i = ui at *
                            generalize ld k = uk at *
                            have q1 : decide (ui + uk ≤ lim) = false := by simp; omega
                            go_wp2_with fail
                            go_quiet (fail)
                            have HSD2 := Lib.hid (HS.out.drewN nq)
                            go_wp2_with fail
                            go_roundw
                            case rel => exact ⟨k + 1, by omega, by go_num, HSD2.out⟩
                            case measure => simp [intOf]; omega
                          · have hin : i < n := by omega
                            clear hcell S
                            generalize ld i = ui at *
                            have q1 : decide (lim < ui) = false := by simp; omega
                            go_wp2_with fail
                            go_roundw
                            case rel => exact ⟨i + 1, by omega, by go_num, HS.out⟩
                            case measure => simp [intOf]; omega
                      · obtain rfl : cnt = i := by omega
                        have HBZ := Lib.hid (HB30.out.trans (S.bel.mono HB30.out.size))
                        have hsum := HSUM.out
                        clear S HSUM HCHK HLD
                        have hml : (cnt : Int) * lim ≤ 54 := by
                          have h1 := Int.mul_le_mul (show (cnt : Int) ≤ 6 by omega) hl9 (by omega) (by omega)
                          omega
                        have hml0 : 0 ≤ (cnt : Int) * lim := Int.mul_nonneg (by omega) (by omega)
                        have hge : decide (ss ≤ (cnt : Int) * lim) = true := by simpa using hsum
                        generalize hm : (cnt : Int) * lim = ml at *
                        have HFI := Lib.hid (fromInt_any wr cnt (by omega))
                        go_wp2_with fail
                        refine HFI.out.mono ?_
                        rintro e w40 ⟨rfl, hb40⟩
                        have HBW := Lib.hid (HBZ.out.trans (hb40.mono HBZ.out.size))
                        have HSI := Lib.hid (sign_dig (cnt : Int) (by omega) w40)
                        clear hb40 HFI HBZ
                        go_wp2_with fail
                        refine HSI.out.mono ?_
                        rintro e w41 ⟨rfl, rfl⟩
                        clear HSI
                        go_wp2_with fail
                        refine (green_any _).mono ?_
                        rintro e w42 ⟨rfl, hbg⟩
                        have HBV := Lib.hid (HBW.out.trans (hbg.mono HBW.out.size))
                        clear hbg HBW
                        go_wp2_with fail
                        go_ret
                        exact ⟨rfl, HBV.out⟩
          · cases fb
            · have HFEV : Hid True := trivial
              have HFLV : Hid True := trivial
              have SS := HT20.out
              have HG := Lib.hid (HFIT.out w20 _ a SS.bel (SS.blk_cell (i := 0) rfl 0) (HRA.out.later SS.bel))
              rw [HFAV.out] at HG
              clear SS
              go_wp2_with fail
              refine HG.out.mono ?_
              rintro e w21 ⟨rfl, hbk⟩
              have HT21 := Lib.hid (HT20.out.ext hbk)
              clear hbk HG HT20
              have SS := HT21.out
              have HG := Lib.hid (HFIT.out w21 _ b SS.bel (SS.blk_cell (i := 0) rfl 0) (HRB.out.later SS.bel))
              rw [HFBV.out] at HG
              clear SS
              go_wp2_with fail
              refine HG.out.mono ?_
              rintro e w22 ⟨rfl, hbk⟩
              have HT22 := Lib.hid (HT21.out.ext hbk)
              clear hbk HG HT21
              have SS := HT22.out
              have HG := Lib.hid (HFIT.out w22 _ (zipF (fun x _ => x + 7) (dayL n D) [] n) SS.bel (SS.blk_cell (i := 0) rfl 0) ((SS.row_rd (i := 4) rfl).now))
              rw [HFMV.out] at HG
              clear SS
              go_wp2_with fail
              refine HG.out.mono ?_
              rintro e w23 ⟨rfl, hbk⟩
              have HT23 := Lib.hid (HT22.out.ext hbk)
              clear hbk HG HT22
              have HSD := Lib.hid (HT23.out.sub (L' := [_, _]) (List.sublist_append_left [_, _] [_, _, _]))
              generalize w23 = wD at *
              clear HT23 HFAV HFBV HFEV HFLV HFMV HFIT
              go_wp2_with fail
              have S21 := HSD.out.row_nil 3 1
              simp only [List.cons_append, List.nil_append] at S21
              have HS21 := Lib.hid S21
              clear S21
              have hdn : ∀ d ∈ dayL n D, 0 ≤ d := fun d hd => by
                obtain ⟨x, _, rfl⟩ := List.mem_map.1 hd
                exact (hDb x).1
              have HDN := Lib.hid hdn
              clear hdn
              go_loopw [17, 18, 19, 200] (fun v s lm i w' => ∃ k : Nat, k ≤ n ∧ i = .int .i64 k ∧ s = .int .i64 (sumI (((dayL n D).take k).map flowF)) ∧ lm = .int .i64 (limF 1 ((dayL n D).take k)) ∧ St W w' [blk W.heap.size 22 #[.slice Al nl cl], row 3 1 (.slice (some ⟨g, 0, none⟩) n n) n ((dayL n D).map (Value.int .i64)), row 3 1 v k (intsI (((dayL n D).take k).map flowF))]) (fun _ _ _ i _ => n - (intOf i).toNat)
              case atStart => exact ⟨0, Nat.zero_le _, rfl, rfl, rfl, HS21.out⟩
              case round =>
                obtain ⟨k, hk, rfl, rfl, rfl, S⟩ := hrel
                clear HS21
                obtain ⟨A4, c4, rfl, _, _, _⟩ := (S.row_rd (i := 2) rfl).open_
                by_cases hlt : k < n
                · obtain ⟨g', cap', hv', _, _, hglt, hcell, _⟩ := S.row_form (i := 1) rfl (by omega)
                  cases hv'
                  have hdk : (dayL n D)[k]? = some (D k) := by rw [dayL, List.getElem?_map, List.getElem?_range hlt]; rfl
                  have cd := hcell k (by omega)
                  rw [List.getElem?_map, hdk, Option.map_some] at cd
                  have hz0 := (hDb k).1
                  have hfb := flow_bd hz0
                  have htk := take_at hdk
                  have HT := Lib.hid htk
                  have hsb := sumI_bd (((dayL n D).take k).map flowF) (fun d hd => by
                    obtain ⟨x, hx, rfl⟩ := List.mem_map.1 hd
                    have := flow_bd (HDN.out x (List.mem_of_mem_take hx))
                    omega)
                  have hlb := limF_le ((dayL n D).take k) 1 (by omega) (fun d hd => HDN.out d (List.mem_of_mem_take hd))
                  have hlb1 := (limF_ge ((dayL n D).take k) 1).1
                  rw [List.length_map, List.length_take] at hsb
                  have hsb2 : 0 ≤ sumI (((dayL n D).take k).map flowF) ∧ sumI (((dayL n D).take k).map flowF) ≤ 100 := by omega
                  have HS1 : Hid (sumI (((dayL n D).take (k + 1)).map flowF) = sumI (((dayL n D).take k).map flowF) + flowF (D k)) := by
                    show _ = _
                    rw [HT.out, List.map_append]; exact sumI_snoc _ _
                  have HL1 : Hid (limF 1 ((dayL n D).take (k + 1)) = max (limF 1 ((dayL n D).take k)) (flowF (D k))) := by
                    show _ = _
                    rw [HT.out]; exact limF_snoc _ _ _
                  have HF1 : Hid (intsI (((dayL n D).take (k + 1)).map flowF) = intsI (((dayL n D).take k).map flowF) ++ [.int .i64 (flowF (D k))]) := by
                    show _ = _
                    rw [HT.out, List.map_append, intsI, List.map_append]; rfl
                  clear hsb htk hdk hcell
                  generalize sumI (((dayL n D).take k).map flowF) = s0 at *
                  generalize limF 1 ((dayL n D).take k) = l0 at *
                  generalize ((dayL n D).take k).map flowF = f0 at *
                  have hflw : flowF (D k) = 1 + (D k).tmod 9 := rfl
                  rw [hflw] at hfb HS1 HL1 HF1
                  clear hflw
                  have hzl := (hDb k).2
                  generalize D k = z at *
                  have hr9 : 0 ≤ z.tmod 9 ∧ z.tmod 9 ≤ 8 := by omega
                  generalize hrr : z.tmod 9 = r at *
                  have SQ := S.alloc (.cells #[.int .i64 (1 + r)] 3)
                  have HQ := rd_new wr (size := 1) (m := 1) #[.int .i64 (1 + r)] 3 rfl (by omega) (fun _ => True) trivial
                  go_wp2_with (at_builtin; refine wpList_append_st eltI rfl _ _ rfl rfl SQ (k := 2) rfl rfl HQ (by simp [Value.oneCell']) (by omega) (by omega) ?_; intro v' w5 S5 _)
                  have HS5 : Hid (St W w5 [blk W.heap.size 22 #[.slice Al nl cl], row 3 1 (.slice (some ⟨g, 0, none⟩) n n) n ((dayL n D).map (Value.int .i64)), row 3 1 v' (k + 1) (intsI (((dayL n D).take (k + 1)).map flowF))]) := by
                    show St _ _ _
                    rw [HF1.out]; exact S5
                  clear S5 SQ HQ S
                  go_roundw
                  case rel => exact ⟨k + 1, by omega, by go_num, by rw [HS1.out], by rw [HL1.out], HS5.out⟩
                  case measure => simp [intOf]; omega
                · obtain rfl : n = k := by omega
                  have htake : (dayL n D).take n = dayL n D := List.take_of_length_le (by rw [dayL_len]; omega)
                  rw [htake] at S
                  rw [htake]
                  obtain ⟨fs, hfs⟩ : ∃ fs, (dayL n D).map flowF = fs := ⟨_, rfl⟩
                  obtain ⟨lim, hlim⟩ : ∃ x, limF 1 (dayL n D) = x := ⟨_, rfl⟩
                  have hfl : fs.length = n := by rw [← hfs, List.length_map, dayL_len]
                  have hfb : ∀ f ∈ fs, 1 ≤ f ∧ f ≤ lim := fun f hf => by
                    rw [← hfs] at hf
                    obtain ⟨d, hd, rfl⟩ := List.mem_map.1 hf
                    rw [← hlim]
                    exact ⟨(flow_bd (HDN.out d hd)).1, (limF_ge (dayL n D) 1).2 d hd⟩
                  have hl1 : 1 ≤ lim := by rw [← hlim]; exact (limF_ge (dayL n D) 1).1
                  have hl9 : lim ≤ 9 := by rw [← hlim]; exact limF_le (dayL n D) 1 (by omega) HDN.out
                  rw [hfs] at S
                  rw [hfs, hlim]
                  have HFS := Lib.hid hfl
                  have HFB := Lib.hid hfb
                  have HROU := Lib.hid (rounds_any wr (.slice A4 n c4) n fs lim (S.row_rd (i := 2) rfl).now (by omega) (by omega) hfb)
                  have HRF := Lib.hid (S.row_rd (i := 2) rfl).now
                  have HBW := Lib.hid S.bel
                  have hsb := sumI_bd fs (fun f hf => by have := hfb f hf; omega)
                  rw [hfl] at hsb
                  have hs0 := hsb.1
                  have hs1 : sumI fs ≤ 100 := by omega
                  clear S hfs hlim htake hfl hfb hsb HD HDN hDb HSD HFEV0 HFLV0
                  go_wp2_with fail
                  refine HROU.out.mono ?_
                  rintro e w30 ⟨hb30, v', ks, cc, rfl, hc1, hcn, hkf, hmin, hrd⟩
                  obtain ⟨hkl, hkn, hct1, hctn, hchk, hsum⟩ := rounds_law HFS.out hn1 (fun f hf => by have := HFB.out f hf; omega) hl1 hc1 hcn hkf hmin
                  have HB30 := Lib.hid (HBW.out.trans (hb30.mono HBW.out.size))
                  have HRF2 : Hid (Rd w30 (· < w30.heap.size) 1 (.slice A4 n c4) n (intsI fs)) := HRF.out.later hb30
                  have HRK := Lib.hid hrd
                  have HKL := Lib.hid hkl
                  have HKN := Lib.hid hkn
                  have HCHK := Lib.hid hchk
                  obtain ⟨A5, c5, rfl, _, _, _⟩ := hrd.open_
                  have HBND : Hid (∀ i, i < cntF 0 ks → -100 ≤ loadF fs ks i ∧ loadF fs ks i ≤ 100) := fun i _ => by
                    have h1 := load_bd fs ks i (fun f hf => by have := HFB.out f hf; omega)
                    rw [HFS.out] at h1
                    omega
                  clear hb30 hrd hkl hkn hchk hkf hmin HROU HRF HBW hc1 hcn cc
                  obtain ⟨cnt, hcnt⟩ : ∃ x, cntF 0 ks = x := ⟨_, rfl⟩
                  have HCNT := Lib.hid hcnt
                  rw [hcnt] at hct1 hctn hsum HCHK HBND
                  have HSUM := Lib.hid hsum
                  clear hcnt hsum
                  generalize hss : sumI fs = ss at *
                  clear hss
                  go_wp2_with (at_make; refine wpList_make_st eltI rfl _ _ rfl (n := n) rfl rfl (St.refl w30) (by omega) (by omega) ?_; intro w31 gu S31 _ _)
                  have S32 : St w30 w31 [row 3 1 (.slice (some ⟨gu, 0, none⟩) n n) n (daysV n (fun i => loadF (fs.take 0) (ks.take 0) i))] := by
                    have hmc : (madeCells (Value.int .i64 0).cells (n * 1)).toList = daysV n (fun i => loadF (fs.take 0) (ks.take 0) i) := by
                      have : (fun i => loadF (fs.take 0) (ks.take 0) i) = fun _ => 0 := rfl
                      rw [this, ← daysV_zero]
                      show (madeCells #[.int .i64 0] (n * 1)).toList = _
                      rw [toList_madeCells_one, Nat.mul_one]
                    rw [hmc] at S31
                    exact S31
                  have HS32 := Lib.hid S32
                  clear S31 S32
                  go_loopw [25, 241] (fun cv i w' => ∃ k : Nat, k ≤ n ∧ i = .int .i64 k ∧ cv = .int .i64 (cntF 0 (ks.take k) : Nat) ∧ St w30 w' [row 3 1 (.slice (some ⟨gu, 0, none⟩) n n) n (daysV n (fun i => loadF (fs.take k) (ks.take k) i))]) (fun _ i _ => n - (intOf i).toNat)
                  case atStart => exact ⟨0, Nat.zero_le _, rfl, rfl, HS32.out⟩
                  case round =>
                    obtain ⟨k, hk, rfl, rfl, S⟩ := hrel
                    clear HS32
                    by_cases hlt : k < n
                    · obtain ⟨bk, ok, xk, hAk, hxk, ck0⟩ := (HRK.out.below S.bel).int hlt
                      obtain ⟨bf, of_, xf, hAf, hxf, cf0⟩ := (HRF2.out.below S.bel).int hlt
                      subst hAk
                      subst hAf
                      obtain ⟨kk, hkk, rfl⟩ : ∃ kk, ks[k]? = some kk ∧ (kk : Int) = xk := by
                        rw [natI, List.getElem?_map] at hxk
                        cases h : ks[k]? with
                        | none => rw [h] at hxk; cases hxk
                        | some q => rw [h] at hxk; exact ⟨q, rfl, Option.some.inj hxk⟩
                      have hkn := HKN.out kk (List.mem_of_getElem? hkk)
                      have hfb := HFB.out xf (List.mem_of_getElem? hxf)
                      have hbk : bk < w30.heap.size := by
                        obtain ⟨_, _, hg, hS, _⟩ := HRK.out.addr (by omega)
                        cases hg; exact hS
                      have hbf : bf < w30.heap.size := by
                        obtain ⟨_, _, hg, hS, _⟩ := HRF2.out.addr (by omega)
                        cases hg; exact hS
                      have ht1 := take_at hkk
                      have ht2 := take_at hxf
                      have hlb := load_bd (fs.take k) (ks.take k) kk (fun f hf => by have := HFB.out f (List.mem_of_mem_take hf); omega)
                      rw [List.length_take] at hlb
                      have hlb2 : 0 ≤ loadF (fs.take k) (ks.take k) kk ∧ loadF (fs.take k) (ks.take k) kk ≤ 100 := by omega
                      have hlens : (fs.take k).length = (ks.take k).length := by rw [List.length_take, List.length_take, HFS.out, HKL.out]
                      have HCN1 : Hid (cntF 0 (ks.take (k + 1)) = max (cntF 0 (ks.take k)) (kk + 1)) := by
                        show _ = _
                        rw [ht1]; exact cntF_snoc _ _ _
                      have HLO : Hid (daysV n (Plan.upd (fun i => loadF (fs.take k) (ks.take k) i) kk (loadF (fs.take k) (ks.take k) kk + xf)) = daysV n (fun i => loadF (fs.take (k + 1)) (ks.take (k + 1)) i)) := by
                        show _ = _
                        refine daysV_ext fun x _ => ?_
                        rw [ht1, ht2, load_snoc _ _ _ _ _ hlens]
                        unfold Plan.upd
                        by_cases e : x = kk
                        · subst e; rw [if_pos rfl, if_pos rfl]
                        · rw [if_neg e, if_neg (fun h => e h.symm), Int.add_zero]
                      have hcb := cntF_le (ks.take k) 0 n (Nat.zero_le _) (fun q hq => HKN.out q (List.mem_of_mem_take hq))
                      obtain ⟨g', cap', hv', _, hgW, hglt, hcell, hfz⟩ := S.row_form (i := 0) rfl (by omega)
                      cases hv'
                      have cu := (hcell kk (by omega)).trans (daysV_at hkn)
                      have fu := hfz kk
                      have SZ := S.row_set (i := 0) rfl kk (.int .i64 (loadF (fs.take k) (ks.take k) kk + xf))
                      simp only [List.set_cons_zero] at SZ
                      rw [daysV_set hkn, HLO.out] at SZ
                      generalize loadF (fs.take k) (ks.take k) kk = u at *
                      generalize cntF 0 (ks.take k) = cv at *
                      have HSZ := Lib.hid SZ
                      have q1 : decide ((kk : Int) < 0) = false := by simp
                      have q2 : decide ((n : Int) ≤ (kk : Int)) = false := by simp; omega
                      have q2' : decide (n ≤ kk) = false := by simp; omega
                      clear ht1 ht2 hlb hlens hxk hxf hcell hfz SZ HLO
                      have HS := Lib.hid S
                      clear S
                      go_wp2_with fail
                      refine wp_cls 10 (fun w' => ∃ q, w' = wr.drewN q) (by kernel_rfl) (by kernel_rfl) ⟨1, rfl⟩ ?_
                      simp only [List.take_succ_cons, List.take_zero, List.drop_succ_cons, List.drop_zero]
                      generalize hK : (fun w' => ∃ q, w' = wr.drewN q) = K
                      intro hne
                      have kw : ∀ y : Wd K, ∃ q, y.w = wr.drewN q := by subst hK; exact fun y => y.h
                      have y0 : ∀ y : Wd K, y.w.cell? ⟨gu, kk, none⟩ = some (.int .i64 u) := fun y => by obtain ⟨q, e⟩ := kw y; rw [e]; exact cu
                      have y1 : ∀ y : Wd K, y.w.cell? ⟨bf, of_ + k, none⟩ = some (.int .i64 xf) := fun y => by obtain ⟨q, e⟩ := kw y; rw [e]; exact cf0
                      clear hK
                      repeat (go_big_quiet_step ((fail)))
                      refine wpQuiet_nil ?_
                      intro y
                      obtain ⟨nn, hyn⟩ := kw y
                      have cy : y.w.cell? ⟨gu, kk, none⟩ = some (.int .i64 u) := y0 y
                      have fy : y.w.frozen? ⟨gu, kk, none⟩ = false := by rw [hyn]; exact fu
                      have HSY : Hid (St w30 (y.w.setCell ⟨gu, kk, none⟩ (.int .i64 (u + xf))) [row 3 1 (.slice (some ⟨gu, 0, none⟩) n n) n (daysV n (fun i => loadF (fs.take (k + 1)) (ks.take (k + 1)) i))]) := by
                        rw [hyn]
                        exact HSZ.out.drewN nn
                      clear y0 y1 kw hyn hne cu fu HSZ HS ck0 cf0
                      generalize y.w = w33 at *
                      go_wp2_with fail
                      go_roundw
                      case rel => exact ⟨k + 1, by omega, by go_num, by rw [HCN1.out]; congr 1; omega, HSY.out⟩
                      case measure => simp [intOf]; omega
                    · obtain rfl : n = k := by omega
                      have hk1 : ks.take n = ks := List.take_of_length_le (by rw [HKL.out]; omega)
                      have hk2 : fs.take n = fs := List.take_of_length_le (by rw [HFS.out]; omega)
                      rw [hk1, hk2] at S
                      rw [hk1]
                      rw [HCNT.out]
                      have HS := Lib.hid S
                      clear S hk1 hk2 HKN HKL HFS HFB HCNT HRK
                      have HLD : Hid (∀ i, i < cnt → -100 ≤ loadF fs ks i ∧ loadF fs ks i ≤ 100) := HBND
                      generalize loadF fs ks = ld at *
                      go_wp2_with fail
                      go_loopw [270] (fun i w' => ∃ k : Nat, k ≤ cnt ∧ i = .int .i64 k ∧ St w30 w' [row 3 1 (.slice (some ⟨gu, 0, none⟩) n n) n (daysV n ld)]) (fun i _ => cnt - (intOf i).toNat)
                      case atStart => exact ⟨0, Nat.zero_le _, rfl, HS.out⟩
                      case round =>
                        obtain ⟨i, hi, rfl, S⟩ := hrel
                        clear HS
                        by_cases hlt2 : i < cnt
                        · have hchk := HCHK.out i hlt2
                          have HCK2 := Lib.hid hchk.2
                          have hli := hchk.1
                          have hbi := HLD.out i hlt2
                          have HS := Lib.hid S
                          clear S hchk
                          go_wp2_with fail
                          go_loopw [274] (fun j w' => ∃ k : Nat, k ≤ i ∧ j = .int .i64 k ∧ St w30 w' [row 3 1 (.slice (some ⟨gu, 0, none⟩) n n) n (daysV n ld)]) (fun j _ => i - (intOf j).toNat)
                          case atStart => exact ⟨0, Nat.zero_le _, rfl, HS.out⟩
                          case round =>
                            obtain ⟨k, hk, rfl, S⟩ := hrel
                            clear HS
                            obtain ⟨g', cap', hv', _, _, hglt, hcell, _⟩ := S.row_form (i := 0) rfl (by omega)
                            cases hv'
                            have ci := (hcell i (by omega)).trans (daysV_at (show i < n by omega))
                            have HS := Lib.hid S
                            by_cases hlt3 : k < i
                            · have ck := (hcell k (by omega)).trans (daysV_at (show k < n by omega))
                              have hgt := HCK2.out k hlt3
                              have hbk := HLD.out k (by omega)
                              have hin : i < n := by omega
                              have hkn : k < n := by omega
                              clear hcell S
                              generalize ld i = ui at *
                              generalize ld k = uk at *
                              have q1 : decide (ui + uk ≤ lim) = false := by simp; omega
                              go_wp2_with fail
                              go_quiet (fail)
                              have HSD2 := Lib.hid (HS.out.drewN nq)
                              go_wp2_with fail
                              go_roundw
                              case rel => exact ⟨k + 1, by omega, by go_num, HSD2.out⟩
                              case measure => simp [intOf]; omega
                            · have hin : i < n := by omega
                              clear hcell S
                              generalize ld i = ui at *
                              have q1 : decide (lim < ui) = false := by simp; omega
                              go_wp2_with fail
                              go_roundw
                              case rel => exact ⟨i + 1, by omega, by go_num, HS.out⟩
                              case measure => simp [intOf]; omega
                        · obtain rfl : cnt = i := by omega
                          have HBZ := Lib.hid (HB30.out.trans (S.bel.mono HB30.out.size))
                          have hsum := HSUM.out
                          clear S HSUM HCHK HLD
                          have hml : (cnt : Int) * lim ≤ 54 := by
                            have h1 := Int.mul_le_mul (show (cnt : Int) ≤ 6 by omega) hl9 (by omega) (by omega)
                            omega
                          have hml0 : 0 ≤ (cnt : Int) * lim := Int.mul_nonneg (by omega) (by omega)
                          have hge : decide (ss ≤ (cnt : Int) * lim) = true := by simpa using hsum
                          generalize hm : (cnt : Int) * lim = ml at *
                          have HFI := Lib.hid (fromInt_any wr cnt (by omega))
                          go_wp2_with fail
                          refine HFI.out.mono ?_
                          rintro e w40 ⟨rfl, hb40⟩
                          have HBW := Lib.hid (HBZ.out.trans (hb40.mono HBZ.out.size))
                          have HSI := Lib.hid (sign_dig (cnt : Int) (by omega) w40)
                          clear hb40 HFI HBZ
                          go_wp2_with fail
                          refine HSI.out.mono ?_
                          rintro e w41 ⟨rfl, rfl⟩
                          clear HSI
                          go_wp2_with fail
                          refine (green_any _).mono ?_
                          rintro e w42 ⟨rfl, hbg⟩
                          have HBV := Lib.hid (HBW.out.trans (hbg.mono HBW.out.size))
                          clear hbg HBW
                          go_wp2_with fail
                          go_ret
                          exact ⟨rfl, HBV.out⟩
            · have HFEV := Lib.hid (HFEV0.out HFAV.out HFBV.out)
              have HFLV := Lib.hid (HFLV0.out HFAV.out HFBV.out)
              have SS := HT20.out
              have HG := Lib.hid (HFIT.out w20 _ a SS.bel (SS.blk_cell (i := 0) rfl 0) (HRA.out.later SS.bel))
              rw [HFAV.out] at HG
              clear SS
              go_wp2_with fail
              refine HG.out.mono ?_
              rintro e w21 ⟨rfl, hbk⟩
              have HT21 := Lib.hid (HT20.out.ext hbk)
              clear hbk HG HT20
              have SS := HT21.out
              have HG := Lib.hid (HFIT.out w21 _ b SS.bel (SS.blk_cell (i := 0) rfl 0) (HRB.out.later SS.bel))
              rw [HFBV.out] at HG
              clear SS
              go_wp2_with fail
              refine HG.out.mono ?_
              rintro e w22 ⟨rfl, hbk⟩
              have HT22 := Lib.hid (HT21.out.ext hbk)
              clear hbk HG HT21
              have SS := HT22.out
              have HG := Lib.hid (HFIT.out w22 _ (zipF min a b n) SS.bel (SS.blk_cell (i := 0) rfl 0) ((SS.row_rd (i := 2) rfl).now))
              rw [HFEV.out] at HG
              clear SS
              go_wp2_with fail
              refine HG.out.mono ?_
              rintro e w23 ⟨rfl, hbk⟩
              have HT23 := Lib.hid (HT22.out.ext hbk)
              clear hbk HG HT22
              have SS := HT23.out
              have HG := Lib.hid (HFIT.out w23 _ (zipF max a b n) SS.bel (SS.blk_cell (i := 0) rfl 0) ((SS.row_rd (i := 3) rfl).now))
              rw [HFLV.out] at HG
              clear SS
              go_wp2_with fail
              refine HG.out.mono ?_
              rintro e w24 ⟨rfl, hbk⟩
              have HT24 := Lib.hid (HT23.out.ext hbk)
              clear hbk HG HT23
              have SS := HT24.out
              have HG := Lib.hid (HFIT.out w24 _ (zipF (fun x _ => x + 7) (dayL n D) [] n) SS.bel (SS.blk_cell (i := 0) rfl 0) ((SS.row_rd (i := 4) rfl).now))
              rw [HFMV.out] at HG
              clear SS
              go_wp2_with fail
              refine HG.out.mono ?_
              rintro e w25 ⟨rfl, hbk⟩
              have HT25 := Lib.hid (HT24.out.ext hbk)
              clear hbk HG HT24
              have HSD := Lib.hid (HT25.out.sub (L' := [_, _]) (List.sublist_append_left [_, _] [_, _, _]))
              generalize w25 = wD at *
              clear HT25 HFAV HFBV HFEV HFLV HFMV HFIT
              go_wp2_with fail
              have S21 := HSD.out.row_nil 3 1
              simp only [List.cons_append, List.nil_append] at S21
              have HS21 := Lib.hid S21
              clear S21
              have hdn : ∀ d ∈ dayL n D, 0 ≤ d := fun d hd => by
                obtain ⟨x, _, rfl⟩ := List.mem_map.1 hd
                exact (hDb x).1
              have HDN := Lib.hid hdn
              clear hdn
              go_loopw [17, 18, 19, 200] (fun v s lm i w' => ∃ k : Nat, k ≤ n ∧ i = .int .i64 k ∧ s = .int .i64 (sumI (((dayL n D).take k).map flowF)) ∧ lm = .int .i64 (limF 1 ((dayL n D).take k)) ∧ St W w' [blk W.heap.size 22 #[.slice Al nl cl], row 3 1 (.slice (some ⟨g, 0, none⟩) n n) n ((dayL n D).map (Value.int .i64)), row 3 1 v k (intsI (((dayL n D).take k).map flowF))]) (fun _ _ _ i _ => n - (intOf i).toNat)
              case atStart => exact ⟨0, Nat.zero_le _, rfl, rfl, rfl, HS21.out⟩
              case round =>
                obtain ⟨k, hk, rfl, rfl, rfl, S⟩ := hrel
                clear HS21
                obtain ⟨A4, c4, rfl, _, _, _⟩ := (S.row_rd (i := 2) rfl).open_
                by_cases hlt : k < n
                · obtain ⟨g', cap', hv', _, _, hglt, hcell, _⟩ := S.row_form (i := 1) rfl (by omega)
                  cases hv'
                  have hdk : (dayL n D)[k]? = some (D k) := by rw [dayL, List.getElem?_map, List.getElem?_range hlt]; rfl
                  have cd := hcell k (by omega)
                  rw [List.getElem?_map, hdk, Option.map_some] at cd
                  have hz0 := (hDb k).1
                  have hfb := flow_bd hz0
                  have htk := take_at hdk
                  have HT := Lib.hid htk
                  have hsb := sumI_bd (((dayL n D).take k).map flowF) (fun d hd => by
                    obtain ⟨x, hx, rfl⟩ := List.mem_map.1 hd
                    have := flow_bd (HDN.out x (List.mem_of_mem_take hx))
                    omega)
                  have hlb := limF_le ((dayL n D).take k) 1 (by omega) (fun d hd => HDN.out d (List.mem_of_mem_take hd))
                  have hlb1 := (limF_ge ((dayL n D).take k) 1).1
                  rw [List.length_map, List.length_take] at hsb
                  have hsb2 : 0 ≤ sumI (((dayL n D).take k).map flowF) ∧ sumI (((dayL n D).take k).map flowF) ≤ 100 := by omega
                  have HS1 : Hid (sumI (((dayL n D).take (k + 1)).map flowF) = sumI (((dayL n D).take k).map flowF) + flowF (D k)) := by
                    show _ = _
                    rw [HT.out, List.map_append]; exact sumI_snoc _ _
                  have HL1 : Hid (limF 1 ((dayL n D).take (k + 1)) = max (limF 1 ((dayL n D).take k)) (flowF (D k))) := by
                    show _ = _
                    rw [HT.out]; exact limF_snoc _ _ _
                  have HF1 : Hid (intsI (((dayL n D).take (k + 1)).map flowF) = intsI (((dayL n D).take k).map flowF) ++ [.int .i64 (flowF (D k))]) := by
                    show _ = _
                    rw [HT.out, List.map_append, intsI, List.map_append]; rfl
                  clear hsb htk hdk hcell
                  generalize sumI (((dayL n D).take k).map flowF) = s0 at *
                  generalize limF 1 ((dayL n D).take k) = l0 at *
                  generalize ((dayL n D).take k).map flowF = f0 at *
                  have hflw : flowF (D k) = 1 + (D k).tmod 9 := rfl
                  rw [hflw] at hfb HS1 HL1 HF1
                  clear hflw
                  have hzl := (hDb k).2
                  generalize D k = z at *
                  have hr9 : 0 ≤ z.tmod 9 ∧ z.tmod 9 ≤ 8 := by omega
                  generalize hrr : z.tmod 9 = r at *
                  have SQ := S.alloc (.cells #[.int .i64 (1 + r)] 3)
                  have HQ := rd_new wr (size := 1) (m := 1) #[.int .i64 (1 + r)] 3 rfl (by omega) (fun _ => True) trivial
                  go_wp2_with (at_builtin; refine wpList_append_st eltI rfl _ _ rfl rfl SQ (k := 2) rfl rfl HQ (by simp [Value.oneCell']) (by omega) (by omega) ?_; intro v' w5 S5 _)
                  have HS5 : Hid (St W w5 [blk W.heap.size 22 #[.slice Al nl cl], row 3 1 (.slice (some ⟨g, 0, none⟩) n n) n ((dayL n D).map (Value.int .i64)), row 3 1 v' (k + 1) (intsI (((dayL n D).take (k + 1)).map flowF))]) := by
                    show St _ _ _
                    rw [HF1.out]; exact S5
                  clear S5 SQ HQ S
                  go_roundw
                  case rel => exact ⟨k + 1, by omega, by go_num, by rw [HS1.out], by rw [HL1.out], HS5.out⟩
                  case measure => simp [intOf]; omega
                · obtain rfl : n = k := by omega
                  have htake : (dayL n D).take n = dayL n D := List.take_of_length_le (by rw [dayL_len]; omega)
                  rw [htake] at S
                  rw [htake]
                  obtain ⟨fs, hfs⟩ : ∃ fs, (dayL n D).map flowF = fs := ⟨_, rfl⟩
                  obtain ⟨lim, hlim⟩ : ∃ x, limF 1 (dayL n D) = x := ⟨_, rfl⟩
                  have hfl : fs.length = n := by rw [← hfs, List.length_map, dayL_len]
                  have hfb : ∀ f ∈ fs, 1 ≤ f ∧ f ≤ lim := fun f hf => by
                    rw [← hfs] at hf
                    obtain ⟨d, hd, rfl⟩ := List.mem_map.1 hf
                    rw [← hlim]
                    exact ⟨(flow_bd (HDN.out d hd)).1, (limF_ge (dayL n D) 1).2 d hd⟩
                  have hl1 : 1 ≤ lim := by rw [← hlim]; exact (limF_ge (dayL n D) 1).1
                  have hl9 : lim ≤ 9 := by rw [← hlim]; exact limF_le (dayL n D) 1 (by omega) HDN.out
                  rw [hfs] at S
                  rw [hfs, hlim]
                  have HFS := Lib.hid hfl
                  have HFB := Lib.hid hfb
                  have HROU := Lib.hid (rounds_any wr (.slice A4 n c4) n fs lim (S.row_rd (i := 2) rfl).now (by omega) (by omega) hfb)
                  have HRF := Lib.hid (S.row_rd (i := 2) rfl).now
                  have HBW := Lib.hid S.bel
                  have hsb := sumI_bd fs (fun f hf => by have := hfb f hf; omega)
                  rw [hfl] at hsb
                  have hs0 := hsb.1
                  have hs1 : sumI fs ≤ 100 := by omega
                  clear S hfs hlim htake hfl hfb hsb HD HDN hDb HSD HFEV0 HFLV0
                  go_wp2_with fail
                  refine HROU.out.mono ?_
                  rintro e w30 ⟨hb30, v', ks, cc, rfl, hc1, hcn, hkf, hmin, hrd⟩
                  obtain ⟨hkl, hkn, hct1, hctn, hchk, hsum⟩ := rounds_law HFS.out hn1 (fun f hf => by have := HFB.out f hf; omega) hl1 hc1 hcn hkf hmin
                  have HB30 := Lib.hid (HBW.out.trans (hb30.mono HBW.out.size))
                  have HRF2 : Hid (Rd w30 (· < w30.heap.size) 1 (.slice A4 n c4) n (intsI fs)) := HRF.out.later hb30
                  have HRK := Lib.hid hrd
                  have HKL := Lib.hid hkl
                  have HKN := Lib.hid hkn
                  have HCHK := Lib.hid hchk
                  obtain ⟨A5, c5, rfl, _, _, _⟩ := hrd.open_
                  have HBND : Hid (∀ i, i < cntF 0 ks → -100 ≤ loadF fs ks i ∧ loadF fs ks i ≤ 100) := fun i _ => by
                    have h1 := load_bd fs ks i (fun f hf => by have := HFB.out f hf; omega)
                    rw [HFS.out] at h1
                    omega
                  clear hb30 hrd hkl hkn hchk hkf hmin HROU HRF HBW hc1 hcn cc
                  obtain ⟨cnt, hcnt⟩ : ∃ x, cntF 0 ks = x := ⟨_, rfl⟩
                  have HCNT := Lib.hid hcnt
                  rw [hcnt] at hct1 hctn hsum HCHK HBND
                  have HSUM := Lib.hid hsum
                  clear hcnt hsum
                  generalize hss : sumI fs = ss at *
                  clear hss
                  go_wp2_with (at_make; refine wpList_make_st eltI rfl _ _ rfl (n := n) rfl rfl (St.refl w30) (by omega) (by omega) ?_; intro w31 gu S31 _ _)
                  have S32 : St w30 w31 [row 3 1 (.slice (some ⟨gu, 0, none⟩) n n) n (daysV n (fun i => loadF (fs.take 0) (ks.take 0) i))] := by
                    have hmc : (madeCells (Value.int .i64 0).cells (n * 1)).toList = daysV n (fun i => loadF (fs.take 0) (ks.take 0) i) := by
                      have : (fun i => loadF (fs.take 0) (ks.take 0) i) = fun _ => 0 := rfl
                      rw [this, ← daysV_zero]
                      show (madeCells #[.int .i64 0] (n * 1)).toList = _
                      rw [toList_madeCells_one, Nat.mul_one]
                    rw [hmc] at S31
                    exact S31
                  have HS32 := Lib.hid S32
                  clear S31 S32
                  go_loopw [25, 241] (fun cv i w' => ∃ k : Nat, k ≤ n ∧ i = .int .i64 k ∧ cv = .int .i64 (cntF 0 (ks.take k) : Nat) ∧ St w30 w' [row 3 1 (.slice (some ⟨gu, 0, none⟩) n n) n (daysV n (fun i => loadF (fs.take k) (ks.take k) i))]) (fun _ i _ => n - (intOf i).toNat)
                  case atStart => exact ⟨0, Nat.zero_le _, rfl, rfl, HS32.out⟩
                  case round =>
                    obtain ⟨k, hk, rfl, rfl, S⟩ := hrel
                    clear HS32
                    by_cases hlt : k < n
                    · obtain ⟨bk, ok, xk, hAk, hxk, ck0⟩ := (HRK.out.below S.bel).int hlt
                      obtain ⟨bf, of_, xf, hAf, hxf, cf0⟩ := (HRF2.out.below S.bel).int hlt
                      subst hAk
                      subst hAf
                      obtain ⟨kk, hkk, rfl⟩ : ∃ kk, ks[k]? = some kk ∧ (kk : Int) = xk := by
                        rw [natI, List.getElem?_map] at hxk
                        cases h : ks[k]? with
                        | none => rw [h] at hxk; cases hxk
                        | some q => rw [h] at hxk; exact ⟨q, rfl, Option.some.inj hxk⟩
                      have hkn := HKN.out kk (List.mem_of_getElem? hkk)
                      have hfb := HFB.out xf (List.mem_of_getElem? hxf)
                      have hbk : bk < w30.heap.size := by
                        obtain ⟨_, _, hg, hS, _⟩ := HRK.out.addr (by omega)
                        cases hg; exact hS
                      have hbf : bf < w30.heap.size := by
                        obtain ⟨_, _, hg, hS, _⟩ := HRF2.out.addr (by omega)
                        cases hg; exact hS
                      have ht1 := take_at hkk
                      have ht2 := take_at hxf
                      have hlb := load_bd (fs.take k) (ks.take k) kk (fun f hf => by have := HFB.out f (List.mem_of_mem_take hf); omega)
                      rw [List.length_take] at hlb
                      have hlb2 : 0 ≤ loadF (fs.take k) (ks.take k) kk ∧ loadF (fs.take k) (ks.take k) kk ≤ 100 := by omega
                      have hlens : (fs.take k).length = (ks.take k).length := by rw [List.length_take, List.length_take, HFS.out, HKL.out]
                      have HCN1 : Hid (cntF 0 (ks.take (k + 1)) = max (cntF 0 (ks.take k)) (kk + 1)) := by
                        show _ = _
                        rw [ht1]; exact cntF_snoc _ _ _
                      have HLO : Hid (daysV n (Plan.upd (fun i => loadF (fs.take k) (ks.take k) i) kk (loadF (fs.take k) (ks.take k) kk + xf)) = daysV n (fun i => loadF (fs.take (k + 1)) (ks.take (k + 1)) i)) := by
                        show _ = _
                        refine daysV_ext fun x _ => ?_
                        rw [ht1, ht2, load_snoc _ _ _ _ _ hlens]
                        unfold Plan.upd
                        by_cases e : x = kk
                        · subst e; rw [if_pos rfl, if_pos rfl]
                        · rw [if_neg e, if_neg (fun h => e h.symm), Int.add_zero]
                      have hcb := cntF_le (ks.take k) 0 n (Nat.zero_le _) (fun q hq => HKN.out q (List.mem_of_mem_take hq))
                      obtain ⟨g', cap', hv', _, hgW, hglt, hcell, hfz⟩ := S.row_form (i := 0) rfl (by omega)
                      cases hv'
                      have cu := (hcell kk (by omega)).trans (daysV_at hkn)
                      have fu := hfz kk
                      have SZ := S.row_set (i := 0) rfl kk (.int .i64 (loadF (fs.take k) (ks.take k) kk + xf))
                      simp only [List.set_cons_zero] at SZ
                      rw [daysV_set hkn, HLO.out] at SZ
                      generalize loadF (fs.take k) (ks.take k) kk = u at *
                      generalize cntF 0 (ks.take k) = cv at *
                      have HSZ := Lib.hid SZ
                      have q1 : decide ((kk : Int) < 0) = false := by simp
                      have q2 : decide ((n : Int) ≤ (kk : Int)) = false := by simp; omega
                      have q2' : decide (n ≤ kk) = false := by simp; omega
                      clear ht1 ht2 hlb hlens hxk hxf hcell hfz SZ HLO
                      have HS := Lib.hid S
                      clear S
                      go_wp2_with fail
                      refine wp_cls 10 (fun w' => ∃ q, w' = wr.drewN q) (by kernel_rfl) (by kernel_rfl) ⟨1, rfl⟩ ?_
                      simp only [List.take_succ_cons, List.take_zero, List.drop_succ_cons, List.drop_zero]
                      generalize hK : (fun w' => ∃ q, w' = wr.drewN q) = K
                      intro hne
                      have kw : ∀ y : Wd K, ∃ q, y.w = wr.drewN q := by subst hK; exact fun y => y.h
                      have y0 : ∀ y : Wd K, y.w.cell? ⟨gu, kk, none⟩ = some (.int .i64 u) := fun y => by obtain ⟨q, e⟩ := kw y; rw [e]; exact cu
                      have y1 : ∀ y : Wd K, y.w.cell? ⟨bf, of_ + k, none⟩ = some (.int .i64 xf) := fun y => by obtain ⟨q, e⟩ := kw y; rw [e]; exact cf0
                      clear hK
                      repeat (go_big_quiet_step ((fail)))
                      refine wpQuiet_nil ?_
                      intro y
                      obtain ⟨nn, hyn⟩ := kw y
                      have cy : y.w.cell? ⟨gu, kk, none⟩ = some (.int .i64 u) := y0 y
                      have fy : y.w.frozen? ⟨gu, kk, none⟩ = false := by rw [hyn]; exact fu
                      have HSY : Hid (St w30 (y.w.setCell ⟨gu, kk, none⟩ (.int .i64 (u + xf))) [row 3 1 (.slice (some ⟨gu, 0, none⟩) n n) n (daysV n (fun i => loadF (fs.take (k + 1)) (ks.take (k + 1)) i))]) := by
                        rw [hyn]
                        exact HSZ.out.drewN nn
                      clear y0 y1 kw hyn hne cu fu HSZ HS ck0 cf0
                      generalize y.w = w33 at *
                      go_wp2_with fail
                      go_roundw
                      case rel => exact ⟨k + 1, by omega, by go_num, by rw [HCN1.out]; congr 1; omega, HSY.out⟩
                      case measure => simp [intOf]; omega
                    · obtain rfl : n = k := by omega
                      have hk1 : ks.take n = ks := List.take_of_length_le (by rw [HKL.out]; omega)
                      have hk2 : fs.take n = fs := List.take_of_length_le (by rw [HFS.out]; omega)
                      rw [hk1, hk2] at S
                      rw [hk1]
                      rw [HCNT.out]
                      have HS := Lib.hid S
                      clear S hk1 hk2 HKN HKL HFS HFB HCNT HRK
                      have HLD : Hid (∀ i, i < cnt → -100 ≤ loadF fs ks i ∧ loadF fs ks i ≤ 100) := HBND
                      generalize loadF fs ks = ld at *
                      go_wp2_with fail
                      go_loopw [270] (fun i w' => ∃ k : Nat, k ≤ cnt ∧ i = .int .i64 k ∧ St w30 w' [row 3 1 (.slice (some ⟨gu, 0, none⟩) n n) n (daysV n ld)]) (fun i _ => cnt - (intOf i).toNat)
                      case atStart => exact ⟨0, Nat.zero_le _, rfl, HS.out⟩
                      case round =>
                        obtain ⟨i, hi, rfl, S⟩ := hrel
                        clear HS
                        by_cases hlt2 : i < cnt
                        · have hchk := HCHK.out i hlt2
                          have HCK2 := Lib.hid hchk.2
                          have hli := hchk.1
                          have hbi := HLD.out i hlt2
                          have HS := Lib.hid S
                          clear S hchk
                          go_wp2_with fail
                          go_loopw [274] (fun j w' => ∃ k : Nat, k ≤ i ∧ j = .int .i64 k ∧ St w30 w' [row 3 1 (.slice (some ⟨gu, 0, none⟩) n n) n (daysV n ld)]) (fun j _ => i - (intOf j).toNat)
                          case atStart => exact ⟨0, Nat.zero_le _, rfl, HS.out⟩
                          case round =>
                            obtain ⟨k, hk, rfl, S⟩ := hrel
                            clear HS
                            obtain ⟨g', cap', hv', _, _, hglt, hcell, _⟩ := S.row_form (i := 0) rfl (by omega)
                            cases hv'
                            have ci := (hcell i (by omega)).trans (daysV_at (show i < n by omega))
                            have HS := Lib.hid S
                            by_cases hlt3 : k < i
                            · have ck := (hcell k (by omega)).trans (daysV_at (show k < n by omega))
                              have hgt := HCK2.out k hlt3
                              have hbk := HLD.out k (by omega)
                              have hin : i < n := by omega
                              have hkn : k < n := by omega
                              clear hcell S
                              generalize ld i = ui at *
                              generalize ld k = uk at *
                              have q1 : decide (ui + uk ≤ lim) = false := by simp; omega
                              go_wp2_with fail
                              go_quiet (fail)
                              have HSD2 := Lib.hid (HS.out.drewN nq)
                              go_wp2_with fail
                              go_roundw
                              case rel => exact ⟨k + 1, by omega, by go_num, HSD2.out⟩
                              case measure => simp [intOf]; omega
                            · have hin : i < n := by omega
                              clear hcell S
                              generalize ld i = ui at *
                              have q1 : decide (lim < ui) = false := by simp; omega
                              go_wp2_with fail
                              go_roundw
                              case rel => exact ⟨i + 1, by omega, by go_num, HS.out⟩
                              case measure => simp [intOf]; omega
                        · obtain rfl : cnt = i := by omega
                          have HBZ := Lib.hid (HB30.out.trans (S.bel.mono HB30.out.size))
                          have hsum := HSUM.out
                          clear S HSUM HCHK HLD
                          have hml : (cnt : Int) * lim ≤ 54 := by
                            have h1 := Int.mul_le_mul (show (cnt : Int) ≤ 6 by omega) hl9 (by omega) (by omega)
                            omega
                          have hml0 : 0 ≤ (cnt : Int) * lim := Int.mul_nonneg (by omega) (by omega)
                          have hge : decide (ss ≤ (cnt : Int) * lim) = true := by simpa using hsum
                          generalize hm : (cnt : Int) * lim = ml at *
                          have HFI := Lib.hid (fromInt_any wr cnt (by omega))
                          go_wp2_with fail
                          refine HFI.out.mono ?_
                          rintro e w40 ⟨rfl, hb40⟩
                          have HBW := Lib.hid (HBZ.out.trans (hb40.mono HBZ.out.size))
                          have HSI := Lib.hid (sign_dig (cnt : Int) (by omega) w40)
                          clear hb40 HFI HBZ
                          go_wp2_with fail
                          refine HSI.out.mono ?_
                          rintro e w41 ⟨rfl, rfl⟩
                          clear HSI
                          go_wp2_with fail
                          refine (green_any _).mono ?_
                          rintro e w42 ⟨rfl, hbg⟩
                          have HBV := Lib.hid (HBW.out.trans (hbg.mono HBW.out.size))
                          clear hbg HBW
                          go_wp2_with fail
                          go_ret
                          exact ⟨rfl, HBV.out⟩
end Go.Proofs.Ythgkngngmjonkaa
