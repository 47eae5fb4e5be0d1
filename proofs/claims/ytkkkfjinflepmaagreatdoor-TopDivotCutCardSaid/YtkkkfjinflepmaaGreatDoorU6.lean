/- TopDivotCut: the law. -/
import Derived.Test.YtkkkfjinflepmaaGreatDoorV3
import Derived.Test.YtkkkfjinflepmaaGreatDoorB45
import Derived.Test.YtkkkfjinflepmaaGreatDoorB44
import Derived.Test.YtkkkfjinflepmaaGreatDoorB33
set_option linter.unusedVariables false
set_option linter.unusedSimpArgs false
set_option linter.unusedSectionVars false
set_option linter.constructorNameAsVariable false
namespace Go.Proofs.YtkkkfjinflepmaaGreatDoor
open Go.RowKit Go.Mem Go.Sheet Go.Adj
theorem eltRowC : Elt Tryz.prog 54 43 (.slice none 0 0) 1 24 := ⟨Tryz.underlying54, by kernel_rfl, rfl, by decide⟩
set_option maxRecDepth 100000 in
set_option maxHeartbeats 0 in
theorem cutLaw_any (W : World) (v vp : Value) (n m : Nat) (hs : List HI) (ps : List PI) (x : Int) (hx : 0 ≤ x ∧ x ≤ 255) (hbd : m * 48 ≤ 140737488351232) (h : Rd W (· < W.heap.size) 2 v n (hs.flatMap HI.cells)) (hp : RdPl W (· < W.heap.size) vp m ps) :
    Calls Tryz.prog 6 #[.agg #[v, vp], .int .u8 x] W fun e w' => e = .returned (.bool true) ∧ Below W.heap.size W w' := by
  have hn63 := h.le
  obtain ⟨A, c, rfl, _, _, _⟩ := h.open_
  obtain ⟨Ap, cp, rfl, _, _, _⟩ := hp.1.open_
  have H := Lib.hid h
  have HP := Lib.hid hp
  clear h hp
  have S0 := (St.refl W).blk_new #[.slice A n c, .slice Ap m cp] 25
  simp only [List.nil_append] at S0
  have HO := Lib.hid (divotOwn_any _ _ _ n m hs ps hbd (H.out.later S0.bel) (HP.out.later S0.bel))
  obtain ⟨gc, hgc⟩ : ∃ g, g = W.heap.size := ⟨_, rfl⟩
  have d0 := S0.blk_cell (i := 0) rfl 0
  have d1 := S0.blk_cell (i := 0) rfl 1
  rw [← hgc] at S0 d0 d1
  have HS0 := Lib.hid S0
  have HLR : Hid (∀ w', Below W.heap.size W w' → Calls Tryz.prog 9 #[] w' fun e w2 => e = .returned (.bool true) ∧ Below W.heap.size W w2) := fun w' hb => (divotWon_ok w').mono fun e w2 ⟨h1, h2⟩ => ⟨h1, hb.trans (h2.mono hb.size)⟩
  clear S0
  go_enter Tryz.func6, Tryz.ntmps6
  go_wp2_with fail
  rw [← hgc]
  generalize W.alloc (.cells #[.slice A n c, .slice Ap m cp] 25) = w1 at *
  clear hgc
  go_wp2_with fail
  go_at_call 7
  refine HO.out.mono ?_
  rintro e w2 ⟨B, d, rfl, S1⟩
  have S2 := HS0.out.call S1
  simp only [List.cons_append, List.nil_append] at S2
  have HFW := Lib.hid (refFew_n 8 (by omega) _ _ _ n m hs ps (H.out.later S2.bel) ⟨(S2.row_rd (i := 1) rfl).now, fun p hpp => ⟨(HP.out.2 p hpp).1.later S2.bel, (HP.out.2 p hpp).2⟩⟩)
  have HS2 := Lib.hid S2
  clear S1 S2 HS0 HO d0 d1
  go_wp2_with fail
  go_at_call 8
  refine HFW.out.mono ?_
  rintro e w3 ⟨⟨bo, rfl, hgood⟩, hb3⟩
  have S4 := HS2.out.ext hb3
  have S5 := S4.sub (L' := [_]) (.cons_cons _ (List.nil_sublist _))
  have d0 := S5.blk_cell (i := 0) rfl 0
  have d1 := S5.blk_cell (i := 0) rfl 1
  have HS5 := Lib.hid S5
  clear S4 S5 HS2 HFW hb3
  by_cases hbo : bo = false
  · subst hbo
    clear hgood
    go_wp2_with (go_at_call 9; refine (HLR.out _ HS5.out.bel).mono ?_; rintro e w' ⟨rfl, hb2⟩; have HB2 := Lib.hid hb2; clear hb2)
    go_ret
    exact ⟨rfl, HB2.out⟩
  obtain rfl : bo = true := by simpa using hbo
  obtain ⟨g1, hm8, g3⟩ := hgood rfl
  have HG1 := Lib.hid g1
  have HG3 := Lib.hid g3
  clear hgood g1 g3 hbo
  by_cases hn6 : 6 < n
  · have t1 : decide ((6 : Int) < (n : Int)) = true := decide_eq_true (by omega)
    have t1' : decide (6 < n) = true := decide_eq_true hn6
    clear hn6
    go_wp2_with (go_at_call 9; refine (HLR.out _ HS5.out.bel).mono ?_; rintro e w' ⟨rfl, hb2⟩; have HB2 := Lib.hid hb2; clear hb2)
    go_ret
    exact ⟨rfl, HB2.out⟩
  have t1 : decide ((6 : Int) < (n : Int)) = false := decide_eq_false (by omega)
  have t1' : decide (6 < n) = false := decide_eq_false hn6
  clear hn6
  have HDF := Lib.hid (divotField_ok w3 _ _ n m hs ps (by omega) (H.out.later HS5.out.bel) (HP.out.later HS5.out.bel) HG1.out HG3.out)
  go_wp2_with fail
  go_at_call 13
  refine HDF.out.mono ?_
  rintro e w5 ⟨vl, vs, ls, rfl, hlm, hfo, S7⟩
  have S8 := HS5.out.call S7
  simp only [List.cons_append, List.nil_append] at S8
  obtain ⟨Al, cl, rfl, _, _, _⟩ := (S8.row_rd (i := 1) rfl).open_
  obtain ⟨As, cs, rfl, _, _, _⟩ := (S8.row_rd (i := 3) rfl).open_
  obtain ⟨q, hk⟩ : ∃ q, q = ls.length := ⟨_, rfl⟩
  rw [← hk] at S8 ⊢
  have HFO := Lib.hid hfo
  have HKL := Lib.hid hk
  have HGN : Hid (GoodNs (lnNames ls) q) := by
    have h := hfo.nms
    rw [← hk] at h; exact h
  have hq8 : q ≤ 8 := by rw [hk]; omega
  have HS8 := Lib.hid S8
  have hslt : ∀ i, i < q → -9999 ≤ sc ls i ∧ sc ls i ≤ 9999 := fun i hi => by
    have hx := lnAt_get (ls := ls) (i := i) (by omega)
    have := hfo.good _ (List.mem_of_getElem? hx)
    unfold sc; omega
  have HSB := Lib.hid hslt
  clear S7 S8 hfo hk HDF d0 d1 hslt
  by_cases hq0 : q = 0
  · have z0 : ((q : Int) == 0) = true := by simp [hq0]
    have z0' : (q == 0) = true := by simp [hq0]
    clear hq0
    go_wp2_with (go_at_call 9; refine (HLR.out _ HS8.out.bel).mono ?_; rintro e w' ⟨rfl, hb2⟩; have HB2 := Lib.hid hb2; clear hb2)
    go_ret
    exact ⟨rfl, HB2.out⟩
  have z0 : ((q : Int) == 0) = false := by simp; omega
  have z0' : (q == 0) = false := by simp; omega
  have hq1 : 1 ≤ q := by omega
  have HSC0 : Hid (intsI (ls.map LnI.s) = intsI (gl (sc ls) q)) := by
    show intsI _ = intsI _
    congr 1
    apply List.ext_getElem?
    intro i
    unfold gl
    rw [List.getElem?_map, List.getElem?_map]
    rcases Nat.lt_or_ge i q with hi | hi
    · rw [List.getElem?_range hi, lnAt_get (by rw [← HKL.out]; exact hi)]; rfl
    · rw [List.getElem?_eq_none (by rw [← HKL.out]; exact hi), List.getElem?_eq_none (by simpa using hi)]; rfl
  have S9 := (HS8.out.row_nil 43 1).rdAll_new
  simp only [List.cons_append, List.nil_append] at S9
  rw [HSC0.out] at S9
  obtain ⟨f, hf⟩ : ∃ f, f = sc ls := ⟨_, rfl⟩
  rw [← hf] at S9 HSB
  have HF := Lib.hid hf
  clear hf hq0
  have HS9 : Hid (St W w5 [blk gc 25 #[.slice A n c, .slice Ap m cp], row 89 4 (.slice Al q cl) q (ls.flatMap LnI.cells), lnA ls, row 3 1 (.slice As q cs) q (intsI (gl f q)), row 43 1 (.slice none 0 0) 0 (([] : List (Value × List Value)).map Prod.fst), rdAll []]) := S9
  obtain ⟨L0, hL0⟩ : ∃ L0, L0 = [blk gc 25 #[.slice A n c, .slice Ap m cp], row 89 4 (.slice Al q cl) q (ls.flatMap LnI.cells), lnA ls, row 3 1 (.slice As q cs) q (intsI (gl f q))] := ⟨_, rfl⟩
  have HS10 : Hid (St W w5 (L0 ++ [row 43 1 (.slice none 0 0) 0 (([] : List (Value × List Value)).map Prod.fst), rdAll []])) := by rw [hL0]; exact HS9.out
  have HSZ : Hid (∀ w' L, St W w' (L0 ++ L) → ∀ j, j < q → ∃ b o, As = some ⟨b, o, none⟩ ∧ w'.cell? ⟨b, o + j, none⟩ = some (.int .i64 (f j))) := fun w' L h j hj => by
    rw [hL0] at h
    obtain ⟨b, o, y, hA, hy, hc⟩ := Rd.int (q := .i64) (h.row_rd (i := 3) rfl) hj
    rw [gl_at _ hj] at hy
    cases hy
    exact ⟨b, o, hA, hc⟩
  have HSR : Hid (∀ w' L, St W w' (L0 ++ L) → Rd w' (· < w'.heap.size) 1 (.slice As q cs) q (intsI (gl f q))) := fun w' L h => by
    rw [hL0] at h
    exact (h.row_rd (i := 3) rfl).now
  have HRDL : Hid (∀ w' L, St W w' (L0 ++ L) → RdLn w' (· < w'.heap.size) (.slice Al q cl) q ls) := fun w' L h => by
    rw [hL0] at h
    refine ⟨(h.row_rd (i := 1) rfl).now, fun x hx => ?_⟩
    obtain ⟨G, hG, hh⟩ := h.get (i := 2) rfl
    exact (hh x hx).mono fun b hb _ => hb
  have hLen : L0.length = 4 := by rw [hL0]; rfl
  obtain ⟨A0, A1, A2, A3, hLA⟩ : ∃ A0 A1 A2 A3, L0 = [A0, A1, A2, A3] := ⟨_, _, _, _, hL0⟩
  clear S9 HS9 HS8 hL0 hLen
  subst hLA
  have HS11 := HS10.out
  simp only [List.cons_append, List.nil_append] at HS11
  have HS12 := Lib.hid HS11
  clear HS10 HS11
  go_wp2_with fail
  go_loopw [52, 8] (fun i lv w' => ∃ (t : Nat) (ms : List (Value × List Value)), t ≤ q ∧ i = .int .i64 t ∧ Hid (ms.map Prod.snd = (lsts f t).map intsI) ∧ St W w' [A0, A1, A2, A3, row 43 1 lv t (ms.map Prod.fst), rdAll ms]) (fun i _ _ => q - (intOf i).toNat)
  case atStart => exact ⟨0, [], Nat.zero_le _, rfl, rfl, HS12.out⟩
  case round =>
    obtain ⟨t, ms, ht, rfl, hms, S⟩ := hrel
    clear HS12
    by_cases htq : t < q
    · obtain ⟨b, o, hA, c0⟩ := HSZ.out wr _ S t htq
      subst hA
      have HLS : Hid ((lsts f (t + 1)).map intsI = (lsts f t).map intsI ++ [[.int .i64 (f t)]]) := by show _ = _; rw [lsts_snoc, List.map_append]; rfl
      generalize f t = ft at *
      have S1 := S.row_new (e := 3) (size := 1) (n := 1) #[.int .i64 ft] (by unfold maxLen; omega) rfl
      have S2 := S1.freeze5 (L := [_, _, _, _, _]) rfl
      simp only [List.cons_append, List.nil_append] at S2
      have HSG := Lib.hid (S2.alloc (.cells #[.slice (some ⟨wr.heap.size, 0, none⟩) 1 1] 43))
      have HMS := Lib.hid hms.out
      clear S S1 S2 hms
      go_wp2_with (at_builtin; refine wpList_append_st eltRowC rfl _ _ rfl rfl HSG.out (k := 4) rfl rfl (rd_one (by simp)) (one_sl5 _ _ _) (by omega) (by omega) ?_; intro v' w' S' _; simp only [List.set_cons_zero, List.set_cons_succ] at S'; have HS' := Lib.hid S'; clear S')
      go_roundw
      case rel =>
        refine ⟨t + 1, ms ++ [(.slice (some ⟨wr.heap.size, 0, none⟩) 1 1, [.int .i64 ft])], by omega, by go_num, ?_, ?_⟩
        · show _ = _
          rw [List.map_append, HMS.out, HLS.out]; rfl
        · rw [List.map_append]
          exact HS'.out
      case measure => simp [intOf]; omega
    · obtain rfl : q = t := by omega
      have HLL : Hid (∀ w' u L, St W w' (A0 :: A1 :: A2 :: A3 :: row 43 1 u q (ms.map Prod.fst) :: rdAll ms :: L) → RdLL w' (· < w'.heap.size) u q (lsts f q)) := fun w' u L h => by
        refine ⟨ms.map Prod.fst, (h.row_rd (i := 4) rfl).now, lsts_len f q, fun i r hr => ?_⟩
        have e : (ms.map Prod.snd)[i]? = some (intsI r) := by rw [hms.out, List.getElem?_map, hr]; rfl
        rw [List.getElem?_map, Option.map_eq_some_iff] at e
        obtain ⟨⟨v1, x1⟩, h1, h2⟩ := e
        have h2 : x1 = intsI r := h2
        subst h2
        have hrd := h.rdAll_at (i := 5) rfl h1
        rw [show (intsI r).length = r.length from List.length_map ..] at hrd
        exact ⟨v1, by rw [List.getElem?_map, h1]; rfl, hrd⟩
      have hgd := lsts_good (f := f) (q := q) (fun i hi => HSB.out i hi)
      have HRK := Lib.hid (formatRanks_ok wr _ q 1 (lsts f q) ⟨hq1, by omega⟩ hgd (HLL.out wr _ _ S))
      have hrk : gl (rkF 1 (fLL (lsts f q))) q = gl (fun i => (rk0 f q i : Int)) q := by
        unfold gl
        exact List.map_congr_left fun i hi => rank_one (List.mem_range.1 hi)
      rw [hrk] at HRK
      obtain ⟨Av, cv, rfl, _, _, _⟩ := (S.row_rd (i := 4) rfl).open_
      have HS1 := Lib.hid S
      clear S hgd hrk HLL
      go_wp2_with fail
      go_at_call 25
      refine HRK.out.mono ?_
      rintro e w6 ⟨vr, rfl, S6⟩
      have S7 := (HS1.out.call S6).sub (L' := [_, _, _, _, _]) (.cons_cons _ (.cons_cons _ (.cons_cons _ (.cons_cons _ (.cons _ (.cons _ (List.Sublist.refl _)))))))
      obtain ⟨Ar, cr, rfl⟩ := row_some S7 (i := 4) rfl hq1
      have HGL2 : Hid (GoodL ls) := HFO.out.good
      have HLB := Lib.hid (leaderboard_ok w6 _ q ls ⟨hq1, by omega⟩ (HRDL.out w6 _ S7) HGL2.out HGN.out)
      have HS7 := Lib.hid S7
      clear S6 S7 HRK HS1 hms
      go_wp2_with fail
      go_at_call 26
      refine HLB.out.mono ?_
      rintro e w7 ⟨vb, Yb, rfl, hyb, S8⟩
      have S9 := HS7.out.call S8
      simp only [List.cons_append, List.nil_append] at S9
      obtain ⟨gb, cb, rfl, _, _, _, _, _⟩ := S9.row_form (i := 5) rfl (by omega)
      obtain ⟨k, hk⟩ : ∃ k : Nat, k = 1 + (x.tmod 9).toNat := ⟨_, rfl⟩
      have hmod : 0 ≤ x.tmod 9 ∧ x.tmod 9 < 9 := by
        rw [Int.tmod_eq_emod_of_nonneg hx.1]
        exact ⟨Int.emod_nonneg _ (by omega), Int.emod_lt_of_pos _ (by omega)⟩
      have k1 : 1 ≤ k ∧ k ≤ 9 := by omega
      have hx5 : (1 : Int) + x % 9 = (k : Int) := by rw [← Int.tmod_eq_emod_of_nonneg hx.1]; omega
      have X5 := Lib.hid hx5
      have x2 : IntKind.i64.wrap (x % 9) = x % 9 := IntWalk.i64_in _ (by omega)
      have x3 : IntKind.i64.wrap ((1 : Int) + x % 9) = 1 + x % 9 := IntWalk.i64_in _ (by omega)
      have x4 : IntKind.i64.wrap x = x := IntWalk.i64_in _ (by omega)
      clear hx5
      have HCU := Lib.hid (cut_ok w7 _ q k ls ⟨hq1, by omega⟩ ⟨k1.1, by omega⟩ (HRDL.out w7 _ S9) HGL2.out HGN.out)
      have HYB := Lib.hid hyb
      have HS9 := Lib.hid S9
      clear S8 S9 hyb hk hmod HLB HS7
      go_wp2_with fail
      go_at_call 27
      rw [X5.out]
      clear x2 x3 x4
      refine HCU.out.mono ?_
      rintro e w8 ⟨vst, Y, rfl, hcn, hod, S10⟩
      rw [← HF.out] at hcn S10
      have S11 := HS9.out.call S10
      simp only [List.cons_append, List.nil_append] at S11
      have hk1 := k1.1
      have hlt : ∀ l : List Nat, True := fun _ => trivial
      have HQ := Lib.hid (qualify_ok w8 _ q k f Y ⟨hq1, by omega⟩ ⟨k1.1, by omega⟩ HSB.out hod hcn (HSR.out w8 _ S11))
      obtain ⟨at1, hat⟩ : ∃ z, z = Y (min k q - 1) := ⟨_, rfl⟩
      obtain ⟨lst, hlst⟩ : ∃ z, z = selF (fun i => decide (f i ≤ Y (min k q - 1))) q := ⟨_, rfl⟩
      obtain ⟨lin, hlin⟩ : ∃ z, z = selF (inQ f Y q k) q := ⟨_, rfl⟩
      obtain ⟨lti, hlti⟩ : ∃ z, z = selF (tiQ f Y q k) q := ⟨_, rfl⟩
      obtain ⟨lef, hlef⟩ : ∃ z, z = leftQ f Y q k := ⟨_, rfl⟩
      have F1 : ∀ i, i < q → decide (i ∈ lst) = decide (f i ≤ at1) := fun i hi => by
        rw [hlst, hat]
        by_cases h : f i ≤ Y (min k q - 1)
        · rw [decide_eq_true h]; exact decide_eq_true (selF_mem.2 ⟨hi, decide_eq_true h⟩)
        · rw [decide_eq_false h]; exact decide_eq_false fun h1 => h (of_decide_eq_true (selF_mem.1 h1).2)
      have F2 : ∀ i, i < q → decide ((rk0 f q i : Int) ≤ (k : Int)) = decide (f i ≤ at1) := fun i hi => by
        rw [hat]
        have := cut_rank hod hcn hk1 hi
        by_cases h : f i ≤ Y (min k q - 1)
        · rw [decide_eq_true h]; exact decide_eq_true (by have := this.1 h; omega)
        · rw [decide_eq_false h]; exact decide_eq_false (fun h1 => h (this.2 (by omega)))
      have hmem : ∀ (P : Nat → Bool) i, i < q → decide (i ∈ selF P q) = P i := fun P i hi => by
        by_cases h : P i = true
        · rw [h]; exact decide_eq_true (selF_mem.2 ⟨hi, h⟩)
        · rw [Bool.not_eq_true] at h
          rw [h]; exact decide_eq_false fun h1 => by rw [(selF_mem.1 h1).2] at h; cases h
      have F3 : ∀ i, i < q → (decide (i ∈ lin) || decide (i ∈ lti)) = decide (f i ≤ at1) := fun i hi => by
        rw [hlin, hlti, hat, hmem _ i hi, hmem _ i hi]
        exact (cut_in hod hcn hk1 hi).symm
      have F4 : ∀ i, i < q → (decide (i ∈ lin) && decide (i ∈ lti)) = false := fun i hi => by
        rw [hlin, hlti, hmem _ i hi, hmem _ i hi]
        exact inQ_tiQ f Y q k i
      have F5 : lst.length = lin.length + lti.length ∧ (lti.length = 0 ↔ lef = 0) ∧ lin.length + lef ≤ k ∧ (lti.length = 0 ∨ lin.length + lef = k ∧ lef < lti.length) := by
        have hcc := cut_count hod hcn hk1
        rw [hlst, hlin, hlti, hlef, selF_len, selF_len, selF_len]
        refine ⟨hcc.1, hcc.2.1, ?_, hcc.2.2.2⟩
        have := hcc.2.2.1
        split at this <;> omega
      have F6 : lst.length ≤ q := by rw [hlst, selF_len]; exact cN_le _ _
      rw [← hlin, ← hlti, ← hlef] at HQ
      rw [← hlst] at S11
      rw [← hat]
      have HF1 := Lib.hid F1
      have HF2 := Lib.hid F2
      have HF3 := Lib.hid F3
      have HF4 := Lib.hid F4
      have HF5 := Lib.hid F5
      have HF6 := Lib.hid F6
      obtain ⟨Ast, cst, rfl, _, _, _⟩ := (S11.row_rd (i := 6) rfl).open_
      have HS11 := Lib.hid S11
      clear F1 F2 F3 F4 F5 F6 hmem hat hlst hlin hlti hlef hcn hod S10 S11 HCU HS9 hlt
      have HB8 : Hid (lst.length ≤ 8) := by have := HF6.out; show _ ≤ _; omega
      generalize lst.length = nst at *
      go_wp2_with fail
      go_at_call 28
      refine HQ.out.mono ?_
      rintro e w9 ⟨vi, vt, rfl, S12⟩
      have S13 := HS11.out.call S12
      simp only [List.cons_append, List.nil_append] at S13
      obtain ⟨Ai, ci, rfl, _, _, _⟩ := (S13.row_rd (i := 7) rfl).open_
      obtain ⟨At, ct, rfl, _, _, _⟩ := (S13.row_rd (i := 8) rfl).open_
      have HS13 := Lib.hid S13
      generalize lin.length = nin at *
      generalize lti.length = nti at *
      clear S12 S13 HQ HS11
      go_wp2_with fail
      go_loopw [116] (fun i w' => ∃ t : Nat, t ≤ q ∧ i = .int .i64 t ∧ St W w' (A0 :: A1 :: A2 :: A3 :: [row 3 1 (.slice (some ⟨Ar, 0, none⟩) q cr) q (intsI (gl (fun i => (rk0 f q i : Int)) q)), row 80 3 (.slice (some ⟨gb, 0, none⟩) q cb) q (pcs Yb q), row 3 1 (.slice Ast nst cst) nst (natV lst), row 3 1 (.slice Ai nin ci) nin (natV lin), row 3 1 (.slice At nti ct) nti (natV lti)])) (fun i _ => q - (intOf i).toNat)
      case atStart => exact ⟨0, Nat.zero_le _, rfl, HS13.out⟩
      case round =>
        obtain ⟨t, ht, rfl, S⟩ := hrel
        clear HS13
        by_cases htq : t < q
        · obtain ⟨ip, hip, hpe⟩ := HYB.out t htq
          obtain ⟨⟨c0, c1, c2⟩, _⟩ := row_pc S (i := 5) rfl htq
          have c3 : True := trivial
          have c4 : True := trivial
          have c3' : Hid (∀ w' L, St W w' (A0 :: A1 :: A2 :: A3 :: row 3 1 (.slice (some ⟨Ar, 0, none⟩) q cr) q (intsI (gl (fun i => (rk0 f q i : Int)) q)) :: L) → w'.cell? ⟨Ar, ip, none⟩ = some (.int .i64 (rk0 f q ip))) := fun w' L h => (row_int5 h (i := 4) rfl hip).1
          obtain ⟨b, o, hA, _⟩ := HSZ.out wr _ S ip hip
          subst hA
          have c4' : Hid (∀ w' L, St W w' (A0 :: A1 :: A2 :: A3 :: L) → w'.cell? ⟨b, o + ip, none⟩ = some (.int .i64 (f ip))) := fun w' L h => by
            obtain ⟨b', o', hA, hc⟩ := HSZ.out w' _ h ip hip
            cases hA
            exact hc
          have er : (Yb t).r = (rk0 f q ip : Int) := by rw [hpe, HF.out, HKL.out]; exact rkL_rk0 ip
          have es : (Yb t).s = f ip := by rw [hpe, HF.out]; rfl
          have el : (Yb t).l = (ip : Int) := by rw [hpe]; rfl
          rw [el] at c0
          rw [er] at c1
          rw [es] at c2
          clear hpe er es el
          have HS14 := Lib.hid S
          clear S
          obtain ⟨rp, hrp⟩ : ∃ z, z = rk0 f q ip := ⟨_, rfl⟩
          obtain ⟨fp, hfp⟩ : ∃ z, z = f ip := ⟨_, rfl⟩
          rw [← hrp] at c1 c3'
          rw [← hfp] at c2 c4'
          clear hrp hfp
          have y1 : decide ((ip : Int) < 0) = false := decide_eq_false (by omega)
          have y2 : decide ((q : Int) ≤ (ip : Int)) = false := decide_eq_false (by omega)
          have y2' : decide (q ≤ ip) = false := decide_eq_false (by omega)
          have z1 : ((rp : Int) != (rp : Int)) = false := by simp
          have z2 : (fp != fp) = false := by simp
          go_wp2_with fail
          have S15 := HS14.out.blk_new #[.int .i64 (ip : Int), .int .i64 (rp : Int), .int .i64 fp] 80
          simp only [List.cons_append, List.nil_append] at S15
          have d0 := S15.blk_cell (i := 9) rfl 0
          have d1 := S15.blk_cell (i := 9) rfl 1
          have d2 := S15.blk_cell (i := 9) rfl 2
          replace c3 := c3'.out _ _ S15
          replace c4 := c4'.out _ _ S15
          have HS15 := Lib.hid (S15.sub (L' := [_, _, _, _, _, _, _, _, _]) (.cons_cons _ (.cons_cons _ (.cons_cons _ (.cons_cons _ (.cons_cons _ (.cons_cons _ (.cons_cons _ (.cons_cons _ (.cons_cons _ (List.nil_sublist _)))))))))))
          obtain ⟨gp, hgp⟩ : ∃ g, g = wr.heap.size := ⟨_, rfl⟩
          rw [← hgp] at d0 d1 d2 ⊢
          clear S15 c0 c1 c2 c3' c4' hgp HS14
          generalize wr.alloc (.cells #[.int .i64 (ip : Int), .int .i64 (rp : Int), .int .i64 fp] 80) = w10 at *
          go_quiet (fail)
          all_goals
            go_wp2_with fail
            go_roundw
            case rel => exact ⟨t + 1, by omega, by go_num, by first | exact HS15.out.drewN _ | exact (HS15.out.drewN _).drewN _⟩
            case measure => simp [intOf]; omega
        · obtain rfl : q = t := by omega
          have HS16 := Lib.hid S
          clear S
          go_wp2_with fail
          go_loopw [153] (fun i w' => ∃ t : Nat, t ≤ q ∧ i = .int .i64 t ∧ St W w' (A0 :: A1 :: A2 :: A3 :: [row 3 1 (.slice (some ⟨Ar, 0, none⟩) q cr) q (intsI (gl (fun i => (rk0 f q i : Int)) q)), row 80 3 (.slice (some ⟨gb, 0, none⟩) q cb) q (pcs Yb q), row 3 1 (.slice Ast nst cst) nst (natV lst), row 3 1 (.slice Ai nin ci) nin (natV lin), row 3 1 (.slice At nti ct) nti (natV lti)])) (fun i _ => q - (intOf i).toNat)
          case atStart => exact ⟨0, Nat.zero_le _, rfl, HS16.out⟩
          case round =>
            obtain ⟨t, ht, rfl, S⟩ := hrel
            clear HS16
            by_cases htq : t < q
            · obtain ⟨c3, _⟩ := row_int5 S (i := 4) rfl htq
              obtain ⟨b, o, hA, c4⟩ := HSZ.out wr _ S t htq
              subst hA
              have HH1 := Lib.hid (has_any wr _ _ nst t lst (S.row_rd (i := 6) rfl).now)
              have HH2 := Lib.hid (has_any wr _ _ nin t lin (S.row_rd (i := 7) rfl).now)
              have HH3 := Lib.hid (has_any wr _ _ nti t lti (S.row_rd (i := 8) rfl).now)
              have g1 := HF1.out t htq
              have g2 := HF2.out t htq
              have g2' : decide (rk0 f q t ≤ k) = decide (f t ≤ at1) := by rw [← g2]; exact decide_eq_decide.2 (by omega)
              have g3 := HF3.out t htq
              have g4 := HF4.out t htq
              rw [g1] at HH1
              generalize decide (t ∈ lin) = b1 at *
              generalize decide (t ∈ lti) = b2 at *
              generalize rk0 f q t = rp at *
              generalize f t = fp at *
              have HS17 := Lib.hid S
              have g5 : (decide (fp ≤ at1) = true ∧ (b1 = true ∧ b2 = false ∨ b1 = false ∧ b2 = true)) ∨ (decide (fp ≤ at1) = false ∧ b1 = false ∧ b2 = false) := by
                cases b1 <;> cases b2 <;> simp at g3 g4 ⊢ <;> omega
              clear S g1 g3 g4
              rcases g5 with ⟨y1, ⟨rfl, rfl⟩ | ⟨rfl, rfl⟩⟩ | ⟨y1, rfl, rfl⟩
              · rw [y1] at g2 g2' HH1
                go_wp2_with fail
                go_at_call 29
                refine HH1.out.mono ?_
                rintro e w' ⟨rfl, rfl⟩
                go_wp2_with fail
                go_at_call 29
                refine HH2.out.mono ?_
                rintro e w' ⟨rfl, rfl⟩
                go_wp2_with fail
                go_at_call 29
                refine HH2.out.mono ?_
                rintro e w' ⟨rfl, rfl⟩
                go_wp2_with fail
                go_at_call 29
                refine HH3.out.mono ?_
                rintro e w' ⟨rfl, rfl⟩
                go_wp2_with fail
                go_roundw
                case rel => exact ⟨t + 1, by omega, by go_num, HS17.out⟩
                case measure => simp [intOf]; omega
              · rw [y1] at g2 g2' HH1
                go_wp2_with fail
                go_at_call 29
                refine HH1.out.mono ?_
                rintro e w' ⟨rfl, rfl⟩
                go_wp2_with fail
                go_at_call 29
                refine HH2.out.mono ?_
                rintro e w' ⟨rfl, rfl⟩
                go_wp2_with fail
                go_at_call 29
                refine HH3.out.mono ?_
                rintro e w' ⟨rfl, rfl⟩
                go_wp2_with fail
                go_at_call 29
                refine HH2.out.mono ?_
                rintro e w' ⟨rfl, rfl⟩
                go_wp2_with fail
                go_roundw
                case rel => exact ⟨t + 1, by omega, by go_num, HS17.out⟩
                case measure => simp [intOf]; omega
              · rw [y1] at g2 g2' HH1
                go_wp2_with fail
                go_at_call 29
                refine HH1.out.mono ?_
                rintro e w' ⟨rfl, rfl⟩
                go_wp2_with fail
                go_at_call 29
                refine HH2.out.mono ?_
                rintro e w' ⟨rfl, rfl⟩
                go_wp2_with fail
                go_at_call 29
                refine HH3.out.mono ?_
                rintro e w' ⟨rfl, rfl⟩
                go_wp2_with fail
                go_at_call 29
                refine HH2.out.mono ?_
                rintro e w' ⟨rfl, rfl⟩
                go_wp2_with fail
                go_roundw
                case rel => exact ⟨t + 1, by omega, by go_num, HS17.out⟩
                case measure => simp [intOf]; omega
            · obtain rfl : q = t := by omega
              have HS17 := Lib.hid S
              clear S
              have w1 : IntKind.i64.wrap ((nin : Int) + (nti : Int)) = (nin : Int) + (nti : Int) := IntWalk.i64_in _ (by have := HF5.out.1; have := HB8.out; omega)
              have w2' : IntKind.i64.wrap ((nin : Int) + (lef : Int)) = (nin : Int) + (lef : Int) := IntWalk.i64_in _ (by have := HF5.out.2.2.1; omega)
              have n1 : ((nst : Int) == (nin : Int) + (nti : Int)) = true := by have := HF5.out.1; simp; omega
              have n2 : decide ((nin : Int) + (lef : Int) ≤ (k : Int)) = true := decide_eq_true (by have := HF5.out.2.2.1; omega)
              by_cases hti : nti = 0
              · have hle : lef = 0 := HF5.out.2.1.1 hti
                have n3 : ((nti : Int) == 0) = true := by simp [hti]
                have n4 : ((lef : Int) == 0) = true := by simp [hle]
                clear hti hle
                go_wp2_with (go_at_call 9; refine (HLR.out _ HS17.out.bel).mono ?_; rintro e w' ⟨rfl, hb2⟩; have HB2 := Lib.hid hb2; clear hb2)
                go_ret
                exact ⟨rfl, HB2.out⟩
              · have n3 : ((nti : Int) == 0) = false := by simp [hti]
                have n4 : ((lef : Int) == 0) = false := by have := HF5.out.2.1; simp; omega
                have n5 : ((nin : Int) + (lef : Int) == (k : Int)) = true := by have := HF5.out.2.2.2; simp; omega
                have n6 : decide ((lef : Int) < (nti : Int)) = true := decide_eq_true (by have := HF5.out.2.2.2; omega)
                have n6' : decide (lef < nti) = true := decide_eq_true (by have := HF5.out.2.2.2; omega)
                have n3' : (nti == 0) = false := by simp [hti]
                have n4' : (lef == 0) = false := by have := HF5.out.2.1; simp; omega
                clear hti
                go_wp2_with (go_at_call 9; refine (HLR.out _ HS17.out.bel).mono ?_; rintro e w' ⟨rfl, hb2⟩; have HB2 := Lib.hid hb2; clear hb2)
                go_ret
                exact ⟨rfl, HB2.out⟩
end Go.Proofs.YtkkkfjinflepmaaGreatDoor
