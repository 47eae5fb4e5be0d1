/- Part 20 of the walks of the golf union's program: UF22, UF23, UF24, UF25, UF26, UF1, UF2, UF3, UF4, UF5, UF6. -/
import Derived.Test.YtnaafefcijgpkaaGreatDoorB19
import Derived.Test.YtnaafefcijgpkaaGreatDoorB17
import Derived.Laws.Cover1
set_option linter.unusedVariables false
set_option linter.unusedSimpArgs false
set_option linter.unusedSectionVars false
set_option linter.constructorNameAsVariable false
/- The board of a follower: board, with Follow's closure. -/
namespace Go.Proofs.YtnaafefcijgpkaaGreatDoor
open Go.RowKit Go.Mem Go.Sheet Go.Adj
set_option maxRecDepth 100000 in
set_option maxHeartbeats 8000000 in
theorem uBoardF_any (W : World) (u : UI) (E : Nat → List EI) (gp : Nat) (hnm : u.nm ≤ 19) (hnh : u.nh ≤ 36) (hgh : u.nh = 0 ∨ GoodH u.hs) (hco : ∀ i, i < u.nm → -99 ≤ (mbAt u.ms i).co ∧ (mbAt u.ms i).co ≤ 99) (hge : ∀ k, k < u.nm → ∀ i, i < u.nh → GoodE (eAt (E k) i)) (h : RdU W (· < W.heap.size) u)
    (hcl : ∀ k, k < u.nm → ∀ w, Below W.heap.size W w → Calls Tryz.prog 41 (#[.string (mbAt u.ms k).name] ++ #[.pointer (some ⟨gp, 0, none⟩)]) w fun e w' => ∃ v, e = .returned v ∧ Below w.heap.size w w' ∧ Rd w' (· < w'.heap.size) 2 v u.nh ((E k).flatMap EI.cells)) :
    Calls Tryz.prog 22 #[u.val, .func (.func 41) #[] #[.pointer (some ⟨gp, 0, none⟩)]] W fun e w' => ∃ v, e = .returned v ∧ St W w' [row 44 3 v (brdN u E) (pcS (brdF u E) (brdN u E))] := by
  have HCL := Lib.hid hcl
  have HSTA : Hid (∀ k, k < u.nm → ∀ w v, Below W.heap.size W w → Rd w (· < w.heap.size) 2 v u.nh ((E k).flatMap EI.cells) → Calls Tryz.prog 54 #[u.val, .agg #[.string (mbAt u.ms k).name, .string (mbAt u.ms k).club, .int .i64 (mbAt u.ms k).co], v] w fun e w' => e = .returned (.agg #[.string (mbAt u.ms k).name, .int .i64 (sdE u E k).th, .int .i64 (sdE u E k).par]) ∧ Below w.heap.size w w') := Lib.hid (fun k hk w v hb hr => uStanding_any w u _ v _ (hco k hk) hgh (hge k hk) (h.later hb) hr)
  have HMS : Hid (∀ w, Below W.heap.size W w → Rd w (· < w.heap.size) 3 u.vm u.nm (u.ms.flatMap MbI.cells)) := fun w hb => h.m.later hb
  have HTH : Hid (∀ a, thOk 36 (brd0 u E a)) := Lib.hid (fun a => by
    have := sd_th u E ((onE u E u.nm).getD a 0)
    unfold thOk brd0
    omega)
  have HLE := Lib.hid (onE_len u E)
  have HBN : Hid ((onE u E u.nm).length = brdN u E) := Lib.hid rfl
  have HBF : Hid (brdF u E = insG ordS (brd0 u E) (brdN u E)) := Lib.hid rfl
  have HBR : Hid ((onE u E u.nm).flatMap (fun j => (sdE u E j).cells) = pcS (brd0 u E) (brdN u E)) := Lib.hid (on_pcs u E)
  have HON0 : Hid (onE u E 0 = []) := Lib.hid rfl
  have HY1 : Hid (∀ k, 0 < (sdE u E k).th → onE u E (k + 1) = onE u E k ++ [k]) := Lib.hid (fun k h0 => by show (if _ then _ else _) = _; rw [if_pos h0])
  have HY2 : Hid (∀ k, ¬ 0 < (sdE u E k).th → onE u E (k + 1) = onE u E k) := Lib.hid (fun k h0 => by show (if _ then _ else _) = _; rw [if_neg h0])
  have HSN : Hid (∀ k, (sdE u E k).name = (mbAt u.ms k).name) := Lib.hid (fun k => rfl)
  obtain ⟨Am, cm, em, _, _, _⟩ := h.m.open_
  clear h hcl hgh hco hge
  generalize onE u E = ON at *
  generalize sdE u E = SD at *
  generalize brd0 u E = B0 at *
  generalize brdN u E = BN at *
  generalize brdF u E = BF at *
  obtain ⟨vc, nc, cl, vm, nm, ms, vh, nh, hs, vk, nk, ks, vs, ns, sg, vp, np, ps⟩ := u
  simp only [UI.val] at *
  subst em
  have S0 := ((St.refl W).blk_new #[vc, .slice Am nm cm, vh, vk, vs, vp] 28).row_nil 44 3
  simp only [List.cons_append, List.nil_append] at S0
  obtain ⟨gb, hgb⟩ : ∃ g, g = W.heap.size := ⟨_, rfl⟩
  rw [← hgb] at S0
  have d1 := S0.blk_cell (i := 0) rfl 1
  have HS0 := Lib.hid S0
  clear S0
  have hE := enters Tryz.func41 (by kernel_rfl) rfl
  unfold Enters at hE
  go_enter Tryz.func22, Tryz.ntmps22
  go_wp2_with fail
  rw [← hgb]
  generalize W.alloc (.cells #[vc, .slice Am nm cm, vh, vk, vs, vp] 28) = w1 at *
  clear hgb
  go_loopw [12, 5] (fun i lv w' => ∃ (k m : Nat) (Bl : Option Addr) (dl : Nat), k ≤ nm ∧ m ≤ k ∧ i = .int .i64 k ∧ lv = .slice Bl m dl ∧ Hid ((ON k).length = m) ∧ St W w' [blk gb 28 #[vc, .slice Am nm cm, vh, vk, vs, vp], row 44 3 (.slice Bl m dl) m ((ON k).flatMap fun j => (SD j).cells)]) (fun i _ _ => nm - (intOf i).toNat)
  case atStart =>
    refine ⟨0, 0, none, 0, Nat.zero_le _, Nat.le_refl _, rfl, rfl, Lib.hid (by rw [HON0.out]; rfl), ?_⟩
    rw [HON0.out]
    exact HS0.out
  case round =>
    obtain ⟨k, m, Bl, dl, hk, hmk, rfl, rfl, hml, S⟩ := hrel
    clear HS0 d1
    by_cases hlt : k < nm
    · obtain ⟨b, o, rfl, hx, c0, c1, c2⟩ := rd_mb (HMS.out wr S.bel) hlt
      have HCL1 : Hid (∀ w, Below W.heap.size W w → Calls Tryz.prog 41 (#[.string (mbAt ms k).name] ++ #[.pointer (some ⟨gp, 0, none⟩)]) w fun e w' => ∃ v, e = .returned v ∧ Below w.heap.size w w' ∧ Rd w' (· < w'.heap.size) 2 v nh ((E k).flatMap EI.cells)) := Lib.hid (fun w hb => HCL.out k hlt w hb)
      have HSTD := Lib.hid (fun w v hb hr => HSTA.out k hlt w v hb hr)
      have HYES : Hid (0 < (SD k).th → (ON (k + 1)).length = m + 1 ∧ (ON (k + 1)).flatMap (fun j => (SD j).cells) = (ON k).flatMap (fun j => (SD j).cells) ++ [.string (mbAt ms k).name, .int .i64 (SD k).th, .int .i64 (SD k).par]) := Lib.hid (fun h0 => by
        rw [HY1.out k h0, List.length_append, hml.out, List.flatMap_append]
        refine ⟨rfl, ?_⟩
        rw [← HSN.out k]
        simp [SdI.cells])
      have HNOT := Lib.hid (HY2.out k)
      generalize (SD k).th = th at *
      generalize (SD k).par = pa at *
      clear hx
      generalize mbAt ms k = x at *
      obtain ⟨xn, xc, xo⟩ := x
      simp only at c0 c1 c2 HCL1 HSTD HYES
      have SA := S.blk_new #[.string xn, .string xc, .int .i64 xo] 52
      simp only [List.cons_append, List.nil_append] at SA
      have HS := Lib.hid SA
      clear S SA
      go_wp2_with fail
      clear c0 c1 c2
      generalize wr.heap.size = gx at *
      generalize wr.alloc (.cells #[.string xn, .string xc, .int .i64 xo] 52) = w3 at *
      refine wp_head_tail3 0 8 3 [] [0, 1, 2, 3, 4] rfl (fun w' => St W w' [blk gb 28 #[vc, .slice (some ⟨b, o, none⟩) nm cm, vh, vk, vs, vp], row 44 3 (.slice Bl m dl) m ((ON k).flatMap fun j => (SD j).cells), blk gx 52 #[.string xn, .string xc, .int .i64 xo]])
        (fun a a' w' => ∃ (gk : Nat) (v : Value), a' = ((a.put (some 21) v).put (some 22) (.agg #[.string xn, .int .i64 th, .int .i64 pa])).put (some 8) (.pointer (some ⟨gk, 0, none⟩)) ∧ St W w' [blk gb 28 #[vc, .slice (some ⟨b, o, none⟩) nm cm, vh, vk, vs, vp], row 44 3 (.slice Bl m dl) m ((ON k).flatMap fun j => (SD j).cells), blk gx 52 #[.string xn, .string xc, .int .i64 xo], blk gk 44 #[.string ⟨#[]⟩, .int .i64 0, .int .i64 0]]) (by kernel_rfl) (by kernel_rfl) HS.out.drew ?_
      simp only [pick, List.filterMap_cons, List.filterMap_nil, List.getElem?_toArray, List.getElem?_cons_succ, List.getElem?_cons_zero]
      have HSD := Lib.hid HS.out.drew
      generalize hK : (fun w' : World => St W w' [blk gb 28 #[vc, .slice (some ⟨b, o, none⟩) nm cm, vh, vk, vs, vp], row 44 3 (.slice Bl m dl) m ((ON k).flatMap fun j => (SD j).cells), blk gx 52 #[.string xn, .string xc, .int .i64 xo]]) = K
      have kS : ∀ y : Wd K, St W y.w [blk gb 28 #[vc, .slice (some ⟨b, o, none⟩) nm cm, vh, vk, vs, vp], row 44 3 (.slice Bl m dl) m ((ON k).flatMap fun j => (SD j).cells), blk gx 52 #[.string xn, .string xc, .int .i64 xo]] := by subst hK; exact fun y => y.h
      have hne : Nonempty (Wd K) := ⟨⟨_, by subst hK; exact HSD.out⟩⟩
      have hKd : ∀ (w' : World) (M : List Asr), St W w' ([blk gb 28 #[vc, .slice (some ⟨b, o, none⟩) nm cm, vh, vk, vs, vp], row 44 3 (.slice Bl m dl) m ((ON k).flatMap fun j => (SD j).cells), blk gx 52 #[.string xn, .string xc, .int .i64 xo]] ++ M) → K w' := by
        intro w' M h
        subst hK
        exact h.sub (List.sublist_append_left _ _)
      have k0 : ∀ y : Wd K, y.w.cell? ⟨gb, 0, none⟩ = some (vc) := fun y => (kS y).blk_cell (i := 0) rfl 0
      have k1 : ∀ y : Wd K, y.w.cell? ⟨gb, 1, none⟩ = some (Value.slice (some ⟨b, o, none⟩) nm cm) := fun y => (kS y).blk_cell (i := 0) rfl 1
      have k2 : ∀ y : Wd K, y.w.cell? ⟨gb, 2, none⟩ = some (vh) := fun y => (kS y).blk_cell (i := 0) rfl 2
      have k3 : ∀ y : Wd K, y.w.cell? ⟨gb, 3, none⟩ = some (vk) := fun y => (kS y).blk_cell (i := 0) rfl 3
      have k4 : ∀ y : Wd K, y.w.cell? ⟨gb, 4, none⟩ = some (vs) := fun y => (kS y).blk_cell (i := 0) rfl 4
      have k5 : ∀ y : Wd K, y.w.cell? ⟨gb, 5, none⟩ = some (vp) := fun y => (kS y).blk_cell (i := 0) rfl 5
      have k6 : ∀ y : Wd K, y.w.cell? ⟨gx, 0, none⟩ = some (.string xn) := fun y => (kS y).blk_cell (i := 2) rfl 0
      have k7 : ∀ y : Wd K, y.w.cell? ⟨gx, 1, none⟩ = some (.string xc) := fun y => (kS y).blk_cell (i := 2) rfl 1
      have k8 : ∀ y : Wd K, y.w.cell? ⟨gx, 2, none⟩ = some (.int .i64 xo) := fun y => (kS y).blk_cell (i := 2) rfl 2
      clear hK
      generalize (w3).drew = w0 at *
      refine wpQuiet_nil ?_
      change wpQuiet _ _ _ _ (_ :: _ :: _ :: _ :: _ :: []) _
      repeat (go_big_quiet_step ((fail)))
      refine wpQuiet_nil ?_
      clear kS k0 k1 k2 k3 k4 k5 k6 k7 k8
      have S := HSD.out
      clear HS HSD
      refine ⟨?_, ?_⟩
      · as_aux_lemma =>
        refine headW_all (rs := [5, 7]) (by kernel_rfl) (by decide) (by decide) (List.forall_mem_cons.2 ⟨?_, List.forall_mem_cons.2 ⟨?_, List.forall_mem_nil _⟩⟩)
        · as_aux_lemma =>
          refine wpOp_list (o := _) rfl ?_
          intro Q' hQ'
          go_wp2_with fail
          refine (HCL1.out _ S.bel).mono ?_
          rintro e w5 ⟨v, rfl, hb, hr⟩
          obtain ⟨Bv, dv, rfl, _, _, _⟩ := hr.open_
          have HR := Lib.hid hr
          have S := S.ext hb
          clear hb hr
          go_wp2_with fail
          refine ⟨hKd _ _ S, ?_⟩
          refine headW_all (rs := [6, 7]) (by kernel_rfl) (by decide) (by decide) (List.forall_mem_cons.2 ⟨?_, List.forall_mem_cons.2 ⟨?_, List.forall_mem_nil _⟩⟩)
          · as_aux_lemma =>
            refine wpOp_list (o := _) rfl ?_
            intro Q' hQ'
            have HSW := Lib.hid (HSTD.out _ _ S.bel HR.out)
            go_wp2_with (go_at_call 54; refine HSW.out.mono ?_; rintro e w6 ⟨rfl, hb⟩; have HB6 := Lib.hid hb; clear hb)
            have S := S.ext HB6.out
            clear HSW HB6
            refine ⟨hKd _ _ S, ?_⟩
            refine headW_all (rs := [7]) (by kernel_rfl) (by decide) (by decide) (List.forall_mem_cons.2 ⟨?_, List.forall_mem_nil _⟩)
            refine wpOp_list (o := _) rfl ?_
            intro Q' hQ'
            have SA := S.blk_new #[.string ⟨#[]⟩, .int .i64 0, .int .i64 0] 44
            simp only [List.cons_append, List.nil_append] at SA
            go_wp2_with fail
            clear S
            have HR := Lib.hid (HR.out.later ((Below.refl _ _).alloc (Nat.le_refl _) (.cells #[.string ⟨#[]⟩, .int .i64 0, .int .i64 0] 44)))
            generalize Array.size _ = gk at SA ⊢
            generalize World.alloc _ _ = wx at *
            have S := SA
            clear SA
            refine ⟨hKd _ _ S, ?_⟩
            exact ⟨by kernel_rfl, gk, .slice Bv nh dv, by kernel_rfl, S⟩
          · as_aux_lemma =>
            refine wpOp_list (o := _) rfl ?_
            intro Q' hQ'
            have SA := S.blk_new #[.string ⟨#[]⟩, .int .i64 0, .int .i64 0] 44
            simp only [List.cons_append, List.nil_append] at SA
            go_wp2_with fail
            clear S
            have HR := Lib.hid (HR.out.later ((Below.refl _ _).alloc (Nat.le_refl _) (.cells #[.string ⟨#[]⟩, .int .i64 0, .int .i64 0] 44)))
            generalize Array.size _ = gk at SA ⊢
            generalize World.alloc _ _ = wx at *
            have S := SA
            clear SA
            refine ⟨hKd _ _ S, ?_⟩
            refine headW_all (rs := [6]) (by kernel_rfl) (by decide) (by decide) (List.forall_mem_cons.2 ⟨?_, List.forall_mem_nil _⟩)
            refine wpOp_list (o := _) rfl ?_
            intro Q' hQ'
            have HSW := Lib.hid (HSTD.out _ _ S.bel HR.out)
            go_wp2_with (go_at_call 54; refine HSW.out.mono ?_; rintro e w6 ⟨rfl, hb⟩; have HB6 := Lib.hid hb; clear hb)
            have S := S.ext HB6.out
            clear HSW HB6
            refine ⟨hKd _ _ S, ?_⟩
            exact ⟨by kernel_rfl, gk, .slice Bv nh dv, by kernel_rfl, S⟩
        · as_aux_lemma =>
          refine wpOp_list (o := _) rfl ?_
          intro Q' hQ'
          have SA := S.blk_new #[.string ⟨#[]⟩, .int .i64 0, .int .i64 0] 44
          simp only [List.cons_append, List.nil_append] at SA
          go_wp2_with fail
          clear S
          generalize Array.size _ = gk at SA ⊢
          generalize World.alloc _ _ = wx at *
          have S := SA
          clear SA
          refine ⟨hKd _ _ S, ?_⟩
          refine headW_all (rs := [5]) (by kernel_rfl) (by decide) (by decide) (List.forall_mem_cons.2 ⟨?_, List.forall_mem_nil _⟩)
          refine wpOp_list (o := _) rfl ?_
          intro Q' hQ'
          go_wp2_with fail
          refine (HCL1.out _ S.bel).mono ?_
          rintro e w5 ⟨v, rfl, hb, hr⟩
          obtain ⟨Bv, dv, rfl, _, _, _⟩ := hr.open_
          have HR := Lib.hid hr
          have S := S.ext hb
          clear hb hr
          go_wp2_with fail
          refine ⟨hKd _ _ S, ?_⟩
          refine headW_all (rs := [6]) (by kernel_rfl) (by decide) (by decide) (List.forall_mem_cons.2 ⟨?_, List.forall_mem_nil _⟩)
          refine wpOp_list (o := _) rfl ?_
          intro Q' hQ'
          have HSW := Lib.hid (HSTD.out _ _ S.bel HR.out)
          go_wp2_with (go_at_call 54; refine HSW.out.mono ?_; rintro e w6 ⟨rfl, hb⟩; have HB6 := Lib.hid hb; clear hb)
          have S := S.ext HB6.out
          clear HSW HB6
          refine ⟨hKd _ _ S, ?_⟩
          exact ⟨by kernel_rfl, gk, .slice Bv nh dv, by kernel_rfl, S⟩
      · rintro a' w9 ⟨gk, v9, rfl, S9⟩
        have S4 := S9.blk_row (i := 3) rfl #[.string xn, .int .i64 th, .int .i64 pa]
        simp only [List.set_cons_zero, List.set_cons_succ] at S4
        have HS4 := Lib.hid S4
        refine wpList_store_row rfl 44 (.tmp 8) (.tmp 22) rfl gk #[.string xn, .int .i64 th, .int .i64 pa] rfl rfl 44 _ (S9.blk_at (i := 3) rfl).2.2 (by kernel_rfl) rfl (by simp [Value.oneCell']) ?_
        clear S4 S9 HCL1 HSTD
        generalize World.setRow _ _ _ = w4 at *
        go_wp2_with fail
        refine NoPanic.normal ?_
        have q0 := HS4.out.blk_cell (i := 3) rfl 0
        have q1 := HS4.out.blk_cell (i := 3) rfl 1
        have q2 := HS4.out.blk_cell (i := 3) rfl 2
        by_cases hth : 0 < th
        · have t1 : decide (0 < th) = true := decide_eq_true hth
          have HN := Lib.hid (HYES.out hth)
          clear hth
          go_wp2_with (at_builtin; refine wpList_append_st eltSd rfl _ _ rfl rfl (HS4.out.alloc _) (k := 1) rfl rfl (rd_three (by simp)) (one_sd _ _ _) (by omega) (by omega) ?_; intro v' w5 S5 _; simp only [List.set_cons_succ, List.set_cons_zero] at S5; obtain ⟨B2, d2, rfl, _, _, _⟩ := (S5.row_rd (i := 1) rfl).open_; have HS5 := Lib.hid (S5.sub (L' := [_, _]) (List.sublist_append_left [_, _] [_, _])); clear S5)
          go_roundw
          case rel =>
            refine ⟨k + 1, m + 1, B2, d2, by omega, by omega, by go_num, rfl, HN.out.1, ?_⟩
            rw [HN.out.2]
            exact HS5.out
          case measure => simp [intOf]; omega
        · have t1 : decide (0 < th) = false := decide_eq_false hth
          have HN := Lib.hid (HNOT.out (by omega))
          have HS5 := Lib.hid (HS4.out.sub (L' := [_, _]) (List.sublist_append_left [_, _] [_, _]))
          clear hth
          go_wp2_with fail
          go_roundw
          case rel =>
            refine ⟨k + 1, m, Bl, dl, by omega, by omega, by go_num, rfl, ?_, ?_⟩
            · rw [HN.out]; exact hml.out
            · rw [HN.out]; exact HS5.out
          case measure => simp [intOf]; omega
    · obtain rfl : nm = k := by omega
      rw [HBR.out] at S
      have hmb : m = BN := by rw [← hml.out]; exact HBN.out
      subst hmb
      have HF := Lib.hid (fun g (e : Bl = some ⟨g, 0, none⟩) => sortS_any W wr [blk gb 28 #[vc, .slice Am nm cm, vh, vk, vs, vp], row 44 3 (.slice (some ⟨g, 0, none⟩) m dl) m (pcS B0 m)] 1 g dl m ordS (thOk 36) B0 (by omega) (e ▸ S) rfl (fun a _ => HTH.out a) (fun x y hx hy => board1_ord (Nat.le_refl _) x y hx hy))
      rcases Nat.eq_zero_or_pos m with h0 | h0
      · subst h0
        have HS := Lib.hid (S.sub (L' := [_]) (.cons _ (List.Sublist.refl _)))
        have HZ := Lib.hid (fun A c w => sortS_0 A c w)
        clear S HF
        go_wp2_with fail
        go_at_call 55
        refine (HZ.out _ _ _).mono ?_
        rintro e w' ⟨rfl, rfl⟩
        go_wp2_with fail
        go_ret
        refine ⟨_, rfl, ?_⟩
        rw [HBF.out]
        exact HS.out
      · obtain ⟨g, cap, hv, _⟩ := S.row_form (i := 1) rfl h0
        cases hv
        have HF2 := Lib.hid (HF.out g rfl)
        clear S HF
        go_wp2_with fail
        go_at_call 55
        refine HF2.out.mono ?_
        rintro e w' ⟨rfl, hs⟩
        simp only [List.set_cons_succ, List.set_cons_zero] at hs
        rw [← HBF.out] at hs
        have HS := Lib.hid (hs.sub (L' := [_]) (.cons _ (List.Sublist.refl _)))
        clear hs HF2
        go_wp2_with fail
        go_ret
        exact ⟨_, rfl, HS.out⟩
end Go.Proofs.YtnaafefcijgpkaaGreatDoor
/- A map of strings to rows of entries; the rows in a family. -/
namespace Go.Mem
open Go.RowKit Go.MapKept Go.Adj
/-- a map whose keys are the first k names, each with its value -/
def entV (f : Nat → ByteArray) (V : Nat → Value) (k : Nat) : Array MapEntry := ((List.range k).map fun i => ({ key := .string (f i), val := V i, born := i } : MapEntry)).toArray
theorem entV_push (f : Nat → ByteArray) (V : Nat → Value) (k : Nat) : (entV f V k).push { key := .string (f k), val := V k, born := k } = entV f V (k + 1) := by
  unfold entV
  rw [List.range_succ, List.map_append]
  simp
theorem entV_congr (f : Nat → ByteArray) (V V' : Nat → Value) (k : Nat) (h : ∀ i, i < k → V i = V' i) : entV f V k = entV f V' k := by
  unfold entV
  congr 1
  refine List.map_congr_left fun i hi => ?_
  rw [h i (List.mem_range.1 hi)]
theorem same_str {key z : ByteArray} (h : z ≠ key) : Instr.sameNow .string (.string key) (.string z) = some false := by
  show some (key == z) = some false
  have hb : (key == z) = false := by
    rw [Bool.eq_false_iff]
    intro e
    apply h
    obtain ⟨d⟩ := key
    obtain ⟨d'⟩ := z
    have : (d == d') = true := e
    rw [eq_of_beq this]
  rw [hb]
theorem same_str2 (key : ByteArray) : Instr.sameNow .string (.string key) (.string key) = some true := by
  show some (key == key) = some true
  have : (key == key) = true := by
    obtain ⟨d⟩ := key
    exact beq_self_eq_true d
  rw [this]
theorem ent_none {f : Nat → ByteArray} {V : Nat → Value} {key : ByteArray} : ∀ (l : List Nat) (j : Nat), (∀ i ∈ l, f i ≠ key) → Instr.findNow .string (.string key) (l.map fun i => ({ key := .string (f i), val := V i, born := i } : MapEntry)) j = some none
  | [], _, _ => rfl
  | i :: l, j, h => by
    rw [List.map_cons, Instr.findNow]
    simp only [same_str (h i (by simp))]
    exact ent_none l (j + 1) fun i hi => h i (by simp [hi])
theorem entV_none {f : Nat → ByteArray} {V : Nat → Value} {key : ByteArray} {k : Nat} (h : ∀ i, i < k → f i ≠ key) : Instr.findNow .string (.string key) (entV f V k).toList 0 = some none := by
  unfold entV
  exact ent_none _ 0 fun i hi => h i (List.mem_range.1 hi)
theorem ent_some {f : Nat → ByteArray} {V : Nat → Value} {key : ByteArray} {v : Value} : ∀ (l : List Nat) (j : Nat), (∃ i ∈ l, f i = key) → (∀ i ∈ l, f i = key → V i = v) → ∃ q, Instr.findNow .string (.string key) (l.map fun i => ({ key := .string (f i), val := V i, born := i } : MapEntry)) j = some (some (q, v))
  | [], _, h, _ => by obtain ⟨i, hi, _⟩ := h; cases hi
  | i :: l, j, h, hv => by
    rw [List.map_cons, Instr.findNow]
    by_cases e : f i = key
    · subst e
      simp only [same_str2]
      exact ⟨j, by rw [hv i (by simp) rfl]⟩
    · simp only [same_str e]
      refine ent_some l (j + 1) ?_ fun i hi => hv i (by simp [hi])
      obtain ⟨i', hi', e'⟩ := h
      rcases List.mem_cons.1 hi' with rfl | h2
      · exact absurd e' e
      · exact ⟨i', h2, e'⟩
theorem entV_some {f : Nat → ByteArray} {V : Nat → Value} {k i : Nat} (hi : i < k) (hd : ∀ a b, a < k → b < k → f a = f b → a = b) : ∃ q, Instr.findNow .string (.string (f i)) (entV f V k).toList 0 = some (some (q, V i)) := by
  unfold entV
  exact ent_some _ 0 ⟨i, List.mem_range.2 hi, rfl⟩ fun j hj e => by rw [hd j i (List.mem_range.1 hj) hi e]
theorem Sep.permU {L L' : List Asr} (h : L.Perm L') : ∀ {w : World} {F : Nat → Prop}, Sep L w F → Sep L' w F := by
  induction h with
  | nil => intros; trivial
  | cons A _ ih => rintro w F ⟨F1, h1, h2, h3⟩; exact ⟨F1, h1, h2, ih h3⟩
  | swap A B L =>
    rintro w F ⟨F1, h1, h2, F2, g1, g2, g3⟩
    exact ⟨F2, fun b hb => (g1 b hb).1, g2, F1, fun b hb => ⟨h1 b hb, fun h => (g1 b h).2 hb⟩, h2, g3.mono fun b ⟨⟨a, c⟩, d⟩ => ⟨⟨a, d⟩, c⟩⟩
  | trans _ _ ih1 ih2 => intro w F h; exact ih2 (ih1 h)
theorem St.permU {W w : World} {L L' : List Asr} (h : St W w L) (hp : L.Perm L') : St W w L' := ⟨h.1, Sep.permU hp h.2⟩
/-- two limbs, made one -/
theorem St.mergeU {W w : World} {A B C : Asr} {L : List Asr} (h : St W w (L ++ [A, B])) (hm : ∀ F1 F2, (∀ b, F2 b → ¬ F1 b) → A.holds w F1 → B.holds w F2 → C.holds w (fun b => F1 b ∨ F2 b)) : St W w (L ++ [C]) := by
  have h1 : St W w (A :: B :: L) := h.permU List.perm_append_comm
  obtain ⟨F1, f1, f2, F2, g1, g2, g3⟩ := h1.2
  have h2 : St W w (C :: L) := ⟨h1.1, fun b => F1 b ∨ F2 b, fun b hb => hb.elim (f1 b) (fun h => (g1 b h).1), hm _ _ (fun b hb => (g1 b hb).2) f2 g2, g3.mono fun b hb => ⟨hb.1.1, fun h => h.elim hb.1.2 hb.2⟩⟩
  exact h2.permU (List.perm_append_comm (l₁ := [C]))
/-- rows of entries, in blocks that are apart -/
def rowsE (T : TypeId) (G : Nat → Nat) (n nh : Nat) (E : Nat → List EI) : Asr where
  holds w F := (∀ i, i < n → w.heap[G i]? = some (.cells ((E i).flatMap EI.cells).toArray T (0, 0)) ∧ (E i).length = nh ∧ F (G i)) ∧ ∀ i j, i < n → j < n → G i = G j → i = j
  loc := fun ⟨h, hd⟩ _ hk => ⟨fun i hi => ⟨(hk _ (h i hi).2.2).trans (h i hi).1, (h i hi).2.1, (h i hi).2.2⟩, hd⟩
  mono := fun ⟨h, hd⟩ hh => ⟨fun i hi => ⟨(h i hi).1, (h i hi).2.1, hh _ (h i hi).2.2⟩, hd⟩
theorem St.rowsE_nil {W w : World} {L : List Asr} (h : St W w L) (T : TypeId) (G : Nat → Nat) (nh : Nat) (E : Nat → List EI) : St W w (L ++ [rowsE T G 0 nh E]) :=
  h.push (F := fun _ => False) (Below.refl _ _) ⟨fun i hi => absurd hi (by omega), fun i j hi => absurd hi (by omega)⟩ (fun b hb => hb.elim)
def updN {α : Type} (f : Nat → α) (k : Nat) (v : α) (i : Nat) : α := if i = k then v else f i
theorem flat_len2 (E : List EI) : (E.flatMap EI.cells).length = E.length * 2 := flatMap_len (size := 2) (fun _ => rfl) E
theorem St.rowsE_rd {W w : World} {L : List Asr} {i k n nh : Nat} {T : TypeId} {G : Nat → Nat} {E : Nat → List EI} (h : St W w L) (hi : L[i]? = some (rowsE T G n nh E)) (hk : k < n) (hm : nh ≤ maxLen) : Rd w (· < w.heap.size) 2 (.slice (some ⟨G k, 0, none⟩) nh nh) nh ((E k).flatMap EI.cells) := by
  obtain ⟨F, h1, ⟨h2, _⟩⟩ := h.get hi
  obtain ⟨h3, h4, h5⟩ := h2 k hk
  have h6 := (h1 _ h5).2
  refine ⟨_, nh, rfl, Nat.le_refl _, hm, by rw [flat_len2, h4], (fun h => by cases h), fun _ => ⟨G k, 0, rfl, h6, h6, fun j u hj => ?_⟩⟩
  rw [Nat.zero_add]
  exact (cell_of_row w (G k) j _ T (0, 0) h3).trans (by simpa using hj)
theorem St.rowsE_push {W w : World} {L : List Asr} {n nh g : Nat} {T : TypeId} {G : Nat → Nat} {E : Nat → List EI} {e : List EI} (h : St W w (L ++ [rowsE T G n nh E, row T 2 (.slice (some ⟨g, 0, none⟩) nh nh) nh (e.flatMap EI.cells)])) (he : e.length = nh) : St W w (L ++ [rowsE T (updN G n g) (n + 1) nh (updN E n e)]) := by
  refine h.mergeU fun F1 F2 hd hA hB => ?_
  obtain ⟨hA1, hA2⟩ := hA
  obtain ⟨⟨hl, hB1⟩, hB2⟩ := hB
  have hF2 : F2 g := hB2 g rfl
  have hg : w.heap[g]? = some (.cells (e.flatMap EI.cells).toArray T (0, 0)) := by
    rcases hB1 with ⟨h1, _⟩ | ⟨g', cap, cur, h1, _, hg, _, _, hs, ht⟩
    · cases h1
    · cases h1
      rw [List.take_of_length_le (by simp [hs])] at ht
      rw [hg, ← ht]
  have hne : ∀ i, i < n → G i ≠ g := fun i hi e' => hd g hF2 (by rw [← e']; exact (hA1 i hi).2.2)
  refine ⟨fun i hi => ?_, fun i j hi hj e' => ?_⟩
  · unfold updN
    by_cases h1 : i = n
    · rw [if_pos h1, if_pos h1]
      exact ⟨hg, he, .inr hF2⟩
    · rw [if_neg h1, if_neg h1]
      obtain ⟨a, b, c⟩ := hA1 i (by omega)
      exact ⟨a, b, .inl c⟩
  · unfold updN at e'
    by_cases h1 : i = n <;> by_cases h2 : j = n
    · omega
    · rw [if_pos h1, if_neg h2] at e'
      exact absurd e'.symm (hne j (by omega))
    · rw [if_neg h1, if_pos h2] at e'
      exact absurd e' (hne i (by omega))
    · rw [if_neg h1, if_neg h2] at e'
      exact hA2 i j (by omega) (by omega) e'
theorem flat_set (E : List EI) (j : Nat) (e : EI) (hj : j < E.length) : ((E.flatMap EI.cells).set (j * 2) (.int .i64 e.s)).set (j * 2 + 1) (.string e.m) = (E.set j e).flatMap EI.cells := by
  induction E generalizing j with
  | nil => simp at hj
  | cons x E ih =>
    cases j with
    | zero => rfl
    | succ j =>
      rw [show (j + 1) * 2 = j * 2 + 2 by omega]
      simp only [List.flatMap_cons, List.set_cons_succ]
      show ((Value.int .i64 x.s :: Value.string x.m :: E.flatMap EI.cells).set (j * 2 + 2) (.int .i64 e.s)).set (j * 2 + 2 + 1) (.string e.m) = Value.int .i64 x.s :: Value.string x.m :: ((E.set j e).flatMap EI.cells)
      simp only [List.set_cons_succ]
      rw [ih j (by simpa using hj)]
theorem St.rowsE_set {W w : World} {L : List Asr} {i k j n nh : Nat} {T : TypeId} {G : Nat → Nat} {E : Nat → List EI} (h : St W w L) (hi : L[i]? = some (rowsE T G n nh E)) (hk : k < n) (hj : j < nh) (e : EI) :
    St W ((w.setCell ⟨G k, j * 2, none⟩ (.int .i64 e.s)).setCell ⟨G k, j * 2 + 1, none⟩ (.string e.m)) (L.set i (rowsE T G n nh (updN E k ((E k).set j e)))) := by
  obtain ⟨F1, h1, ⟨h2, hd⟩, h3⟩ := h.upd hi
  obtain ⟨a1, a2, a3⟩ := h2 k hk
  have hw1 := heap_setCell_same w (G k) (j * 2) _ T (.int .i64 e.s) a1
  have hw2 := heap_setCell_same _ (G k) (j * 2 + 1) _ T (.string e.m) hw1
  have hx : ((((E k).flatMap EI.cells).toArray.setIfInBounds (j * 2) (.int .i64 e.s)).setIfInBounds (j * 2 + 1) (.string e.m)) = (((E k).set j e).flatMap EI.cells).toArray := by
    rw [← flat_set (E k) j e (by omega)]
    simp
  rw [hx] at hw2
  refine h3 _ _ F1 (some (G k)) ⟨fun q hq => ?_, hd⟩ ⟨rfl, rfl, rfl, by simp [World.setCell], fun b _ hb => ?_⟩ (fun b hb => by cases hb; exact a3) (fun b hb => .inl hb)
  · by_cases hqk : q = k
    · subst hqk
      refine ⟨by rw [hw2]; unfold updN; rw [if_pos rfl], by unfold updN; rw [if_pos rfl, List.length_set]; exact a2, a3⟩
    · obtain ⟨b1, b2, b3⟩ := h2 q hq
      have hne : G q ≠ G k := fun e' => hqk (hd q k hq hk e')
      refine ⟨?_, by unfold updN; rw [if_neg hqk]; exact b2, b3⟩
      rw [Below.heap_setCell _ _ _ _ hne, Below.heap_setCell _ _ _ _ hne, b1]
      unfold updN
      rw [if_neg hqk]
  · have hne : b ≠ G k := fun e' => hb (by subst e'; rfl)
    rw [Below.heap_setCell _ _ _ _ hne, Below.heap_setCell _ _ _ _ hne]
end Go.Mem
/- Follow's closure; Repeat, no times. -/
namespace Go.Proofs.YtnaafefcijgpkaaGreatDoor
open Go.RowKit Go.Mem Go.Sheet Go.Adj
theorem follow2_any (W w : World) (L : List Asr) (i1 i2 gp gm k i : Nat) (f : Nat → ByteArray) (V : Nat → Value) (S : St W w L) (h1 : L[i1]? = some (blk gp 113 #[.map (some gm)])) (h2 : L[i2]? = some (mapS gm (entV f V k) k)) (hi : i < k) (hd : ∀ a b, a < k → b < k → f a = f b → a = b) :
    Calls Tryz.prog 41 #[.string (f i), .pointer (some ⟨gp, 0, none⟩)] w fun e w' => e = .returned (V i) ∧ w = w' := by
  obtain ⟨q, hq⟩ := entV_some (f := f) (V := V) hi hd
  have c0 := S.blk_cell h1 0
  have hl := run_lookupS_some 113 9 45 Tryz.underlying9 Tryz.underlying113 (S.mapS_at h2) (f i) q (V i) hq
  clear S h1 h2 hi hd hq
  generalize V i = v at *
  go_enter Tryz.func41, Tryz.ntmps41
  go_wp2_with fail
  go_ret
  exact ⟨rfl, rfl⟩
set_option maxRecDepth 100000 in
set_option maxHeartbeats 4000000 in
theorem repeat0_any (W : World) (b0 : Nat) (u : List Value) (hul : u.length = 2) (c0 : ∀ j v, u[j]? = some v → W.cell? ⟨b0, j, none⟩ = some v) (hb0 : b0 < W.heap.size) :
    Calls Tryz.prog 40 #[.slice (some ⟨b0, 0, none⟩) 1 1, .int .i64 0] W fun e w' => ∃ g, e = .returned (.slice (some ⟨g, 0, none⟩) 0 0) ∧ St W w' [row 65 2 (.slice (some ⟨g, 0, none⟩) 0 0) 0 []] := by
  have hcp : ∀ (w1 : World) (g : Nat) (cs : Array Value) ty, w1.heap[g]? = some (.cells cs 65 (0, 0)) → (Builtin.copy_ #[45, 45] ty #[.slice (some ⟨g, 0, none⟩) 0 0, .slice (some ⟨b0, 0, none⟩) 1 1]).run Tryz.prog w1 = .ok (goInt 0) w1 := fun w1 g cs ty hg => by
    have h := run_copy_sz w1 45 45 ty 65 g 0 0 0 ⟨b0, 0, none⟩ 1 1 2 cs 65 [] Tryz.underlying45 (by kernel_rfl) hg (by simp) (by simp) (by simp) (by simp)
    rw [h]
    simp [setRow_self w1 g cs 65 (0, 0) hg]
  have HCP := Lib.hid hcp
  clear hcp hul c0 hb0
  go_enter Tryz.func40, Tryz.ntmps40
  go_wp2_with (first
    | (go_at_call 72; refine (mul1 0 (by omega) _).mono ?_; rintro e w' ⟨rfl, rfl⟩)
    | (refine wpList_make_st eltEn rfl _ _ rfl (n := 0) rfl rfl (St.refl W) (by omega) (by omega) ?_; intro w1 g S1 hg hb1
       have HB1 := Lib.hid S1
       have HGW := Lib.hid (row_block2 HB1.out (i := 0) rfl)
       have hq := fun ty => HCP.out w1 g _ ty HGW.out)
    | (refine wpList_copy_runI w1 rfl _ _ 45 45 rfl _ _ rfl rfl (hq _) ?_))
  go_loopw [8] (fun i w' => i = .int .i64 0 ∧ w' = w1) (fun _ _ => 0)
  case atStart => exact ⟨rfl, rfl⟩
  case round =>
    obtain ⟨rfl, rfl⟩ := hrel
    go_wp2_with fail
    go_ret
    have h := HB1.out
    rw [List.eq_nil_of_length_eq_zero (l := (madeCells (Value.agg #[.int .i64 0, .string ⟨#[]⟩]).cells (0 * 2)).toList) (by rw [Array.length_toList, size_madeCells])] at h
    exact ⟨g, rfl, h⟩
end Go.Proofs.YtnaafefcijgpkaaGreatDoor
/- Repeat of the entry of a hole that is not played. -/
namespace Go.Proofs.YtnaafefcijgpkaaGreatDoor
open Go.RowKit Go.Mem Go.Sheet Go.Adj
theorem rep_cells (n : Nat) (e : EI) : (List.replicate n e.cells).flatten = (List.replicate n e).flatMap EI.cells := by
  induction n with
  | zero => rfl
  | succ n ih => rw [List.replicate_succ, List.replicate_succ, List.flatten_cons, List.flatMap_cons, ih]
theorem repeatN_any (W : World) (b0 n : Nat) (e : EI) (c0 : W.heap[b0]? = some (.cells e.cells.toArray 65 (0, 0))) (hn : n ≤ 1000) :
    Calls Tryz.prog 40 #[.slice (some ⟨b0, 0, none⟩) 1 1, .int .i64 n] W fun x w' => ∃ g, x = .returned (.slice (some ⟨g, 0, none⟩) n n) ∧ St W w' [row 65 2 (.slice (some ⟨g, 0, none⟩) n n) n ((List.replicate n e).flatMap EI.cells)] := by
  have hb := (Array.getElem?_eq_some_iff.1 c0).1
  have hc : ∀ j v, e.cells[j]? = some v → W.cell? ⟨b0, j, none⟩ = some v := fun j v hj => (cell_of_row W b0 j _ 65 (0, 0) c0).trans (by simpa using hj)
  rcases Nat.eq_zero_or_pos n with h0 | h0
  · subst h0
    exact repeat0_any W b0 e.cells rfl hc hb
  · rw [← rep_cells]
    refine repeatE_any W b0 n e.cells rfl (fun v hv => ?_) hc hb ⟨h0, hn⟩
    simp only [EI.cells, List.mem_cons, List.not_mem_nil, or_false] at hv
    rcases hv with rfl | rfl <;> rfl
end Go.Proofs.YtnaafefcijgpkaaGreatDoor
/- The stable sort of no message. -/
namespace Go.Proofs.YtnaafefcijgpkaaGreatDoor
open Go.RowKit Go.Mem Go.Sheet Go.Adj
set_option maxRecDepth 100000 in
theorem sortM_0 (A : Option Addr) (c : Nat) (w : World) : Calls Tryz.prog 37 #[.slice A 0 c, .func (.func 38) #[] #[]] w fun e w' => e = .returned (.tuple #[]) ∧ w = w' := by
  have HI : Hid (Calls Tryz.prog 100 #[.slice A 0 c, .int .i64 0, .int .i64 0, .func (.func 38) #[] #[]] w fun e w' => e = .returned (.tuple #[]) ∧ w = w') := by
    show Calls _ _ _ _ _
    go_enter Tryz.func100, Tryz.ntmps100
    go_wp2
    go_loopw [8] (fun i w' => i = .int .i64 1 ∧ w' = w) (fun _ _ => 0)
    case atStart => exact ⟨rfl, rfl⟩
    case round =>
      obtain ⟨rfl, rfl⟩ := hrel
      go_wp2_with fail
      go_end0
      exact ⟨rfl, rfl⟩
  have HS : Hid (Calls Tryz.prog 70 #[.slice A 0 c, .int .i64 0, .func (.func 38) #[] #[]] w fun e w' => e = .returned (.tuple #[]) ∧ w = w') := by
    show Calls _ _ _ _ _
    go_enter Tryz.func70, Tryz.ntmps70
    go_wp2_with fail
    go_loopw [7, 8] (fun i j w' => i = .int .i64 0 ∧ j = .int .i64 20 ∧ w' = w) (fun _ _ _ => 0)
    case atStart => exact ⟨rfl, rfl, rfl⟩
    case round =>
      obtain ⟨rfl, rfl, rfl⟩ := hrel
      go_wp2_with fail
      go_at_call 100
      refine HI.out.mono ?_
      rintro e w2 ⟨rfl, rfl⟩
      go_wp2_with fail
      go_loopw [6] (fun i w' => i = .int .i64 20 ∧ w' = wr) (fun _ _ => 0)
      case atStart => exact ⟨rfl, rfl⟩
      case round =>
        obtain ⟨rfl, rfl⟩ := hrel
        go_wp2_with fail
        go_end0
        exact ⟨rfl, rfl⟩
  go_enter Tryz.func37, Tryz.ntmps37
  go_wp2_with fail
  go_at_call 70
  refine HS.out.mono ?_
  rintro e w2 ⟨rfl, rfl⟩
  go_wp2_with fail
  go_end0
  exact ⟨rfl, rfl⟩
end Go.Proofs.YtnaafefcijgpkaaGreatDoor
/- Messages: plain cells and rows; the order of messages. -/
namespace Go.Adj
open Go.RowKit Go.Mem
structure MsI where
  dev : ByteArray
  num : Int
  plr : ByteArray
  hole : Int
  s : Int
  m : ByteArray
def MsI.cells (x : MsI) : List Value := [.string x.dev, .int .i64 x.num, .string x.plr, .int .i64 x.hole, .int .i64 x.s, .string x.m]
def MsI.val (x : MsI) : Value := .agg #[.string x.dev, .int .i64 x.num, .string x.plr, .int .i64 x.hole, .int .i64 x.s, .string x.m]
def bl (a b : ByteArray) : Bool := Op.bytesLess a.toList b.toList
theorem bl_irr0 : ∀ x : List UInt8, Op.bytesLess x x = false
  | [] => rfl
  | a :: x => by
    rw [Op.bytesLess, bl_irr0 x, Bool.and_false, Bool.or_false]
    exact decide_eq_false (by rw [UInt8.lt_iff_toNat_lt]; omega)
theorem bl_irr (a : ByteArray) : bl a a = false := bl_irr0 _
theorem bl_trans0 : ∀ x y z : List UInt8, Op.bytesLess x y = true → Op.bytesLess y z = true → Op.bytesLess x z = true
  | [], [], _, h, _ => by simp [Op.bytesLess] at h
  | [], _ :: _, [], _, h => by simp [Op.bytesLess] at h
  | [], _ :: _, _ :: _, _, _ => by simp [Op.bytesLess]
  | _ :: _, [], _, h, _ => by simp [Op.bytesLess] at h
  | _ :: _, _ :: _, [], _, h => by simp [Op.bytesLess] at h
  | a :: x, b :: y, c :: z, h, k => by
    simp only [Op.bytesLess, Bool.or_eq_true, Bool.and_eq_true, decide_eq_true_eq, beq_iff_eq, UInt8.lt_iff_toNat_lt] at h k ⊢
    rcases h with h | ⟨rfl, h⟩
    · rcases k with k | ⟨rfl, k⟩
      · exact .inl (by omega)
      · exact .inl h
    · rcases k with k | ⟨rfl, k⟩
      · exact .inl k
      · exact .inr ⟨rfl, bl_trans0 x y z h k⟩
theorem bl_trans {a b c : ByteArray} (h : bl a b = true) (k : bl b c = true) : bl a c = true := bl_trans0 _ _ _ h k
theorem bl_tri0 : ∀ x y : List UInt8, Op.bytesLess x y = false → x ≠ y → Op.bytesLess y x = true
  | [], [], _, h => absurd rfl h
  | [], _ :: _, h, _ => by simp [Op.bytesLess] at h
  | _ :: _, [], _, _ => by simp [Op.bytesLess]
  | a :: x, b :: y, h, k => by
    simp only [Op.bytesLess, Bool.or_eq_false_iff, Bool.or_eq_true, Bool.and_eq_true, decide_eq_true_eq, decide_eq_false_iff_not, beq_iff_eq, UInt8.lt_iff_toNat_lt] at h ⊢
    rcases Nat.lt_trichotomy a.toNat b.toNat with g | g | g
    · exact absurd g h.1
    · have e : a = b := UInt8.toNat_inj.1 g
      subst e
      refine .inr ⟨rfl, bl_tri0 x y ?_ fun e => k (by rw [e])⟩
      have := h.2
      simpa using this
    · exact .inl g
theorem tl_ne {a b : ByteArray} (h : a ≠ b) : a.toList ≠ b.toList := by
  intro e
  rw [ByteArray.toList_eq, ByteArray.toList_eq] at e
  have := Array.toList_inj.1 e
  cases a; cases b
  simp only at this
  exact h (by rw [this])
theorem bl_tri {a b : ByteArray} (h : bl a b = false) (k : a ≠ b) : bl b a = true := bl_tri0 _ _ h (tl_ne k)
def ltM (x y : MsI) : Prop := bl x.dev y.dev = true ∨ x.dev = y.dev ∧ x.num < y.num
theorem ltM_irr (x : MsI) : ¬ ltM x x := by
  rintro (h | ⟨_, h⟩)
  · rw [bl_irr] at h; cases h
  · omega
theorem ltM_trans {x y z : MsI} (h : ltM x y) (k : ltM y z) : ltM x z := by
  rcases h with h | ⟨e, h⟩
  · rcases k with k | ⟨f, k⟩
    · exact .inl (bl_trans h k)
    · exact .inl (by rw [← f]; exact h)
  · rcases k with k | ⟨f, k⟩
    · exact .inl (by rw [e]; exact k)
    · exact .inr ⟨e.trans f, by omega⟩
theorem ltM_tri {x y : MsI} (h : ¬ ltM x y) (k : ¬ (x.dev = y.dev ∧ x.num = y.num)) : ltM y x := by
  unfold ltM at *
  by_cases e : x.dev = y.dev
  · refine .inr ⟨e.symm, ?_⟩
    rcases Int.lt_trichotomy x.num y.num with g | g | g
    · exact absurd (.inr ⟨e, g⟩) h
    · exact absurd ⟨e, g⟩ k
    · exact g
  · refine .inl (bl_tri ?_ e)
    cases hb : bl x.dev y.dev
    · rfl
    · exact absurd (.inl hb) h
def cmpB (a b : ByteArray) : Int := if bl a b = true then -1 else if a = b then 0 else 1
def cmpN (a b : Int) : Int := if a < b then -1 else if b < a then 1 else 0
def cmpM (x y : MsI) : Int := if cmpB x.dev y.dev = 0 then cmpN x.num y.num else cmpB x.dev y.dev
theorem cmpM_lt (x y : MsI) : cmpM x y < 0 ↔ ltM x y := by
  unfold cmpM cmpB cmpN ltM
  by_cases h : bl x.dev y.dev = true
  · rw [if_pos h]; simp [h]
  · rw [if_neg h]
    by_cases e : x.dev = y.dev
    · rw [if_pos e]
      by_cases k : x.num < y.num
      · simp [k, e]
      · by_cases k2 : y.num < x.num
        · simp [k, k2, h]
        · simp [k, k2, h]
    · rw [if_neg e]; simp [h, e]
theorem cmpM_eq (x y : MsI) : cmpM x y = 0 ↔ x.dev = y.dev ∧ x.num = y.num := by
  unfold cmpM cmpB cmpN
  by_cases h : bl x.dev y.dev = true
  · rw [if_pos h]
    constructor
    · intro k; simp at k
    · rintro ⟨e, _⟩; rw [e, bl_irr] at h; cases h
  · rw [if_neg h]
    by_cases e : x.dev = y.dev
    · rw [if_pos e]
      by_cases k : x.num < y.num
      · simp [k]; omega
      · by_cases k2 : y.num < x.num
        · simp [k, k2]; omega
        · simp [k, k2, e]; omega
    · rw [if_neg e]; simp [e]
def pcM (Y : Nat → MsI) (q : Nat) : List Value := (List.range q).flatMap fun i => (Y i).cells
theorem pcM_snoc (Y : Nat → MsI) (q : Nat) : pcM Y (q + 1) = pcM Y q ++ (Y q).cells := by unfold pcM; rw [List.range_succ, List.flatMap_append]; simp
theorem pcM_len (Y : Nat → MsI) : ∀ q, (pcM Y q).length = q * 6
  | 0 => by unfold pcM; simp
  | q + 1 => by rw [pcM_snoc, List.length_append, pcM_len Y q]; show q * 6 + 6 = _; omega
theorem pcM_at (Y : Nat → MsI) : ∀ {q a b : Nat}, a < q → b < 6 → (pcM Y q)[a * 6 + b]? = (Y a).cells[b]?
  | q + 1, a, b, ha, hb => by
    rw [pcM_snoc]
    rcases Nat.lt_or_ge a q with h | h
    · rw [List.getElem?_append_left (by rw [pcM_len]; omega)]
      exact pcM_at Y h hb
    · obtain rfl : a = q := by omega
      rw [List.getElem?_append_right (by rw [pcM_len]; omega), pcM_len]
      congr 1; omega
def upM (Y : Nat → MsI) (j : Nat) (p : MsI) (a : Nat) : MsI := if a = j then p else Y a
theorem pcM_upd (Y : Nat → MsI) {q j : Nat} (hj : j < q) (p : MsI) : ((((((pcM Y q).set (j * 6) (.string p.dev)).set (j * 6 + 1) (.int .i64 p.num)).set (j * 6 + 2) (.string p.plr)).set (j * 6 + 3) (.int .i64 p.hole)).set (j * 6 + 4) (.int .i64 p.s)).set (j * 6 + 5) (.string p.m) = pcM (upM Y j p) q := by
  apply List.ext_getElem?
  intro i
  rcases Nat.lt_or_ge i (q * 6) with hi | hi
  · obtain ⟨a, b, hb, e⟩ : ∃ a b, b < 6 ∧ i = a * 6 + b := ⟨i / 6, i % 6, Nat.mod_lt _ (by decide), by omega⟩
    subst e
    have ha : a < q := by omega
    rw [pcM_at _ ha hb]
    simp only [List.getElem?_set, List.length_set, pcM_len]
    by_cases hja : a = j
    · subst hja
      have e2 : upM Y a p a = p := by unfold upM; rw [if_pos rfl]
      rw [e2]
      have : b = 0 ∨ b = 1 ∨ b = 2 ∨ b = 3 ∨ b = 4 ∨ b = 5 := by omega
      rcases this with rfl | rfl | rfl | rfl | rfl | rfl
      · rw [if_neg (by omega), if_neg (by omega), if_neg (by omega), if_neg (by omega), if_neg (by omega), if_pos (by omega), if_pos (by omega)]; rfl
      · rw [if_neg (by omega), if_neg (by omega), if_neg (by omega), if_neg (by omega), if_pos (by omega), if_pos (by omega)]; rfl
      · rw [if_neg (by omega), if_neg (by omega), if_neg (by omega), if_pos (by omega), if_pos (by omega)]; rfl
      · rw [if_neg (by omega), if_neg (by omega), if_pos (by omega), if_pos (by omega)]; rfl
      · rw [if_neg (by omega), if_pos (by omega), if_pos (by omega)]; rfl
      · rw [if_pos (by omega), if_pos (by omega)]; rfl
    · rw [if_neg (by omega), if_neg (by omega), if_neg (by omega), if_neg (by omega), if_neg (by omega), if_neg (by omega), pcM_at _ ha hb]
      unfold upM
      rw [if_neg hja]
  · rw [List.getElem?_eq_none (by simp only [List.length_set, pcM_len]; omega), List.getElem?_eq_none (by rw [pcM_len]; omega)]
theorem upM_swp (Y : Nat → MsI) (j jp : Nat) (h : jp + 1 = j) : upM (upM Y j (Y jp)) jp (Y j) = swpG Y j := by
  funext a
  subst h
  unfold upM swpG
  by_cases h1 : a = jp
  · rw [if_pos h1, if_neg (by omega), if_pos (by omega)]
  · rw [if_neg h1]
    by_cases h2 : a = jp + 1
    · rw [if_pos h2, if_pos h2]; rfl
    · rw [if_neg h2, if_neg h2, if_neg (by omega)]
def MemM (P : MsI → Prop) (Y : Nat → MsI) (q : Nat) : Prop := ∀ a, a < q → P (Y a)
theorem MemM.swap {P : MsI → Prop} {Y : Nat → MsI} {q j : Nat} (h : MemM P Y q) (hj : 1 ≤ j) (hq : j < q) : MemM P (swpG Y j) q := by
  intro a ha
  unfold swpG
  split
  · exact h _ (by omega)
  · split
    · exact h _ hq
    · exact h _ ha
end Go.Adj
namespace Go.Proofs.YtnaafefcijgpkaaGreatDoor
open Go.RowKit Go.Mem Go.Sheet Go.Adj
theorem row_pcM {W w : World} {L : List Asr} {i j g n c : Nat} {Y : Nat → MsI} (h : St W w L) (hi : L[i]? = some (row 69 6 (.slice (some ⟨g, 0, none⟩) n c) n (pcM Y n))) (hj : j < n) :
    (w.cell? ⟨g, j * 6, none⟩ = some (.string (Y j).dev) ∧ w.cell? ⟨g, j * 6 + 1, none⟩ = some (.int .i64 (Y j).num) ∧ w.cell? ⟨g, j * 6 + 2, none⟩ = some (.string (Y j).plr) ∧ w.cell? ⟨g, j * 6 + 3, none⟩ = some (.int .i64 (Y j).hole) ∧ w.cell? ⟨g, j * 6 + 4, none⟩ = some (.int .i64 (Y j).s) ∧ w.cell? ⟨g, j * 6 + 5, none⟩ = some (.string (Y j).m)) ∧ ∀ k, w.frozen? ⟨g, k, none⟩ = false := by
  obtain ⟨g', cap, hv, _, _, _, hc, hf⟩ := h.row_form hi (by omega)
  cases hv
  refine ⟨⟨?_, ?_, ?_, ?_, ?_, ?_⟩, hf⟩
  · rw [hc _ (by omega)]; exact pcM_at Y (b := 0) hj (by decide)
  · rw [hc _ (by omega)]; exact pcM_at Y (b := 1) hj (by decide)
  · rw [hc _ (by omega)]; exact pcM_at Y (b := 2) hj (by decide)
  · rw [hc _ (by omega)]; exact pcM_at Y (b := 3) hj (by decide)
  · rw [hc _ (by omega)]; exact pcM_at Y (b := 4) hj (by decide)
  · rw [hc _ (by omega)]; exact pcM_at Y (b := 5) hj (by decide)
theorem row_pcMset {W w : World} {L : List Asr} {i j g n c : Nat} {Y : Nat → MsI} (h : St W w L) (hi : L[i]? = some (row 69 6 (.slice (some ⟨g, 0, none⟩) n c) n (pcM Y n))) (hj : j < n) (p : MsI) :
    St W ((((((w.setCell ⟨g, j * 6, none⟩ (.string p.dev)).setCell ⟨g, j * 6 + 1, none⟩ (.int .i64 p.num)).setCell ⟨g, j * 6 + 2, none⟩ (.string p.plr)).setCell ⟨g, j * 6 + 3, none⟩ (.int .i64 p.hole)).setCell ⟨g, j * 6 + 4, none⟩ (.int .i64 p.s)).setCell ⟨g, j * 6 + 5, none⟩ (.string p.m)) (L.set i (row 69 6 (.slice (some ⟨g, 0, none⟩) n c) n (pcM (upM Y j p) n))) := by
  have hl : i < L.length := (List.getElem?_eq_some_iff.1 hi).1
  have ix : ∀ (A : Asr), (L.set i A)[i]? = some A := fun A => by rw [List.getElem?_set, if_pos rfl, if_pos hl]
  have h0 := h.row_set hi (j * 6) (.string p.dev)
  have h1 := h0.row_set (ix _) (j * 6 + 1) (.int .i64 p.num)
  have h2 := h1.row_set (by simp only [List.set_set]; exact ix _) (j * 6 + 2) (.string p.plr)
  have h3 := h2.row_set (by simp only [List.set_set]; exact ix _) (j * 6 + 3) (.int .i64 p.hole)
  have h4 := h3.row_set (by simp only [List.set_set]; exact ix _) (j * 6 + 4) (.int .i64 p.s)
  have h5 := h4.row_set (by simp only [List.set_set]; exact ix _) (j * 6 + 5) (.string p.m)
  simp only [List.set_set] at h5
  rw [pcM_upd Y hj p] at h5
  exact h5
end Go.Proofs.YtnaafefcijgpkaaGreatDoor
/- Messages: the program's orders of strings, of messages. -/
namespace Go.Proofs.YtnaafefcijgpkaaGreatDoor
open Go.RowKit Go.Mem Go.Sheet Go.Adj
theorem isNaNs_any (a : ByteArray) (w : World) : Calls Tryz.prog 117 #[.string a] w fun e w' => e = .returned (.bool false) ∧ w = w' := by
  have q : (a.toList == a.toList) = true := by simp
  go_enter Tryz.func117, Tryz.ntmps117
  go_wp2
  go_ret
  exact ⟨rfl, rfl⟩
theorem cmpB_any (a b : ByteArray) (w : World) : Calls Tryz.prog 96 #[.string a, .string b] w fun e w' => e = .returned (.int .i64 (cmpB a b)) ∧ w = w' := by
  have HN := Lib.hid isNaNs_any
  by_cases h : bl a b = true
  · have e : cmpB a b = -1 := by unfold cmpB; rw [if_pos h]
    rw [e]
    clear e
    unfold bl at h
    go_enter Tryz.func96, Tryz.ntmps96
    go_wp2_with (go_at_call 117; refine (HN.out _ _).mono ?_; rintro e w' ⟨rfl, rfl⟩)
    go_ret
    exact ⟨rfl, rfl⟩
  · have h' : bl a b = false := by cases hb : bl a b; rfl; exact absurd hb h
    by_cases he : a = b
    · have e : cmpB a b = 0 := by unfold cmpB; rw [if_neg h, if_pos he]
      rw [e]
      have q : (a.toList == b.toList) = true := by rw [he]; simp
      clear e h he
      unfold bl at h'
      go_enter Tryz.func96, Tryz.ntmps96
      go_wp2_with (go_at_call 117; refine (HN.out _ _).mono ?_; rintro e w' ⟨rfl, rfl⟩)
      go_ret
      exact ⟨rfl, rfl⟩
    · have e : cmpB a b = 1 := by unfold cmpB; rw [if_neg h, if_neg he]
      rw [e]
      have h0 := bytes_neU he
      clear e h he
      unfold bl at h'
      go_enter Tryz.func96, Tryz.ntmps96
      go_wp2_with (go_at_call 117; refine (HN.out _ _).mono ?_; rintro e w' ⟨rfl, rfl⟩)
      go_ret
      exact ⟨rfl, rfl⟩
theorem cmpN_any (a b : Int) (w : World) : Calls Tryz.prog 39 #[.int .i64 a, .int .i64 b] w fun e w' => e = .returned (.int .i64 (cmpN a b)) ∧ w = w' := cmpU_any a b w
theorem fst_cmpM (x y : MsI) : fst [cmpB x.dev y.dev, cmpN x.num y.num] = cmpM x y := by
  unfold cmpM
  by_cases h : cmpB x.dev y.dev = 0
  · rw [if_pos h, h]
    by_cases k : cmpN x.num y.num = 0
    · rw [k]; rfl
    · simp [fst, k]
  · rw [if_neg h]
    simp [fst, h]
set_option maxRecDepth 100000 in
set_option maxHeartbeats 4000000 in
theorem cmpM_any (x y : MsI) (w : World) : Calls Tryz.prog 65 #[x.val, y.val] w fun e w' => e = .returned (.int .i64 (cmpM x y)) ∧ Below w.heap.size w w' := by
  rw [← fst_cmpM]
  obtain ⟨xd, xn, xp, xh, xs, xm⟩ := x
  obtain ⟨yd, yn, yp, yh, ys, ym⟩ := y
  unfold MsI.val
  simp only
  obtain ⟨AX, hAX⟩ : ∃ A : Array Value, A = #[.string xd, .int .i64 xn, .string xp, .int .i64 xh, .int .i64 xs, .string xm] := ⟨_, rfl⟩
  obtain ⟨AY, hAY⟩ : ∃ A : Array Value, A = #[.string yd, .int .i64 yn, .string yp, .int .i64 yh, .int .i64 ys, .string ym] := ⟨_, rfl⟩
  have S0 := ((St.refl w).blk_new #[.string xd, .int .i64 xn, .string xp, .int .i64 xh, .int .i64 xs, .string xm] 69).blk_new #[.string yd, .int .i64 yn, .string yp, .int .i64 yh, .int .i64 ys, .string ym] 69
  simp only [List.cons_append, List.nil_append, World.size_alloc] at S0
  have HS := Lib.hid S0
  have HC1 := Lib.hid (fun w => cmpB_any xd yd w)
  have HC2 := Lib.hid (fun w => cmpN_any xn yn w)
  generalize cmpB xd yd = ca at *
  generalize cmpN xn yn = cb at *
  clear S0
  go_enter Tryz.func65, Tryz.ntmps65
  go_wp2_with fail
  obtain ⟨g2, hg2⟩ : ∃ g, g = w.heap.size := ⟨_, rfl⟩
  obtain ⟨g3, hg3⟩ : ∃ g, g = w.heap.size + 1 := ⟨_, rfl⟩
  rw [← hg3, ← hg2] at HS
  rw [← hg3, ← hg2]
  generalize World.alloc (World.alloc w _) _ = w1 at *
  clear hg2 hg3
  rw [← hAX, ← hAY] at HS
  refine wp_cls 10 (fun w' => St w w' [blk g2 69 AX, blk g3 69 AY]) (by kernel_rfl) (by kernel_rfl) HS.out.drew ?_
  simp only [List.take_succ_cons, List.take_zero, List.drop_succ_cons, List.drop_zero]
  generalize hK : (fun w' => St w w' [blk g2 69 AX, blk g3 69 AY]) = K
  intro hne
  have kS : ∀ y : Wd K, St w y.w [blk g2 69 AX, blk g3 69 AY] := by subst hK; exact fun y => y.h
  have k0 : ∀ y : Wd K, y.w.cell? ⟨g2, 0, none⟩ = some (.string xd) := fun y => by have h := (kS y).blk_cell (i := 0) rfl 0; rw [hAX] at h; exact h
  have k1 : ∀ y : Wd K, y.w.cell? ⟨g2, 1, none⟩ = some (.int .i64 xn) := fun y => by have h := (kS y).blk_cell (i := 0) rfl 1; rw [hAX] at h; exact h
  have k2 : ∀ y : Wd K, y.w.cell? ⟨g3, 0, none⟩ = some (.string yd) := fun y => by have h := (kS y).blk_cell (i := 1) rfl 0; rw [hAY] at h; exact h
  have k3 : ∀ y : Wd K, y.w.cell? ⟨g3, 1, none⟩ = some (.int .i64 yn) := fun y => by have h := (kS y).blk_cell (i := 1) rfl 1; rw [hAY] at h; exact h
  have KS := Lib.hid kS
  clear hK kS HS
  iterate 4 (go_big_quiet_step ((fail)))
  go_big_quiet_step ((go_at_call 96; exact cls_same (HC1.out _)))
  iterate 4 (go_big_quiet_step ((fail)))
  go_big_quiet_step ((go_at_call 39; exact cls_same (HC2.out _)))
  refine wpQuiet_nil ?_
  intro y
  have SY := Lib.hid ((KS.out y).alloc (.cells #[.int .i64 ca, .int .i64 cb] 3))
  clear k0 k1 k2 k3 KS hne HC1 HC2
  generalize y.w = wy at *
  go_wp2_with (go_at_call 57; refine (or2 _ _ ca cb (by simp) (by simp) (by simp)).mono ?_; rintro e w' ⟨rfl, rfl⟩)
  go_ret
  exact ⟨rfl, SY.out.bel⟩
set_option maxHeartbeats 4000000 in
theorem cmpF_any (x y : MsI) (w : World) : Calls Tryz.prog 38 #[x.val, y.val] w fun e w' => e = .returned (.int .i64 (cmpN x.num y.num)) ∧ Below w.heap.size w w' := by
  obtain ⟨xd, xn, xp, xh, xs, xm⟩ := x
  obtain ⟨yd, yn, yp, yh, ys, ym⟩ := y
  unfold MsI.val
  simp only
  have hb := ((Below.refl w.heap.size w).alloc (Nat.le_refl _) (.cells #[.string xd, .int .i64 xn, .string xp, .int .i64 xh, .int .i64 xs, .string xm] 69)).alloc (by simp) (.cells #[.string yd, .int .i64 yn, .string yp, .int .i64 yh, .int .i64 ys, .string ym] 69)
  have HB := Lib.hid hb
  clear hb
  have HC2 := Lib.hid (fun w => cmpN_any xn yn w)
  generalize cmpN xn yn = cb at *
  go_enter Tryz.func38, Tryz.ntmps38
  go_wp2_with (go_at_call 39; refine (HC2.out _).mono ?_; rintro e w' ⟨rfl, rfl⟩)
  go_ret
  exact ⟨rfl, HB.out⟩
end Go.Proofs.YtnaafefcijgpkaaGreatDoor
/- Messages: CheckMessage, CheckFollower. -/
namespace Go.Proofs.YtnaafefcijgpkaaGreatDoor
open Go.RowKit Go.Mem Go.Sheet Go.Adj
theorem uOk5 (w : World) (g : Nat) (hg : g < w.heap.size) (h0 : w.cell? ⟨g, 0, none⟩ = some (.int .i64 0)) (h1 : w.cell? ⟨g, 1, none⟩ = some (.int .i64 0)) (h2 : w.cell? ⟨g, 2, none⟩ = some (.int .i64 0)) (h3 : w.cell? ⟨g, 3, none⟩ = some (.int .i64 0)) (h4 : w.cell? ⟨g, 4, none⟩ = some (.int .i64 0)) :
    Calls Tryz.prog 32 #[.slice (some ⟨g, 0, none⟩) 5 5] w fun r w' => r = .returned (.int .i64 0) ∧ w = w' :=
  uFirst_any w (fun _ => True) _ 5 [0, 0, 0, 0, 0] (rd_cells hg (by simp) fun j u hu => by
    match j, hu with
    | 0, hu => cases hu; exact h0
    | 1, hu => cases hu; exact h1
    | 2, hu => cases hu; exact h2
    | 3, hu => cases hu; exact h3
    | 4, hu => cases hu; exact h4)
def NmOk (d : ByteArray) : Prop := ∀ w, Calls Tryz.prog 66 #[.string d] w fun e w' => e = .returned (.bool true) ∧ Below w.heap.size w w'
structure GoodM (x : MsI) : Prop where
  dn : NmOk x.dev
  n1 : 1 ≤ x.num
  n2 : x.num ≤ 1000
  pn : NmOk x.plr
  h1 : 1 ≤ x.hole
  h2 : x.hole ≤ 36
  e : GoodE ⟨x.s, x.m⟩
set_option maxRecDepth 100000 in
set_option maxHeartbeats 4000000 in
theorem uChkMsg_ok (W : World) (x : MsI) (hg : GoodM x) : Calls Tryz.prog 34 #[x.val] W fun e w' => e = .returned (.int .i64 0) ∧ Below W.heap.size W w' := by
  obtain ⟨HN1, ha1, ha2, HN2, hb1, hb2, he⟩ := hg
  obtain ⟨xd, xn, xp, xh, xs, xm⟩ := x
  simp only at HN1 ha1 ha2 HN2 hb1 hb2 he
  unfold NmOk at HN1 HN2
  replace HN1 := Lib.hid HN1
  replace HN2 := Lib.hid HN2
  have HCE := Lib.hid (fun w => uCheckEntry_ok w xs xm he)
  clear he
  unfold MsI.val
  simp only
  obtain ⟨AX, hAX⟩ : ∃ A : Array Value, A = #[.string xd, .int .i64 xn, .string xp, .int .i64 xh, .int .i64 xs, .string xm] := ⟨_, rfl⟩
  have HAX := Lib.hid hAX
  have S0 := (St.refl W).blk_new #[.string xd, .int .i64 xn, .string xp, .int .i64 xh, .int .i64 xs, .string xm] 69
  simp only [List.nil_append] at S0
  have HS := Lib.hid S0
  clear S0
  go_enter Tryz.func34, Tryz.ntmps34
  go_wp2_with fail
  obtain ⟨g1, hg1⟩ : ∃ g, g = W.heap.size := ⟨_, rfl⟩
  rw [← hg1] at HS
  rw [← hg1]
  generalize World.alloc W _ = w1 at *
  rw [← hAX] at HS
  clear hg1 hAX
  refine wp_cls 21 (fun w' => St W w' [blk g1 69 AX]) (by kernel_rfl) (by kernel_rfl) HS.out.drew ?_
  simp only [List.take_succ_cons, List.take_zero, List.drop_succ_cons, List.drop_zero]
  generalize hK : (fun w' => St W w' [blk g1 69 AX]) = K
  intro hne
  have kS : ∀ y : Wd K, St W y.w [blk g1 69 AX] := by subst hK; exact fun y => y.h
  have hK3 : ∀ w w' : World, K w → Below w.heap.size w w' → K w' := by subst hK; exact fun w w' h h' => h.ext h'
  have k0 : ∀ y : Wd K, y.w.cell? ⟨g1, 0, none⟩ = some (.string xd) := fun y => by have h := (kS y).blk_cell (i := 0) rfl 0; rw [HAX.out] at h; exact h
  have k1 : ∀ y : Wd K, y.w.cell? ⟨g1, 1, none⟩ = some (.int .i64 xn) := fun y => by have h := (kS y).blk_cell (i := 0) rfl 1; rw [HAX.out] at h; exact h
  have k2 : ∀ y : Wd K, y.w.cell? ⟨g1, 2, none⟩ = some (.string xp) := fun y => by have h := (kS y).blk_cell (i := 0) rfl 2; rw [HAX.out] at h; exact h
  have k3 : ∀ y : Wd K, y.w.cell? ⟨g1, 3, none⟩ = some (.int .i64 xh) := fun y => by have h := (kS y).blk_cell (i := 0) rfl 3; rw [HAX.out] at h; exact h
  have k4 : ∀ y : Wd K, y.w.cell? ⟨g1, 4, none⟩ = some (.int .i64 xs) := fun y => by have h := (kS y).blk_cell (i := 0) rfl 4; rw [HAX.out] at h; exact h
  have k5 : ∀ y : Wd K, y.w.cell? ⟨g1, 5, none⟩ = some (.string xm) := fun y => by have h := (kS y).blk_cell (i := 0) rfl 5; rw [HAX.out] at h; exact h
  have KS := Lib.hid kS
  have HKK := Lib.hid hK3
  clear hK kS hK3
  go_big_quiet_step ((fail))
  go_big_quiet_step ((fail))
  go_big_quiet_step ((go_at_call 66; exact cls_below HKK.out (HN1.out _)))
  go_big_quiet_step ((fail))
  go_big_quiet_step ((go_at_call 59; exact cls_same (uNo _ _)))
  go_big_quiet_step ((fail))
  go_big_quiet_step ((fail))
  go_big_quiet_step ((go_at_call 67; exact cls_same (uIn _ _ _ _ ha1 ha2)))
  go_big_quiet_step ((go_at_call 59; exact cls_same (uNo _ _)))
  go_big_quiet_step ((fail))
  go_big_quiet_step ((fail))
  go_big_quiet_step ((go_at_call 66; exact cls_below HKK.out (HN2.out _)))
  go_big_quiet_step ((fail))
  go_big_quiet_step ((go_at_call 59; exact cls_same (uNo _ _)))
  go_big_quiet_step ((fail))
  go_big_quiet_step ((fail))
  go_big_quiet_step ((go_at_call 67; exact cls_same (uIn _ _ _ _ hb1 hb2)))
  go_big_quiet_step ((go_at_call 59; exact cls_same (uNo _ _)))
  go_big_quiet_step ((fail))
  go_big_quiet_step ((fail))
  go_big_quiet_step ((go_at_call 68; exact cls_below HKK.out (HCE.out _)))
  refine wpQuiet_nil ?_
  intro y
  have SY := Lib.hid (KS.out y)
  clear k0 k1 k2 k3 k4 k5 KS HKK hne HS
  generalize y.w = wy at *
  have HSZ := Lib.hid (SY.out.alloc (.cells #[.int .i64 0, .int .i64 0, .int .i64 0, .int .i64 0, .int .i64 0] 38))
  clear SY
  go_wp2_with (go_at_call 32; refine (uOk5 _ _ (by simp) (by simp) (by simp) (by simp) (by simp) (by simp)).mono ?_; rintro e w' ⟨rfl, rfl⟩)
  go_ret
  exact ⟨rfl, HSZ.out.bel⟩
end Go.Proofs.YtnaafefcijgpkaaGreatDoor
/- Messages: CheckFollower. -/
namespace Go.Proofs.YtnaafefcijgpkaaGreatDoor
open Go.RowKit Go.Mem Go.Sheet Go.Adj
theorem rd_pcM {w : World} {S : Nat → Prop} {n : Nat} {A : Option Addr} {m c k : Nat} {Y : Nat → MsI} (h : Rd w S 6 (.slice A m c) n (pcM Y n)) (hk : k < n) :
    ∃ b o, A = some ⟨b, o, none⟩ ∧ b < w.heap.size ∧ w.cell? ⟨b, o + k * 6, none⟩ = some (.string (Y k).dev) ∧ w.cell? ⟨b, o + k * 6 + 1, none⟩ = some (.int .i64 (Y k).num) ∧ w.cell? ⟨b, o + k * 6 + 2, none⟩ = some (.string (Y k).plr) ∧ w.cell? ⟨b, o + k * 6 + 3, none⟩ = some (.int .i64 (Y k).hole) ∧ w.cell? ⟨b, o + k * 6 + 4, none⟩ = some (.int .i64 (Y k).s) ∧ w.cell? ⟨b, o + k * 6 + 5, none⟩ = some (.string (Y k).m) := by
  obtain ⟨b, o, e, _, hb, hc⟩ := h.addr (by omega)
  exact ⟨b, o, e, hb, hc _ _ (pcM_at Y (a := k) (b := 0) hk (by decide)), hc _ _ (pcM_at Y (a := k) (b := 1) hk (by decide)), hc _ _ (pcM_at Y (a := k) (b := 2) hk (by decide)), hc _ _ (pcM_at Y (a := k) (b := 3) hk (by decide)), hc _ _ (pcM_at Y (a := k) (b := 4) hk (by decide)), hc _ _ (pcM_at Y (a := k) (b := 5) hk (by decide))⟩
set_option maxRecDepth 100000 in
set_option maxHeartbeats 8000000 in
theorem uChkFol_ok (W : World) (v : Value) (n : Nat) (Y : Nat → MsI) (hn : n ≤ 1000) (h : Rd W (· < W.heap.size) 6 v n (pcM Y n)) (hg : ∀ i, i < n → GoodM (Y i)) (ho : ∀ i, i + 1 < n → ltM (Y i) (Y (i + 1))) :
    Calls Tryz.prog 33 #[.agg #[v]] W fun e w' => e = .returned (.int .i64 0) ∧ Below W.heap.size W w' := by
  obtain ⟨A, c, rfl, _, _, h⟩ := h.open_
  have HR : Hid (∀ w, Below W.heap.size W w → Rd w (· < w.heap.size) 6 (.slice A n c) n (pcM Y n)) := Lib.hid (fun w hb => h.later hb)
  have HG := Lib.hid hg
  have HO := Lib.hid ho
  clear h hg ho
  have t0 : decide (1000 < (n : Int)) = false := decide_eq_false (by omega)
  have t0' : decide (1000 < n) = false := decide_eq_false (by omega)
  have S0 := (St.refl W).blk_new #[.slice A n c] 71
  simp only [List.nil_append] at S0
  have d0 := S0.blk_cell (i := 0) rfl 0
  go_enter Tryz.func33, Tryz.ntmps33
  go_wp2_with fail
  obtain ⟨g1, hg1⟩ : ∃ g, g = W.heap.size := ⟨_, rfl⟩
  rw [← hg1] at S0
  rw [← hg1]
  generalize W.alloc (.cells #[.slice A n c] 71) = w1 at *
  have HS0 := Lib.hid S0
  clear S0 hg1 d0 t0 t0'
  go_loopw [13] (fun i w' => ∃ k : Nat, k ≤ n ∧ i = .int .i64 k ∧ St W w' [blk g1 71 #[.slice A n c]]) (fun i _ => n - (intOf i).toNat)
  case atStart => exact ⟨0, Nat.zero_le _, rfl, HS0.out⟩
  case round =>
    obtain ⟨k, hk, rfl, S⟩ := hrel
    clear HS0
    by_cases hlt : k < n
    · obtain ⟨b, o, rfl, _, c0, c1, c2, c3, c4, c5⟩ := rd_pcM (HR.out wr S.bel) hlt
      have HGX := Lib.hid (HG.out k hlt)
      have HOX := Lib.hid (fun kp (e : kp + 1 = k) => HO.out kp (by omega))
      have HRK := Lib.hid (fun kp (e : kp < n) w (hb : Below W.heap.size W w) => rd_pcM (HR.out w hb) e)
      have HCM := Lib.hid (fun w => uChkMsg_ok w (Y k) HGX.out)
      clear HGX
      have HS := Lib.hid S
      rcases Nat.eq_zero_or_pos k with h0 | h0
      · subst h0
        have t1 : decide ((0 : Int) < ((0 : Nat) : Int)) = false := by simp
        clear HOX HRK S
        generalize Y 0 = x at *
        obtain ⟨xd, xn, xp, xh, xs, xm⟩ := x
        unfold MsI.val at HCM
        simp only [Nat.zero_mul, Nat.add_zero] at HCM c0 c1 c2 c3 c4 c5
        obtain ⟨AX, hAX⟩ : ∃ A : Array Value, A = #[.string xd, .int .i64 xn, .string xp, .int .i64 xh, .int .i64 xs, .string xm] := ⟨_, rfl⟩
        have HAX := Lib.hid hAX
        have SA := HS.out.blk_new AX 69
        simp only [List.cons_append, List.nil_append] at SA
        have HS := Lib.hid SA
        clear SA
        go_wp2_with fail
        rw [← hAX]
        clear c0 c1 c2 c3 c4 c5 hAX
        generalize wr.heap.size = gx at *
        generalize wr.alloc (.cells AX 69) = w3 at *
        refine wp_cls 16 (fun w' => St W w' [blk g1 71 #[.slice (some ⟨b, o, none⟩) n c], blk gx 69 AX]) (by kernel_rfl) (by kernel_rfl) HS.out.drew ?_
        simp only [List.take_succ_cons, List.take_zero, List.drop_succ_cons, List.drop_zero]
        generalize hK : (fun w' => St W w' [blk g1 71 #[.slice (some ⟨b, o, none⟩) n c], blk gx 69 AX]) = K
        intro hne
        have kS : ∀ y : Wd K, St W y.w [blk g1 71 #[.slice (some ⟨b, o, none⟩) n c], blk gx 69 AX] := by subst hK; exact fun y => y.h
        have hK3 : ∀ w w' : World, K w → Below w.heap.size w w' → K w' := by subst hK; exact fun w w' h h' => h.ext h'
        have k0 : ∀ y : Wd K, y.w.cell? ⟨g1, 0, none⟩ = some (.slice (some ⟨b, o, none⟩) n c) := fun y => (kS y).blk_cell (i := 0) rfl 0
        have k1 : ∀ y : Wd K, y.w.cell? ⟨gx, 0, none⟩ = some (.string xd) := fun y => by have h := (kS y).blk_cell (i := 1) rfl 0; rw [HAX.out] at h; exact h
        have k2 : ∀ y : Wd K, y.w.cell? ⟨gx, 1, none⟩ = some (.int .i64 xn) := fun y => by have h := (kS y).blk_cell (i := 1) rfl 1; rw [HAX.out] at h; exact h
        have k3 : ∀ y : Wd K, y.w.cell? ⟨gx, 2, none⟩ = some (.string xp) := fun y => by have h := (kS y).blk_cell (i := 1) rfl 2; rw [HAX.out] at h; exact h
        have k4 : ∀ y : Wd K, y.w.cell? ⟨gx, 3, none⟩ = some (.int .i64 xh) := fun y => by have h := (kS y).blk_cell (i := 1) rfl 3; rw [HAX.out] at h; exact h
        have k5 : ∀ y : Wd K, y.w.cell? ⟨gx, 4, none⟩ = some (.int .i64 xs) := fun y => by have h := (kS y).blk_cell (i := 1) rfl 4; rw [HAX.out] at h; exact h
        have k6 : ∀ y : Wd K, y.w.cell? ⟨gx, 5, none⟩ = some (.string xm) := fun y => by have h := (kS y).blk_cell (i := 1) rfl 5; rw [HAX.out] at h; exact h
        have KS := Lib.hid kS
        have HKK := Lib.hid hK3
        clear hK kS hK3
        go_big_quiet_step ((fail))
        go_big_quiet_step ((go_at_call 34; exact cls_below HKK.out (HCM.out _)))
        repeat (go_big_quiet_step ((go_at_call 59; exact cls_same (uNo _ _))))
        refine wpQuiet_nil ?_
        intro y
        have SY := Lib.hid (KS.out y)
        clear k0 k1 k2 k3 k4 k5 k6 KS HKK hne HS
        generalize y.w = wy at *
        have S9 := SY.out.alloc (.cells #[.int .i64 0, .int .i64 0] 38)
        have HSZ := Lib.hid S9
        clear SY S9
        go_wp2_with (go_at_call 32; refine (uOk2 _ _ (by simp) (by simp) (by simp)).mono ?_; rintro e w' ⟨rfl, rfl⟩)
        go_roundw
        case rel => exact ⟨1, by omega, by go_num, HSZ.out.sub (L' := [_]) (List.sublist_append_left [_] [_])⟩
        case measure => simp [intOf]; omega
      · obtain ⟨kp, hkp⟩ : ∃ kp, kp = k - 1 := ⟨_, rfl⟩
        have hkm : (k : Int) - 1 = (kp : Int) := by omega
        have hkw : IntKind.i64.wrap ((k : Int) - 1) = (kp : Int) := by rw [hkm]; exact IntWalk.i64_in _ (by omega)
        have hkn : kp < n := by omega
        have hk1 : kp + 1 = k := by omega
        have t1 : decide ((0 : Int) < (k : Int)) = true := by simp; omega
        have t1' : decide (0 < k) = true := by simp; omega
        have hlm := HOX.out kp hk1
        rw [hk1] at hlm
        have hcv := (cmpM_lt (Y kp) (Y k)).2 hlm
        have HCP := Lib.hid (fun w => cmpM_any (Y kp) (Y k) w)
        have HRP : Hid (∀ w, Below W.heap.size W w → w.cell? ⟨b, o + kp * 6, none⟩ = some (.string (Y kp).dev) ∧ w.cell? ⟨b, o + kp * 6 + 1, none⟩ = some (.int .i64 (Y kp).num) ∧ w.cell? ⟨b, o + kp * 6 + 2, none⟩ = some (.string (Y kp).plr) ∧ w.cell? ⟨b, o + kp * 6 + 3, none⟩ = some (.int .i64 (Y kp).hole) ∧ w.cell? ⟨b, o + kp * 6 + 4, none⟩ = some (.int .i64 (Y kp).s) ∧ w.cell? ⟨b, o + kp * 6 + 5, none⟩ = some (.string (Y kp).m)) := Lib.hid (fun w hb => by
          obtain ⟨b', o', e, _, hc⟩ := HRK.out kp hkn w hb
          cases e
          exact hc)
        clear HOX HRK S hlm hkp hk1 h0
        generalize cmpM (Y kp) (Y k) = cv at *
        have t2 : decide ((0 : Int) ≤ cv) = false := decide_eq_false (by omega)
        clear hcv
        generalize Y k = x at *
        generalize Y kp = z at *
        obtain ⟨xd, xn, xp, xh, xs, xm⟩ := x
        obtain ⟨zd, zn, zp, zh, zs, zm⟩ := z
        unfold MsI.val at HCM HCP
        simp only at HCM HCP HRP c0 c1 c2 c3 c4 c5
        obtain ⟨AX, hAX⟩ : ∃ A : Array Value, A = #[.string xd, .int .i64 xn, .string xp, .int .i64 xh, .int .i64 xs, .string xm] := ⟨_, rfl⟩
        have HAX := Lib.hid hAX
        have SA := HS.out.blk_new AX 69
        simp only [List.cons_append, List.nil_append] at SA
        have HS := Lib.hid SA
        clear SA
        go_wp2_with fail
        rw [← hAX]
        clear c0 c1 c2 c3 c4 c5 hAX
        generalize wr.heap.size = gx at *
        generalize wr.alloc (.cells AX 69) = w3 at *
        refine wp_cls 16 (fun w' => St W w' [blk g1 71 #[.slice (some ⟨b, o, none⟩) n c], blk gx 69 AX]) (by kernel_rfl) (by kernel_rfl) HS.out.drew ?_
        simp only [List.take_succ_cons, List.take_zero, List.drop_succ_cons, List.drop_zero]
        generalize hK : (fun w' => St W w' [blk g1 71 #[.slice (some ⟨b, o, none⟩) n c], blk gx 69 AX]) = K
        intro hne
        have kS : ∀ y : Wd K, St W y.w [blk g1 71 #[.slice (some ⟨b, o, none⟩) n c], blk gx 69 AX] := by subst hK; exact fun y => y.h
        have hK3 : ∀ w w' : World, K w → Below w.heap.size w w' → K w' := by subst hK; exact fun w w' h h' => h.ext h'
        have k0 : ∀ y : Wd K, y.w.cell? ⟨g1, 0, none⟩ = some (.slice (some ⟨b, o, none⟩) n c) := fun y => (kS y).blk_cell (i := 0) rfl 0
        have k1 : ∀ y : Wd K, y.w.cell? ⟨gx, 0, none⟩ = some (.string xd) := fun y => by have h := (kS y).blk_cell (i := 1) rfl 0; rw [HAX.out] at h; exact h
        have k2 : ∀ y : Wd K, y.w.cell? ⟨gx, 1, none⟩ = some (.int .i64 xn) := fun y => by have h := (kS y).blk_cell (i := 1) rfl 1; rw [HAX.out] at h; exact h
        have k3 : ∀ y : Wd K, y.w.cell? ⟨gx, 2, none⟩ = some (.string xp) := fun y => by have h := (kS y).blk_cell (i := 1) rfl 2; rw [HAX.out] at h; exact h
        have k4 : ∀ y : Wd K, y.w.cell? ⟨gx, 3, none⟩ = some (.int .i64 xh) := fun y => by have h := (kS y).blk_cell (i := 1) rfl 3; rw [HAX.out] at h; exact h
        have k5 : ∀ y : Wd K, y.w.cell? ⟨gx, 4, none⟩ = some (.int .i64 xs) := fun y => by have h := (kS y).blk_cell (i := 1) rfl 4; rw [HAX.out] at h; exact h
        have k6 : ∀ y : Wd K, y.w.cell? ⟨gx, 5, none⟩ = some (.string xm) := fun y => by have h := (kS y).blk_cell (i := 1) rfl 5; rw [HAX.out] at h; exact h
        have k7 : ∀ y : Wd K, y.w.cell? ⟨b, o + kp * 6, none⟩ = some (.string zd) := fun y => (HRP.out y.w (kS y).bel).1
        have k8 : ∀ y : Wd K, y.w.cell? ⟨b, o + kp * 6 + 1, none⟩ = some (.int .i64 zn) := fun y => (HRP.out y.w (kS y).bel).2.1
        have k9 : ∀ y : Wd K, y.w.cell? ⟨b, o + kp * 6 + 2, none⟩ = some (.string zp) := fun y => (HRP.out y.w (kS y).bel).2.2.1
        have k10 : ∀ y : Wd K, y.w.cell? ⟨b, o + kp * 6 + 3, none⟩ = some (.int .i64 zh) := fun y => (HRP.out y.w (kS y).bel).2.2.2.1
        have k11 : ∀ y : Wd K, y.w.cell? ⟨b, o + kp * 6 + 4, none⟩ = some (.int .i64 zs) := fun y => (HRP.out y.w (kS y).bel).2.2.2.2.1
        have k12 : ∀ y : Wd K, y.w.cell? ⟨b, o + kp * 6 + 5, none⟩ = some (.string zm) := fun y => (HRP.out y.w (kS y).bel).2.2.2.2.2
        have KS := Lib.hid kS
        have HKK := Lib.hid hK3
        clear hK kS hK3
        go_big_quiet_step ((fail))
        go_big_quiet_step ((go_at_call 34; exact cls_below HKK.out (HCM.out _)))
        go_big_quiet_step ((fail))
        go_big_quiet_step ((fail))
        go_big_quiet_step ((fail))
        go_big_quiet_step ((fail))
        go_big_quiet_step ((fail))
        go_big_quiet_step ((fail))
        go_big_quiet_step ((fail))
        go_big_quiet_step ((fail))
        go_big_quiet_step ((fail))
        go_big_quiet_step ((fail))
        go_big_quiet_step ((go_at_call 65; exact cls_below HKK.out (HCP.out _)))
        go_big_quiet_step ((fail))
        go_big_quiet_step ((fail))
        go_big_quiet_step ((go_at_call 59; exact cls_same (uNo _ _)))
        refine wpQuiet_nil ?_
        intro y
        have SY := Lib.hid (KS.out y)
        clear k0 k1 k2 k3 k4 k5 k6 k7 k8 k9 k10 k11 k12 KS HKK hne HS
        generalize y.w = wy at *
        have S9 := SY.out.alloc (.cells #[.int .i64 0, .int .i64 0] 38)
        have HSZ := Lib.hid S9
        clear SY S9
        go_wp2_with (go_at_call 32; refine (uOk2 _ _ (by simp) (by simp) (by simp)).mono ?_; rintro e w' ⟨rfl, rfl⟩)
        go_roundw
        case rel => exact ⟨k + 1, by omega, by go_num, HSZ.out.sub (L' := [_]) (List.sublist_append_left [_] [_])⟩
        case measure => simp [intOf]; omega
    · obtain rfl : n = k := by omega
      have HB := Lib.hid S.bel
      clear S
      go_wp2_with fail
      go_ret
      exact ⟨rfl, HB.out⟩
end Go.Proofs.YtnaafefcijgpkaaGreatDoor
/- Messages: the library's binary search. -/
namespace Go.Proofs.YtnaafefcijgpkaaGreatDoor
open Go.RowKit Go.Mem Go.Sheet Go.Adj
def BsPost (W : World) (n : Nat) (Y : Nat → MsI) (x : MsI) (e : Ending) (w' : World) : Prop :=
  ∃ (at_ : Nat) (d : Bool), at_ ≤ n ∧ (d = true ↔ at_ < n ∧ (Y at_).dev = x.dev ∧ (Y at_).num = x.num) ∧ (∀ i, i < at_ → ltM (Y i) x) ∧ (∀ i, at_ ≤ i → i < n → ¬ ltM (Y i) x) ∧ e = .returned (.tuple #[.int .i64 at_, .bool d]) ∧ Below W.heap.size W w'
set_option maxRecDepth 100000 in
set_option maxHeartbeats 8000000 in
theorem bsM_any (W : World) (v : Value) (n : Nat) (Y : Nat → MsI) (x : MsI) (hn : n ≤ 1000) (h : Rd W (· < W.heap.size) 6 v n (pcM Y n)) (ho : ∀ i j, i < j → j < n → ltM (Y i) (Y j)) :
    Calls Tryz.prog 98 #[v, x.val, .func (.func 65) #[] #[]] W fun e w' => BsPost W n Y x e w' := by
  obtain ⟨A, c, rfl, _, _, h⟩ := h.open_
  have HR : Hid (∀ w, Below W.heap.size W w → Rd w (· < w.heap.size) 6 (.slice A n c) n (pcM Y n)) := Lib.hid (fun w hb => h.later hb)
  have HO := Lib.hid ho
  clear h ho
  obtain ⟨xd, xn, xp, xh, xs, xm⟩ := x
  have hE := enters Tryz.func65 (by kernel_rfl) rfl
  unfold Enters at hE
  unfold MsI.val
  simp only
  obtain ⟨AX, hAX⟩ : ∃ A : Array Value, A = #[.string xd, .int .i64 xn, .string xp, .int .i64 xh, .int .i64 xs, .string xm] := ⟨_, rfl⟩
  have HAX := Lib.hid hAX
  have S0 := (St.refl W).blk_new AX 69
  simp only [List.nil_append] at S0
  have HS := Lib.hid S0
  clear S0
  go_enter Tryz.func98, Tryz.ntmps98
  go_wp2_with fail
  obtain ⟨g4, hg4⟩ : ∃ g, g = W.heap.size := ⟨_, rfl⟩
  rw [← hg4] at HS
  rw [← hg4, ← hAX]
  generalize W.alloc (.cells AX 69) = w1 at *
  clear hg4
  go_loopw [9, 10] (fun i j w' => ∃ a b : Nat, a ≤ b ∧ b ≤ n ∧ i = .int .i64 a ∧ j = .int .i64 b ∧ Hid (∀ q, q < a → ltM (Y q) ⟨xd, xn, xp, xh, xs, xm⟩) ∧ Hid (∀ q, b ≤ q → q < n → ¬ ltM (Y q) ⟨xd, xn, xp, xh, xs, xm⟩) ∧ St W w' [blk g4 69 AX]) (fun i j _ => (intOf j).toNat - (intOf i).toNat)
  case atStart => exact ⟨0, n, Nat.zero_le _, Nat.le_refl _, rfl, rfl, Lib.hid (fun q hq => absurd hq (by omega)), Lib.hid (fun q hq hq2 => absurd hq2 (by omega)), HS.out⟩
  case round =>
    obtain ⟨a, b, hab, hbn, rfl, rfl, HA, HB, S⟩ := hrel
    clear HS
    by_cases hlt : a < b
    · obtain ⟨m, hm⟩ : ∃ m, m = (a + b) / 2 := ⟨_, rfl⟩
      have hmi : ((a : Int) + (b : Int)) / 2 = (m : Int) := by omega
      have hmn : m < n := by omega
      have hma : a ≤ m := by omega
      have hmb : m < b := by omega
      clear hm
      go_wp2_with fail
      clear hmi
      obtain ⟨b0, o0, eA, _, _⟩ := rd_pcM (HR.out wr S.bel) hmn
      subst eA
      have HRP : Hid (∀ w, Below W.heap.size W w → w.cell? ⟨b0, o0 + m * 6, none⟩ = some (.string (Y m).dev) ∧ w.cell? ⟨b0, o0 + m * 6 + 1, none⟩ = some (.int .i64 (Y m).num) ∧ w.cell? ⟨b0, o0 + m * 6 + 2, none⟩ = some (.string (Y m).plr) ∧ w.cell? ⟨b0, o0 + m * 6 + 3, none⟩ = some (.int .i64 (Y m).hole) ∧ w.cell? ⟨b0, o0 + m * 6 + 4, none⟩ = some (.int .i64 (Y m).s) ∧ w.cell? ⟨b0, o0 + m * 6 + 5, none⟩ = some (.string (Y m).m)) := Lib.hid (fun w hb => by
        obtain ⟨b', o', e, _, hc⟩ := rd_pcM (HR.out w hb) hmn
        cases e
        exact hc)
      have HCP := Lib.hid (fun w => cmpM_any (Y m) ⟨xd, xn, xp, xh, xs, xm⟩ w)
      have HLT := Lib.hid (cmpM_lt (Y m) ⟨xd, xn, xp, xh, xs, xm⟩)
      have HEQ := Lib.hid (cmpM_eq (Y m) ⟨xd, xn, xp, xh, xs, xm⟩)
      have HYJ : Hid (∃ z, z = Y m) := Lib.hid ⟨_, rfl⟩
      have HS := Lib.hid S
      clear S
      generalize cmpM (Y m) ⟨xd, xn, xp, xh, xs, xm⟩ = cv at *
      generalize hyz : Y m = z at *
      have HYZ := Lib.hid hyz
      clear hyz HYJ
      obtain ⟨zd, zn, zp, zh, zs, zm⟩ := z
      unfold MsI.val at HCP
      simp only at HCP HRP HEQ
      refine wp_cls 7 (fun w' => St W w' [blk g4 69 AX]) (by kernel_rfl) (by kernel_rfl) HS.out.drew ?_
      simp only [List.take_succ_cons, List.take_zero, List.drop_succ_cons, List.drop_zero]
      generalize hK : (fun w' => St W w' [blk g4 69 AX]) = K
      intro hne
      have kS : ∀ y : Wd K, St W y.w [blk g4 69 AX] := by subst hK; exact fun y => y.h
      have hK3 : ∀ w w' : World, K w → Below w.heap.size w w' → K w' := by subst hK; exact fun w w' h h' => h.ext h'
      have k0 : ∀ y : Wd K, y.w.cell? ⟨g4, 0, none⟩ = some (.string xd) := fun y => by have h := (kS y).blk_cell (i := 0) rfl 0; rw [HAX.out] at h; exact h
      have k1 : ∀ y : Wd K, y.w.cell? ⟨g4, 1, none⟩ = some (.int .i64 xn) := fun y => by have h := (kS y).blk_cell (i := 0) rfl 1; rw [HAX.out] at h; exact h
      have k2 : ∀ y : Wd K, y.w.cell? ⟨g4, 2, none⟩ = some (.string xp) := fun y => by have h := (kS y).blk_cell (i := 0) rfl 2; rw [HAX.out] at h; exact h
      have k3 : ∀ y : Wd K, y.w.cell? ⟨g4, 3, none⟩ = some (.int .i64 xh) := fun y => by have h := (kS y).blk_cell (i := 0) rfl 3; rw [HAX.out] at h; exact h
      have k4 : ∀ y : Wd K, y.w.cell? ⟨g4, 4, none⟩ = some (.int .i64 xs) := fun y => by have h := (kS y).blk_cell (i := 0) rfl 4; rw [HAX.out] at h; exact h
      have k5 : ∀ y : Wd K, y.w.cell? ⟨g4, 5, none⟩ = some (.string xm) := fun y => by have h := (kS y).blk_cell (i := 0) rfl 5; rw [HAX.out] at h; exact h
      have k6 : ∀ y : Wd K, y.w.cell? ⟨b0, o0 + m * 6, none⟩ = some (.string zd) := fun y => (HRP.out y.w (kS y).bel).1
      have k7 : ∀ y : Wd K, y.w.cell? ⟨b0, o0 + m * 6 + 1, none⟩ = some (.int .i64 zn) := fun y => (HRP.out y.w (kS y).bel).2.1
      have k8 : ∀ y : Wd K, y.w.cell? ⟨b0, o0 + m * 6 + 2, none⟩ = some (.string zp) := fun y => (HRP.out y.w (kS y).bel).2.2.1
      have k9 : ∀ y : Wd K, y.w.cell? ⟨b0, o0 + m * 6 + 3, none⟩ = some (.int .i64 zh) := fun y => (HRP.out y.w (kS y).bel).2.2.2.1
      have k10 : ∀ y : Wd K, y.w.cell? ⟨b0, o0 + m * 6 + 4, none⟩ = some (.int .i64 zs) := fun y => (HRP.out y.w (kS y).bel).2.2.2.2.1
      have k11 : ∀ y : Wd K, y.w.cell? ⟨b0, o0 + m * 6 + 5, none⟩ = some (.string zm) := fun y => (HRP.out y.w (kS y).bel).2.2.2.2.2
      have KS := Lib.hid kS
      have HKK := Lib.hid hK3
      clear hK kS hK3
      go_big_quiet_step ((fail))
      go_big_quiet_step ((fail))
      go_big_quiet_step ((fail))
      go_big_quiet_step ((fail))
      go_big_quiet_step ((fail))
      go_big_quiet_step ((fail))
      go_big_quiet_step ((exact cls_below HKK.out (HCP.out _)))
      refine wpQuiet_nil ?_
      intro y
      have SY := Lib.hid (KS.out y)
      clear k0 k1 k2 k3 k4 k5 k6 k7 k8 k9 k10 k11 KS HKK hne HS
      generalize y.w = wy at *
      rcases Classical.em (cv < 0) with hcv | hcv
      · have t1 : decide (cv < 0) = true := decide_eq_true hcv
        have HL := Lib.hid (HLT.out.1 hcv)
        clear hcv HLT HEQ
        go_wp2_with fail
        go_roundw
        case rel => exact ⟨m + 1, b, by omega, hbn, by go_num, rfl, Lib.hid (fun q hq => by
            rcases Nat.lt_or_ge q m with h | h
            · have h1 := HO.out q m h hmn
              rw [HYZ.out] at h1
              exact ltM_trans h1 HL.out
            · obtain rfl : q = m := by omega
              rw [HYZ.out]; exact HL.out), HB, SY.out⟩
        case measure => simp [intOf]; omega
      · have t1 : decide (cv < 0) = false := decide_eq_false hcv
        have HL := Lib.hid (fun h => hcv (HLT.out.2 h))
        clear hcv HLT HEQ
        go_wp2_with fail
        go_roundw
        case rel => exact ⟨a, m, by omega, by omega, rfl, rfl, HA, Lib.hid (fun q hq hq2 h => by
            rcases Nat.lt_or_ge m q with h2 | h2
            · have h1 := HO.out m q h2 hq2
              rw [HYZ.out] at h1
              exact HL.out (ltM_trans h1 h)
            · obtain rfl : q = m := by omega
              rw [HYZ.out] at h; exact HL.out h), SY.out⟩
        case measure => simp [intOf]; omega
    · obtain rfl : a = b := by omega
      clear hlt
      by_cases hmn : a < n
      · have t1 : decide ((a : Int) < (n : Int)) = true := by simp; omega
        have t1' : decide (a < n) = true := by simp; omega
        go_wp2_with fail
        obtain ⟨b0, o0, eA, _, _⟩ := rd_pcM (HR.out wr S.bel) hmn
        subst eA
        have HRP : Hid (∀ w, Below W.heap.size W w → w.cell? ⟨b0, o0 + a * 6, none⟩ = some (.string (Y a).dev) ∧ w.cell? ⟨b0, o0 + a * 6 + 1, none⟩ = some (.int .i64 (Y a).num) ∧ w.cell? ⟨b0, o0 + a * 6 + 2, none⟩ = some (.string (Y a).plr) ∧ w.cell? ⟨b0, o0 + a * 6 + 3, none⟩ = some (.int .i64 (Y a).hole) ∧ w.cell? ⟨b0, o0 + a * 6 + 4, none⟩ = some (.int .i64 (Y a).s) ∧ w.cell? ⟨b0, o0 + a * 6 + 5, none⟩ = some (.string (Y a).m)) := Lib.hid (fun w hb => by
          obtain ⟨b', o', e, _, hc⟩ := rd_pcM (HR.out w hb) hmn
          cases e
          exact hc)
        have HCP := Lib.hid (fun w => cmpM_any (Y a) ⟨xd, xn, xp, xh, xs, xm⟩ w)
        have HLT := Lib.hid (cmpM_lt (Y a) ⟨xd, xn, xp, xh, xs, xm⟩)
        have HEQ := Lib.hid (cmpM_eq (Y a) ⟨xd, xn, xp, xh, xs, xm⟩)
        have HYJ : Hid (∃ z, z = Y a) := Lib.hid ⟨_, rfl⟩
        have HS := Lib.hid S
        clear S
        generalize cmpM (Y a) ⟨xd, xn, xp, xh, xs, xm⟩ = cv at *
        generalize hyz : Y a = z at *
        have HYZ := Lib.hid hyz
        clear hyz HYJ
        obtain ⟨zd, zn, zp, zh, zs, zm⟩ := z
        unfold MsI.val at HCP
        simp only at HCP HRP HEQ
        refine wp_cls 15 (fun w' => St W w' [blk g4 69 AX]) (by kernel_rfl) (by kernel_rfl) HS.out.drew ?_
        simp only [List.take_succ_cons, List.take_zero, List.drop_succ_cons, List.drop_zero]
        generalize hK : (fun w' => St W w' [blk g4 69 AX]) = K
        intro hne
        have kS : ∀ y : Wd K, St W y.w [blk g4 69 AX] := by subst hK; exact fun y => y.h
        have hK3 : ∀ w w' : World, K w → Below w.heap.size w w' → K w' := by subst hK; exact fun w w' h h' => h.ext h'
        have k0 : ∀ y : Wd K, y.w.cell? ⟨g4, 0, none⟩ = some (.string xd) := fun y => by have h := (kS y).blk_cell (i := 0) rfl 0; rw [HAX.out] at h; exact h
        have k1 : ∀ y : Wd K, y.w.cell? ⟨g4, 1, none⟩ = some (.int .i64 xn) := fun y => by have h := (kS y).blk_cell (i := 0) rfl 1; rw [HAX.out] at h; exact h
        have k2 : ∀ y : Wd K, y.w.cell? ⟨g4, 2, none⟩ = some (.string xp) := fun y => by have h := (kS y).blk_cell (i := 0) rfl 2; rw [HAX.out] at h; exact h
        have k3 : ∀ y : Wd K, y.w.cell? ⟨g4, 3, none⟩ = some (.int .i64 xh) := fun y => by have h := (kS y).blk_cell (i := 0) rfl 3; rw [HAX.out] at h; exact h
        have k4 : ∀ y : Wd K, y.w.cell? ⟨g4, 4, none⟩ = some (.int .i64 xs) := fun y => by have h := (kS y).blk_cell (i := 0) rfl 4; rw [HAX.out] at h; exact h
        have k5 : ∀ y : Wd K, y.w.cell? ⟨g4, 5, none⟩ = some (.string xm) := fun y => by have h := (kS y).blk_cell (i := 0) rfl 5; rw [HAX.out] at h; exact h
        have k6 : ∀ y : Wd K, y.w.cell? ⟨b0, o0 + a * 6, none⟩ = some (.string zd) := fun y => (HRP.out y.w (kS y).bel).1
        have k7 : ∀ y : Wd K, y.w.cell? ⟨b0, o0 + a * 6 + 1, none⟩ = some (.int .i64 zn) := fun y => (HRP.out y.w (kS y).bel).2.1
        have k8 : ∀ y : Wd K, y.w.cell? ⟨b0, o0 + a * 6 + 2, none⟩ = some (.string zp) := fun y => (HRP.out y.w (kS y).bel).2.2.1
        have k9 : ∀ y : Wd K, y.w.cell? ⟨b0, o0 + a * 6 + 3, none⟩ = some (.int .i64 zh) := fun y => (HRP.out y.w (kS y).bel).2.2.2.1
        have k10 : ∀ y : Wd K, y.w.cell? ⟨b0, o0 + a * 6 + 4, none⟩ = some (.int .i64 zs) := fun y => (HRP.out y.w (kS y).bel).2.2.2.2.1
        have k11 : ∀ y : Wd K, y.w.cell? ⟨b0, o0 + a * 6 + 5, none⟩ = some (.string zm) := fun y => (HRP.out y.w (kS y).bel).2.2.2.2.2
        have KS := Lib.hid kS
        have HKK := Lib.hid hK3
        clear hK kS hK3
        go_big_quiet_step ((fail))
        go_big_quiet_step ((fail))
        go_big_quiet_step ((fail))
        go_big_quiet_step ((fail))
        go_big_quiet_step ((fail))
        go_big_quiet_step ((fail))
        go_big_quiet_step ((fail))
        go_big_quiet_step ((fail))
        go_big_quiet_step ((fail))
        go_big_quiet_step ((fail))
        go_big_quiet_step ((fail))
        go_big_quiet_step ((exact cls_below HKK.out (HCP.out _)))
        go_big_quiet_step ((fail))
        go_big_quiet_step ((fail))
        go_big_quiet_step ((fail))
        refine wpQuiet_nil ?_
        intro y
        have SY := Lib.hid (KS.out y)
        clear k0 k1 k2 k3 k4 k5 k6 k7 k8 k9 k10 k11 KS HKK hne HS
        generalize y.w = wy at *
        go_wp2_with fail
        go_ret2
        refine ⟨a, cv == 0, hbn, ?_, HA.out, HB.out, by first | rfl | trivial, SY.out.bel⟩
        rw [HYZ.out, beq_iff_eq]
        exact ⟨fun h => ⟨hmn, HEQ.out.1 h⟩, fun h => HEQ.out.2 h.2⟩
      · have t1 : decide ((a : Int) < (n : Int)) = false := by simp; omega
        have t1' : decide (a < n) = false := by simp; omega
        have HS := Lib.hid S
        clear S
        go_wp2_with fail
        refine wp_cls 15 (fun w' => ∃ n, w' = wr.drewN n) (by kernel_rfl) (by kernel_rfl) ⟨1, rfl⟩ ?_
        simp only [List.take_succ_cons, List.take_zero, List.drop_succ_cons, List.drop_zero]
        generalize hK : (fun w' => ∃ n, w' = wr.drewN n) = K
        intro hne
        have kw : ∀ y : Wd K, ∃ n, y.w = wr.drewN n := by subst hK; exact fun y => y.h
        clear hK
        repeat (go_big_quiet_step ((fail)))
        refine wpQuiet_nil ?_
        intro y
        obtain ⟨nn, hyn⟩ := kw y
        have HSY := HS.out.drewN nn
        rw [← hyn] at HSY
        clear kw hyn hne
        have HSF := Lib.hid HSY
        clear HSY
        generalize y.w = w3 at *
        go_wp2_with fail
        go_ret2
        refine ⟨a, false, hbn, Iff.intro (fun h => Bool.noConfusion h) (fun h => absurd h.1 hmn), HA.out, HB.out, by first | rfl | trivial, HSF.out.bel⟩
end Go.Proofs.YtnaafefcijgpkaaGreatDoor
/- Messages: a message put into a list, plain; blocks and rows. -/
namespace Go.Adj
open Go.RowKit Go.Mem
def insY (Y : Nat → MsI) (a : Nat) (x : MsI) (i : Nat) : MsI := if i < a then Y i else if i = a then x else Y (i - 1)
theorem pcM_take (Y : Nat → MsI) {a n : Nat} (h : a ≤ n) : (pcM Y n).take (a * 6) = pcM Y a := by
  apply List.ext_getElem?
  intro i
  rw [List.getElem?_take]
  rcases Nat.lt_or_ge i (a * 6) with hi | hi
  · rw [if_pos hi]
    obtain ⟨k, b, hb, e⟩ : ∃ k b, b < 6 ∧ i = k * 6 + b := ⟨i / 6, i % 6, Nat.mod_lt _ (by decide), by omega⟩
    subst e
    rw [pcM_at Y (by omega) hb, pcM_at Y (by omega) hb]
  · rw [if_neg (by omega), List.getElem?_eq_none (by rw [pcM_len]; omega)]
theorem cells_len (x : MsI) : x.cells.length = 6 := rfl
theorem pcM_ins (Y : Nat → MsI) {a n : Nat} (h : a ≤ n) (x : MsI) : (pcM Y n).take (a * 6) ++ x.cells ++ (pcM Y n).drop (a * 6) = pcM (insY Y a x) (n + 1) := by
  rw [pcM_take Y h]
  apply List.ext_getElem?
  intro i
  rcases Nat.lt_or_ge i ((n + 1) * 6) with hi | hi
  · obtain ⟨k, b, hb, e⟩ : ∃ k b, b < 6 ∧ i = k * 6 + b := ⟨i / 6, i % 6, Nat.mod_lt _ (by decide), by omega⟩
    subst e
    rw [pcM_at (insY Y a x) (by omega) hb]
    unfold insY
    by_cases h1 : k < a
    · rw [if_pos h1, List.append_assoc, List.getElem?_append_left (by rw [pcM_len]; omega), pcM_at Y h1 hb]
    · rw [if_neg h1]
      by_cases h2 : k = a
      · subst h2
        rw [if_pos rfl, List.append_assoc, List.getElem?_append_right (by rw [pcM_len]; omega), pcM_len, List.getElem?_append_left (by rw [cells_len]; omega)]
        congr 1; omega
      · rw [if_neg h2, List.getElem?_append_right (by rw [List.length_append, pcM_len, cells_len]; omega), List.length_append, pcM_len, cells_len, List.getElem?_drop]
        rw [show a * 6 + (k * 6 + b - (a * 6 + 6)) = (k - 1) * 6 + b by omega]
        exact pcM_at Y (by omega) hb
  · rw [List.getElem?_eq_none, List.getElem?_eq_none]
    · rw [pcM_len]; omega
    · simp only [List.length_append, pcM_len, cells_len, List.length_drop]; omega
theorem pcM_end (Y : Nat → MsI) (n : Nat) (x : MsI) : pcM Y n ++ x.cells = pcM (insY Y n x) (n + 1) := by
  have h := pcM_ins Y (Nat.le_refl n) x
  rw [List.take_of_length_le (by rw [pcM_len]; exact Nat.le_refl _), List.drop_of_length_le (by rw [pcM_len]; exact Nat.le_refl _), List.append_nil] at h
  exact h
theorem pcM_one (x : MsI) : pcM (fun _ => x) 1 = x.cells := by unfold pcM; simp
theorem one_ms (x : MsI) : ∀ u ∈ x.cells, u.oneCell' = true := by
  intro u hu
  simp only [MsI.cells, List.mem_cons, List.not_mem_nil, or_false] at hu
  rcases hu with rfl | rfl | rfl | rfl | rfl | rfl <;> rfl
theorem one_pcM (Y : Nat → MsI) : ∀ n, ∀ u ∈ pcM Y n, u.oneCell' = true
  | 0, u, h => by unfold pcM at h; simp at h
  | n + 1, u, h => by
    rw [pcM_snoc, List.mem_append] at h
    rcases h with h | h
    · exact one_pcM Y n u h
    · exact one_ms _ u h
end Go.Adj
namespace Go.Mem
open Go Go.RowKit
theorem St.blk_to_row {W w : World} {L : List Asr} {i g size n cap : Nat} {t : TypeId} {cs : Array Value} {xs : List Value} (h : St W w L) (hi : L[i]? = some (blk g t cs)) (hc : cs.size = cap * size) (hn : n ≤ cap) (hm : cap ≤ maxLen) (hx : cs.toList.take (n * size) = xs) (hl : xs.length = n * size) :
    St W w (L.set i (row t size (.slice (some ⟨g, 0, none⟩) n cap) n xs)) := by
  obtain ⟨F1, h1, ⟨h2, hF⟩, h3⟩ := h.upd hi
  exact h3 w _ F1 none ⟨⟨hl, .inr ⟨g, cap, cs, rfl, Nat.zero_le _, h2, hn, hm, hc, hx⟩⟩, fun g' hg => by cases hg; exact hF⟩ (World.grownBy.refl w _) (fun k hk => by cases hk) (fun b hb => .inl hb)
end Go.Mem
namespace Go.Proofs.YtnaafefcijgpkaaGreatDoor
open Go.RowKit Go.Mem Go.Sheet Go.Adj
theorem eltM : Elt Tryz.prog 63 69 (.agg #[.string ⟨#[]⟩, .int .i64 0, .string ⟨#[]⟩, .int .i64 0, .int .i64 0, .string ⟨#[]⟩]) 6 72 := ⟨Tryz.underlying63, by kernel_rfl, rfl, by decide⟩
end Go.Proofs.YtnaafefcijgpkaaGreatDoor
