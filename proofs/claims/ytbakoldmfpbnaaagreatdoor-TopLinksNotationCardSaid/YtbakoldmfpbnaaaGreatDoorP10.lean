/- Chapter 5: Aggregate. -/
import Derived.Test.YtbakoldmfpbnaaaGreatDoorB36
import Derived.Test.YtbakoldmfpbnaaaGreatDoorP5
set_option linter.unusedVariables false
set_option linter.unusedSimpArgs false
set_option linter.unusedSectionVars false
set_option linter.constructorNameAsVariable false
namespace Go.Proofs.YtbakoldmfpbnaaaGreatDoor
open Go.RowKit Go.Mem Go.Sheet Go.Adj
theorem net_bd {W : World} {v ve : Value} {n : Nat} {hs : List HI} {es : List EI} {name : ByteArray} {co : Int} (h : CEnv W v ve n hs es name) (hco : -99 ≤ co ∧ co ≤ 99) : ∀ i, i < n → -200 ≤ (netF hs es co i).s ∧ (netF hs es co i).s ≤ 200 := fun i hi => by
  have h1 := good_bd (h.ge i hi)
  have h2 := giv_bd h.gh.len hco i
  unfold netF
  split
  · show -200 ≤ (0 : Int) ∧ (0 : Int) ≤ 200; omega
  · split
    · show -200 ≤ (0 : Int) ∧ (0 : Int) ≤ 200; omega
    · show -200 ≤ _ - _ ∧ _ - _ ≤ 200
      omega
set_option maxRecDepth 100000 in
set_option maxHeartbeats 8000000 in
theorem aggregate_ok (W : World) (v va vb : Value) (n : Nat) (hs : List HI) (ea eb : List EI) (na nb : ByteArray) (xa xb : Int) (hxa : -99 ≤ xa ∧ xa ≤ 99) (hxb : -99 ≤ xb ∧ xb ≤ 99) (hne : na ≠ nb)
    (ha : CEnv W v va n hs ea na) (hb : CEnv W v vb n hs eb nb) :
    Calls Tryz.prog 18 #[v, .agg #[.string na, va, .int .i64 xa], .agg #[.string nb, vb, .int .i64 xb]] W fun e w' => ∃ v', e = .returned (.tuple #[v', .int .i64 0]) ∧
      St W w' [row 64 2 v' n ((nl (fun i => aggN (netF hs ea xa i) (netF hs eb xb i)) n).flatMap NI.cells)] := by
  have hn := ha.gh.len
  rw [← ha.len] at hn
  obtain ⟨A, c, rfl, _, _, _⟩ := ha.rh.open_
  obtain ⟨Aa, ca, rfl, _, _, _⟩ := ha.re.open_
  obtain ⟨Ab, cb, rfl, _, _, _⟩ := hb.re.open_
  have HNA : Hid (∀ w, Below W.heap.size W w → Calls Tryz.prog 47 #[.agg #[.string na, .slice Aa n ca, .int .i64 xa], .slice A n c] w fun e w' => ∃ v', e = .returned v' ∧ St w w' [row 64 2 v' n ((nl (netF hs ea xa) n).flatMap NI.cells)]) := fun w h => nets_ok w _ _ n hs ea na xa hxa (ha.later h)
  have HNB : Hid (∀ w, Below W.heap.size W w → Calls Tryz.prog 47 #[.agg #[.string nb, .slice Ab n cb, .int .i64 xb], .slice A n c] w fun e w' => ∃ v', e = .returned v' ∧ St w w' [row 64 2 v' n ((nl (netF hs eb xb) n).flatMap NI.cells)]) := fun w h => nets_ok w _ _ n hs eb nb xb hxb (hb.later h)
  have HCP : Hid (∀ w, Below W.heap.size W w → Calls Tryz.prog 45 #[.slice A n c, .slice (some ⟨w.heap.size, 0, none⟩) 2 2] (w.alloc (.cells #[.string na, .slice Aa n ca, .int .i64 xa, .string nb, .slice Ab n cb, .int .i64 xb] 33)) fun e w' => e = .returned (.int .i64 0) ∧ Below (w.alloc (.cells #[.string na, .slice Aa n ca, .int .i64 xa, .string nb, .slice Ab n cb, .int .i64 xb] 33)).heap.size (w.alloc (.cells #[.string na, .slice Aa n ca, .int .i64 xa, .string nb, .slice Ab n cb, .int .i64 xb] 33)) w') := fun w h => by
    have ha' := ha.later h
    have hb' := hb.later h
    exact checkPlayers_ok _ _ _ n 2 hs _ (ha'.rh.later ((Below.refl _ _).alloc (Nat.le_refl _) _)) (rdPl_two ha' hb') (goodPs_two ⟨ha.good, hxa⟩ ⟨hb.good, hxb⟩ hne) (by omega)
  have HBA : Hid (∀ i, i < n → -200 ≤ (netF hs ea xa i).s ∧ (netF hs ea xa i).s ≤ 200) := net_bd ha hxa
  have HBB : Hid (∀ i, i < n → -200 ≤ (netF hs eb xb i).s ∧ (netF hs eb xb i).s ≤ 200) := net_bd hb hxb
  generalize hNA : netF hs ea xa = NA at *
  generalize hNB : netF hs eb xb = NB at *
  have HEA := Lib.hid hNA
  have HEB := Lib.hid hNB
  clear hNA hNB
  clear ha hb
  have S0 := ((St.refl W).blk_new #[.string na, .slice Aa n ca, .int .i64 xa] 33).blk_new #[.string nb, .slice Ab n cb, .int .i64 xb] 33
  simp only [World.size_alloc, List.cons_append, List.nil_append] at S0
  have HS0 := Lib.hid S0
  have HC := HCP.out _ S0.bel
  simp only [World.size_alloc] at HC
  have HC := Lib.hid HC
  clear S0
  go_enter Tryz.func18, Tryz.ntmps18
  go_wp2_with fail
  refine HC.out.mono ?_
  rintro e w3 ⟨rfl, hb3⟩
  have S3 := (HS0.out.alloc (.cells #[.string na, .slice Aa n ca, .int .i64 xa, .string nb, .slice Ab n cb, .int .i64 xb] 33)).ext (by simpa using hb3)
  have d0 := S3.blk_cell (i := 0) rfl 0
  have d1 := S3.blk_cell (i := 0) rfl 1
  have d2 := S3.blk_cell (i := 0) rfl 2
  have e0 := S3.blk_cell (i := 1) rfl 0
  have e1 := S3.blk_cell (i := 1) rfl 1
  have e2 := S3.blk_cell (i := 1) rfl 2
  have l0 := World.block_lt_of_cell? _ _ d0
  have l1 := World.block_lt_of_cell? _ _ e0
  have HW3 := Lib.hid S3.bel
  clear hb3 S3 HS0 HC HCP
  go_wp2_with fail
  generalize W.heap.size = ga at d0 d1 d2 e0 e1 e2 l0 l1 ⊢
  refine wp_head_tail3 0 6 2 [] [0, 1, 3, 4] rfl (fun w' => Below w3.heap.size w3 w')
    (fun a a' w' => ∃ (Pa Pb : Option Addr) (xc xd : Nat), a' = (a.put (some 24) (.slice Pa n xc)).put (some 27) (.slice Pb n xd) ∧ Below w3.heap.size w3 w' ∧ Rd w' (· < w'.heap.size) 2 (.slice Pa n xc) n ((nl NA n).flatMap NI.cells) ∧ Rd w' (· < w'.heap.size) 2 (.slice Pb n xd) n ((nl NB n).flatMap NI.cells)) (by kernel_rfl) (by kernel_rfl) (Below.refl _ _).drew ?_
  simp only [pick, List.filterMap_cons, List.filterMap_nil, List.getElem?_toArray, List.getElem?_cons_succ, List.getElem?_cons_zero]
  generalize hK : (fun w' : World => Below w3.heap.size w3 w') = K
  have kK : ∀ y : Wd K, Below w3.heap.size w3 y.w := by subst hK; exact fun y => y.h
  have hne : Nonempty (Wd K) := ⟨⟨w3, by subst hK; exact Below.refl _ _⟩⟩
  have hKd : ∀ (w' : World), Below w3.heap.size w3 w' → K w' := by subst hK; exact fun _ h => h
  have k0 : ∀ y : Wd K, y.w.cell? ⟨ga, 0, none⟩ = some (.string na) := fun y => ((kK y).cell (p := ⟨ga, 0, none⟩) l0).trans d0
  have k1 : ∀ y : Wd K, y.w.cell? ⟨ga, 1, none⟩ = some (.slice Aa n ca) := fun y => ((kK y).cell (p := ⟨ga, 1, none⟩) l0).trans d1
  have k2 : ∀ y : Wd K, y.w.cell? ⟨ga, 2, none⟩ = some (.int .i64 xa) := fun y => ((kK y).cell (p := ⟨ga, 2, none⟩) l0).trans d2
  have k3 : ∀ y : Wd K, y.w.cell? ⟨ga + 1, 0, none⟩ = some (.string nb) := fun y => ((kK y).cell (p := ⟨ga + 1, 0, none⟩) l1).trans e0
  have k4 : ∀ y : Wd K, y.w.cell? ⟨ga + 1, 1, none⟩ = some (.slice Ab n cb) := fun y => ((kK y).cell (p := ⟨ga + 1, 1, none⟩) l1).trans e1
  have k5 : ∀ y : Wd K, y.w.cell? ⟨ga + 1, 2, none⟩ = some (.int .i64 xb) := fun y => ((kK y).cell (p := ⟨ga + 1, 2, none⟩) l1).trans e2
  clear hK kK d0 d1 d2 e0 e1 e2 l0 l1
  refine wpQuiet_nil ?_
  change wpQuiet _ _ _ _ (_ :: _ :: _ :: _ :: []) _
  repeat (go_big_quiet_step ((fail)))
  refine wpQuiet_nil ?_
  clear k0 k1 k2 k3 k4 k5
  have hbd : Below w3.heap.size w3 w3.drew := (Below.refl _ _).drew
  refine ⟨?_, ?_⟩
  · as_aux_lemma =>
    refine headW_all (rs := [2]) (by kernel_rfl) (by decide) (by decide) (List.forall_mem_cons.2 ⟨?_, List.forall_mem_nil _⟩)
    · as_aux_lemma =>
      refine wpOp_list (o := _) rfl ?_
      intro Q' hQ'
      go_wp2_with (go_at_call 47; refine (HNA.out _ (HW3.out.trans (hbd.mono HW3.out.size))).mono ?_; rintro e wk ⟨va, rfl, Sa⟩)
      have hbk := hbd.trans (Sa.bel.mono hbd.size)
      obtain ⟨Pa, xc, rfl, _, _, hra⟩ := (Sa.row_rd (i := 0) rfl).now.open_
      refine ⟨hKd _ hbk, ?_⟩
      refine headW_all (rs := [5]) (by kernel_rfl) (by decide) (by decide) (List.forall_mem_cons.2 ⟨?_, List.forall_mem_nil _⟩)
      refine wpOp_list (o := _) rfl ?_
      intro Q' hQ'
      go_wp2_with (go_at_call 47; refine (HNB.out _ (HW3.out.trans (hbk.mono HW3.out.size))).mono ?_; rintro e wl ⟨vb, rfl, Sb⟩)
      have hbl := hbk.trans (Sb.bel.mono hbk.size)
      obtain ⟨Pb, xd, rfl, _, _, hrb⟩ := (Sb.row_rd (i := 0) rfl).now.open_
      exact ⟨hKd _ hbl, by kernel_rfl, Pa, Pb, xc, xd, by first | rfl | kernel_rfl, hbl, hra.later Sb.bel, hrb⟩
  · as_aux_lemma =>
    rintro a' w' ⟨Pa, Pb, xc, xd, rfl, hb4, hra, hrb⟩
    have HRA := Lib.hid hra
    have HRB := Lib.hid hrb
    have HW4 := Lib.hid (HW3.out.trans (hb4.mono HW3.out.size))
    have S0 := (St.refl w').row_nil 64 2
    simp only [List.nil_append] at S0
    have HAG : Hid (∀ k, nl (fun i => aggN (NA i) (NB i)) (k + 1) = nl (fun i => aggN (NA i) (NB i)) k ++ [aggN (NA k) (NB k)]) := fun k => nl_snoc _ k
    clear hra hrb hb4 hne hKd hbd
    go_wp2_with fail
    refine NoPanic.normal ?_
    go_wp2_with fail
    go_loopw [30, 11] (fun i v wz => ∃ k : Nat, k ≤ n ∧ i = .int .i64 k ∧ St w' wz [row 64 2 v k ((nl (fun i => aggN (NA i) (NB i)) k).flatMap NI.cells)]) (fun i _ _ => n - (intOf i).toNat)
    case atStart => exact ⟨0, Nat.zero_le _, rfl, S0⟩
    case round =>
      obtain ⟨k, hk, rfl, S⟩ := hrel
      clear S0
      by_cases hlt : k < n
      · obtain ⟨ba, oa, xx, rfl, hxx, c0, c1⟩ := net_elem (HRA.out.later S.bel) hlt
        obtain ⟨bb, ob, yy, rfl, hyy, c2, c3⟩ := net_elem (HRB.out.later S.bel) hlt
        have hba := World.block_lt_of_cell? _ _ c0
        have hbb := World.block_lt_of_cell? _ _ c2
        have hxe : NA k = xx := Option.some.inj ((nl_at NA hlt).symm.trans hxx)
        have hye : NB k = yy := Option.some.inj ((nl_at NB hlt).symm.trans hyy)
        have h1 := HBA.out k hlt
        have h2 := HBB.out k hlt
        have hag := HAG.out k
        rw [hxe] at h1
        rw [hye] at h2
        rw [hxe, hye] at hag
        clear hxx hyy hxe hye
        obtain ⟨xs, xm⟩ := xx
        obtain ⟨ys, ym⟩ := yy
        dsimp only at c0 c1 c2 c3 h1 h2
        have HAX : Hid (∀ zs zm, aggN ⟨xs, xm⟩ ⟨ys, ym⟩ = ⟨zs, zm⟩ → (nl (fun i => aggN (NA i) (NB i)) (k + 1)).flatMap NI.cells = (nl (fun i => aggN (NA i) (NB i)) k).flatMap NI.cells ++ [.int .i64 zs, .string (mkN zm)]) := fun zs zm e => by
          rw [hag, e, List.flatMap_append]
          simp [NI.cells]
        have HCA : Hid (∀ w, Calls Tryz.prog 39 #[.agg #[.int .i64 xs, .string (mkN xm)]] w fun r w' => r = .returned (.bool (isO xm)) ∧ Below w.heap.size w w') := fun w => counts_any xs xm w
        have HCB : Hid (∀ w, Calls Tryz.prog 39 #[.agg #[.int .i64 ys, .string (mkN ym)]] w fun r w' => r = .returned (.bool (isO ym)) ∧ Below w.heap.size w w') := fun w => counts_any ys ym w
        have SA := S.blk_new #[.int .i64 xs, .string (mkN xm)] 64
        simp only [List.cons_append, List.nil_append] at SA
        have hwa : (wr.alloc (.cells #[.int .i64 xs, .string (mkN xm)] 64)).cell? ⟨bb, ob + k * 2, none⟩ = some (.int .i64 ys) := (((Below.refl wr.heap.size wr).alloc (Nat.le_refl _) _).cell (p := ⟨bb, ob + k * 2, none⟩) hbb).trans c2
        have hwb : (wr.alloc (.cells #[.int .i64 xs, .string (mkN xm)] 64)).cell? ⟨bb, ob + k * 2 + 1, none⟩ = some (.string (mkN ym)) := (((Below.refl wr.heap.size wr).alloc (Nat.le_refl _) _).cell (p := ⟨bb, ob + k * 2 + 1, none⟩) hbb).trans c3
        have HCC : Hid (∀ w2, Below (wr.alloc (.cells #[.int .i64 xs, .string (mkN xm)] 64)).heap.size (wr.alloc (.cells #[.int .i64 xs, .string (mkN xm)] 64)) w2 → w2.cell? ⟨bb, ob + k * 2, none⟩ = some (.int .i64 ys) ∧ w2.cell? ⟨bb, ob + k * 2 + 1, none⟩ = some (.string (mkN ym)) ∧ w2.cell? ⟨wr.heap.size, 0, none⟩ = some (.int .i64 xs) ∧ w2.cell? ⟨wr.heap.size, 1, none⟩ = some (.string (mkN xm))) := fun w2 hb => by
          have hz := SA.blk_cell (i := 1) rfl 0
          have hz1 := SA.blk_cell (i := 1) rfl 1
          exact ⟨(hb.cell (p := ⟨bb, ob + k * 2, none⟩) (World.block_lt_of_cell? _ _ hwa)).trans hwa, (hb.cell (p := ⟨bb, ob + k * 2 + 1, none⟩) (World.block_lt_of_cell? _ _ hwb)).trans hwb, (hb.cell (p := ⟨wr.heap.size, 0, none⟩) (World.block_lt_of_cell? _ _ hz)).trans hz, (hb.cell (p := ⟨wr.heap.size, 1, none⟩) (World.block_lt_of_cell? _ _ hz1)).trans hz1⟩
        have HSA := Lib.hid SA
        clear S SA hag hba hbb hwa hwb c2 c3
        cases xm
        · cases ym
          · simp only [show mkN MK.o = ⟨#[]⟩ from rfl] at c0 c1 HCC HSA HCA HCB
            go_wp2_with fail
            generalize wr.alloc (.cells #[.int .i64 xs, .string ⟨#[]⟩] 64) = w5 at *
            generalize wr.heap.size = gx at *
            go_at_call 39
            refine (HCA.out _).mono ?_
            rintro e w6 ⟨rfl, hb6⟩
            obtain ⟨c2, c3, c4, c5⟩ := HCC.out _ hb6
            have S6 := HSA.out.ext hb6
            have HS6 := Lib.hid S6
            have HB6 := Lib.hid hb6
            clear S6 hb6 HSA c0 c1
            go_wp2_with fail
            go_at_call 39
            refine (HCB.out _).mono ?_
            rintro e w7 ⟨rfl, hb7⟩
            have S7 := HS6.out.ext hb7
            have HB7 := Lib.hid (HB6.out.trans (hb7.mono HB6.out.size))
            have HS7 := Lib.hid S7
            clear S7 hb7 HS6 c2 c3 c4 c5 HB6
            obtain ⟨c2, c3, c4, c5⟩ := HCC.out _ HB7.out
            have hw : IntKind.i64.wrap (xs + ys) = xs + ys := IntWalk.i64_in _ (by omega)
            have HAY := Lib.hid (HAX.out (xs + ys) .o rfl)
            rw [show mkN MK.o = ⟨#[]⟩ from rfl] at HAY
            clear HAX
            go_wp2_with fail
            refine wp_pre_tail 1 10 (fun w' => ∃ q, w' = w7.drewN q) (by kernel_rfl) (by kernel_rfl) ⟨1, rfl⟩ ?_
            simp only [List.take_succ_cons, List.take_zero, List.drop_succ_cons, List.drop_zero, Nat.reduceSub]
            generalize hK : (fun w' => ∃ q, w' = w7.drewN q) = K
            intro hne
            have kw : ∀ y : Wd K, ∃ q, y.w = w7.drewN q := by subst hK; exact fun y => y.h
            have k0 : ∀ y : Wd K, y.w.cell? ⟨gx, 0, none⟩ = some (.int .i64 xs) := fun y => by obtain ⟨q, e⟩ := kw y; rw [e]; exact c4
            have k1 : ∀ y : Wd K, y.w.cell? ⟨bb, ob + k * 2, none⟩ = some (.int .i64 ys) := fun y => by obtain ⟨q, e⟩ := kw y; rw [e]; exact c2
            clear hK
            change wpQuiet _ _ _ _ (_ :: []) _
            go_big_quiet_step ((fail))
            refine wpQuiet_nil ?_
            repeat (go_big_quiet_step ((fail)))
            refine wpQuiet_nil ?_
            intro y
            obtain ⟨q, hq⟩ := kw y
            have S8 := (HS7.out.drewN q).alloc (.cells #[.int .i64 (xs + ys), .string ⟨#[]⟩] 64)
            rw [← hq] at S8
            have HS8 := Lib.hid S8
            clear S8 hq kw k0 k1 hne c2 c3 c4 c5
            generalize y.w = w8 at *
            go_wp2_with (at_builtin; refine wpList_append_st eltN rfl _ _ rfl rfl HS8.out (k := 0) rfl rfl (rd_two (by simp)) (one_net _ _ _) (by omega) (by omega) ?_; intro v' w' S' _)
            refine NoPanic.normal ?_
            go_wp2_with fail
            go_roundw
            case rel =>
              refine ⟨k + 1, by omega, by go_num, ?_⟩
              have S3 := S'.sub (L' := [_]) (List.sublist_append_left [_] [_])
              rw [HAY.out]
              exact S3
            case measure => simp [intOf]; omega
          · simp only [show mkN MK.o = ⟨#[]⟩ from rfl, show mkN MK.x = ⟨#[120]⟩ from rfl] at c0 c1 HCC HSA HCA HCB
            go_wp2_with fail
            generalize wr.alloc (.cells #[.int .i64 xs, .string ⟨#[]⟩] 64) = w5 at *
            generalize wr.heap.size = gx at *
            go_at_call 39
            refine (HCA.out _).mono ?_
            rintro e w6 ⟨rfl, hb6⟩
            obtain ⟨c2, c3, c4, c5⟩ := HCC.out _ hb6
            have S6 := HSA.out.ext hb6
            have HS6 := Lib.hid S6
            have HB6 := Lib.hid hb6
            clear S6 hb6 HSA c0 c1
            go_wp2_with fail
            go_at_call 39
            refine (HCB.out _).mono ?_
            rintro e w7 ⟨rfl, hb7⟩
            have S7 := HS6.out.ext hb7
            have HB7 := Lib.hid (HB6.out.trans (hb7.mono HB6.out.size))
            have HS7 := Lib.hid S7
            clear S7 hb7 HS6 c2 c3 c4 c5 HB6
            obtain ⟨c2, c3, c4, c5⟩ := HCC.out _ HB7.out
            have HAY := Lib.hid (HAX.out 0 .x rfl)
            rw [show mkN MK.x = ⟨#[120]⟩ from rfl] at HAY
            clear HAX
            have HS8 := Lib.hid (HS7.out.alloc (.cells #[.int .i64 0, .string ⟨#[120]⟩] 64))
            go_wp2_with (at_builtin; refine wpList_append_st eltN rfl _ _ rfl rfl HS8.out (k := 0) rfl rfl (rd_two (by simp)) (one_net _ _ _) (by omega) (by omega) ?_; intro v' w' S' _)
            go_roundw
            case rel =>
              refine ⟨k + 1, by omega, by go_num, ?_⟩
              have S3 := S'.sub (L' := [_]) (List.sublist_append_left [_] [_])
              rw [HAY.out]
              exact S3
            case measure => simp [intOf]; omega
          · simp only [show mkN MK.o = ⟨#[]⟩ from rfl, show mkN MK.d = ⟨#[45]⟩ from rfl] at c0 c1 HCC HSA HCA HCB
            go_wp2_with fail
            generalize wr.alloc (.cells #[.int .i64 xs, .string ⟨#[]⟩] 64) = w5 at *
            generalize wr.heap.size = gx at *
            go_at_call 39
            refine (HCA.out _).mono ?_
            rintro e w6 ⟨rfl, hb6⟩
            obtain ⟨c2, c3, c4, c5⟩ := HCC.out _ hb6
            have S6 := HSA.out.ext hb6
            have HS6 := Lib.hid S6
            have HB6 := Lib.hid hb6
            clear S6 hb6 HSA c0 c1
            go_wp2_with fail
            go_at_call 39
            refine (HCB.out _).mono ?_
            rintro e w7 ⟨rfl, hb7⟩
            have S7 := HS6.out.ext hb7
            have HB7 := Lib.hid (HB6.out.trans (hb7.mono HB6.out.size))
            have HS7 := Lib.hid S7
            clear S7 hb7 HS6 c2 c3 c4 c5 HB6
            obtain ⟨c2, c3, c4, c5⟩ := HCC.out _ HB7.out
            have HAY := Lib.hid (HAX.out 0 .d rfl)
            rw [show mkN MK.d = ⟨#[45]⟩ from rfl] at HAY
            clear HAX
            have HS8 := Lib.hid (HS7.out.alloc (.cells #[.int .i64 0, .string ⟨#[45]⟩] 64))
            go_wp2_with (at_builtin; refine wpList_append_st eltN rfl _ _ rfl rfl HS8.out (k := 0) rfl rfl (rd_two (by simp)) (one_net _ _ _) (by omega) (by omega) ?_; intro v' w' S' _)
            go_roundw
            case rel =>
              refine ⟨k + 1, by omega, by go_num, ?_⟩
              have S3 := S'.sub (L' := [_]) (List.sublist_append_left [_] [_])
              rw [HAY.out]
              exact S3
            case measure => simp [intOf]; omega
        · cases ym
          · simp only [show mkN MK.x = ⟨#[120]⟩ from rfl, show mkN MK.o = ⟨#[]⟩ from rfl] at c0 c1 HCC HSA HCA HCB
            go_wp2_with fail
            generalize wr.alloc (.cells #[.int .i64 xs, .string ⟨#[120]⟩] 64) = w5 at *
            generalize wr.heap.size = gx at *
            go_at_call 39
            refine (HCA.out _).mono ?_
            rintro e w6 ⟨rfl, hb6⟩
            obtain ⟨c2, c3, c4, c5⟩ := HCC.out _ hb6
            have S6 := HSA.out.ext hb6
            have HS6 := Lib.hid S6
            have HB6 := Lib.hid hb6
            clear S6 hb6 HSA c0 c1
            have HAY := Lib.hid (HAX.out 0 .x rfl)
            rw [show mkN MK.x = ⟨#[120]⟩ from rfl] at HAY
            clear HAX
            have HS8 := Lib.hid (HS6.out.alloc (.cells #[.int .i64 0, .string ⟨#[120]⟩] 64))
            go_wp2_with (at_builtin; refine wpList_append_st eltN rfl _ _ rfl rfl HS8.out (k := 0) rfl rfl (rd_two (by simp)) (one_net _ _ _) (by omega) (by omega) ?_; intro v' w' S' _)
            go_roundw
            case rel =>
              refine ⟨k + 1, by omega, by go_num, ?_⟩
              have S3 := S'.sub (L' := [_]) (List.sublist_append_left [_] [_])
              rw [HAY.out]
              exact S3
            case measure => simp [intOf]; omega
          · simp only [show mkN MK.x = ⟨#[120]⟩ from rfl] at c0 c1 HCC HSA HCA HCB
            go_wp2_with fail
            generalize wr.alloc (.cells #[.int .i64 xs, .string ⟨#[120]⟩] 64) = w5 at *
            generalize wr.heap.size = gx at *
            go_at_call 39
            refine (HCA.out _).mono ?_
            rintro e w6 ⟨rfl, hb6⟩
            obtain ⟨c2, c3, c4, c5⟩ := HCC.out _ hb6
            have S6 := HSA.out.ext hb6
            have HS6 := Lib.hid S6
            have HB6 := Lib.hid hb6
            clear S6 hb6 HSA c0 c1
            have HAY := Lib.hid (HAX.out 0 .x rfl)
            rw [show mkN MK.x = ⟨#[120]⟩ from rfl] at HAY
            clear HAX
            have HS8 := Lib.hid (HS6.out.alloc (.cells #[.int .i64 0, .string ⟨#[120]⟩] 64))
            go_wp2_with (at_builtin; refine wpList_append_st eltN rfl _ _ rfl rfl HS8.out (k := 0) rfl rfl (rd_two (by simp)) (one_net _ _ _) (by omega) (by omega) ?_; intro v' w' S' _)
            go_roundw
            case rel =>
              refine ⟨k + 1, by omega, by go_num, ?_⟩
              have S3 := S'.sub (L' := [_]) (List.sublist_append_left [_] [_])
              rw [HAY.out]
              exact S3
            case measure => simp [intOf]; omega
          · simp only [show mkN MK.x = ⟨#[120]⟩ from rfl, show mkN MK.d = ⟨#[45]⟩ from rfl] at c0 c1 HCC HSA HCA HCB
            go_wp2_with fail
            generalize wr.alloc (.cells #[.int .i64 xs, .string ⟨#[120]⟩] 64) = w5 at *
            generalize wr.heap.size = gx at *
            go_at_call 39
            refine (HCA.out _).mono ?_
            rintro e w6 ⟨rfl, hb6⟩
            obtain ⟨c2, c3, c4, c5⟩ := HCC.out _ hb6
            have S6 := HSA.out.ext hb6
            have HS6 := Lib.hid S6
            have HB6 := Lib.hid hb6
            clear S6 hb6 HSA c0 c1
            have HAY := Lib.hid (HAX.out 0 .d rfl)
            rw [show mkN MK.d = ⟨#[45]⟩ from rfl] at HAY
            clear HAX
            have HS8 := Lib.hid (HS6.out.alloc (.cells #[.int .i64 0, .string ⟨#[45]⟩] 64))
            go_wp2_with (at_builtin; refine wpList_append_st eltN rfl _ _ rfl rfl HS8.out (k := 0) rfl rfl (rd_two (by simp)) (one_net _ _ _) (by omega) (by omega) ?_; intro v' w' S' _)
            go_roundw
            case rel =>
              refine ⟨k + 1, by omega, by go_num, ?_⟩
              have S3 := S'.sub (L' := [_]) (List.sublist_append_left [_] [_])
              rw [HAY.out]
              exact S3
            case measure => simp [intOf]; omega
        · cases ym
          · simp only [show mkN MK.d = ⟨#[45]⟩ from rfl, show mkN MK.o = ⟨#[]⟩ from rfl] at c0 c1 HCC HSA HCA HCB
            go_wp2_with fail
            generalize wr.alloc (.cells #[.int .i64 xs, .string ⟨#[45]⟩] 64) = w5 at *
            generalize wr.heap.size = gx at *
            go_at_call 39
            refine (HCA.out _).mono ?_
            rintro e w6 ⟨rfl, hb6⟩
            obtain ⟨c2, c3, c4, c5⟩ := HCC.out _ hb6
            have S6 := HSA.out.ext hb6
            have HS6 := Lib.hid S6
            have HB6 := Lib.hid hb6
            clear S6 hb6 HSA c0 c1
            have HAY := Lib.hid (HAX.out 0 .d rfl)
            rw [show mkN MK.d = ⟨#[45]⟩ from rfl] at HAY
            clear HAX
            have HS8 := Lib.hid (HS6.out.alloc (.cells #[.int .i64 0, .string ⟨#[45]⟩] 64))
            go_wp2_with (at_builtin; refine wpList_append_st eltN rfl _ _ rfl rfl HS8.out (k := 0) rfl rfl (rd_two (by simp)) (one_net _ _ _) (by omega) (by omega) ?_; intro v' w' S' _)
            go_roundw
            case rel =>
              refine ⟨k + 1, by omega, by go_num, ?_⟩
              have S3 := S'.sub (L' := [_]) (List.sublist_append_left [_] [_])
              rw [HAY.out]
              exact S3
            case measure => simp [intOf]; omega
          · simp only [show mkN MK.d = ⟨#[45]⟩ from rfl, show mkN MK.x = ⟨#[120]⟩ from rfl] at c0 c1 HCC HSA HCA HCB
            go_wp2_with fail
            generalize wr.alloc (.cells #[.int .i64 xs, .string ⟨#[45]⟩] 64) = w5 at *
            generalize wr.heap.size = gx at *
            go_at_call 39
            refine (HCA.out _).mono ?_
            rintro e w6 ⟨rfl, hb6⟩
            obtain ⟨c2, c3, c4, c5⟩ := HCC.out _ hb6
            have S6 := HSA.out.ext hb6
            have HS6 := Lib.hid S6
            have HB6 := Lib.hid hb6
            clear S6 hb6 HSA c0 c1
            have HAY := Lib.hid (HAX.out 0 .d rfl)
            rw [show mkN MK.d = ⟨#[45]⟩ from rfl] at HAY
            clear HAX
            have HS8 := Lib.hid (HS6.out.alloc (.cells #[.int .i64 0, .string ⟨#[45]⟩] 64))
            go_wp2_with (at_builtin; refine wpList_append_st eltN rfl _ _ rfl rfl HS8.out (k := 0) rfl rfl (rd_two (by simp)) (one_net _ _ _) (by omega) (by omega) ?_; intro v' w' S' _)
            go_roundw
            case rel =>
              refine ⟨k + 1, by omega, by go_num, ?_⟩
              have S3 := S'.sub (L' := [_]) (List.sublist_append_left [_] [_])
              rw [HAY.out]
              exact S3
            case measure => simp [intOf]; omega
          · simp only [show mkN MK.d = ⟨#[45]⟩ from rfl] at c0 c1 HCC HSA HCA HCB
            go_wp2_with fail
            generalize wr.alloc (.cells #[.int .i64 xs, .string ⟨#[45]⟩] 64) = w5 at *
            generalize wr.heap.size = gx at *
            go_at_call 39
            refine (HCA.out _).mono ?_
            rintro e w6 ⟨rfl, hb6⟩
            obtain ⟨c2, c3, c4, c5⟩ := HCC.out _ hb6
            have S6 := HSA.out.ext hb6
            have HS6 := Lib.hid S6
            have HB6 := Lib.hid hb6
            clear S6 hb6 HSA c0 c1
            have HAY := Lib.hid (HAX.out 0 .d rfl)
            rw [show mkN MK.d = ⟨#[45]⟩ from rfl] at HAY
            clear HAX
            have HS8 := Lib.hid (HS6.out.alloc (.cells #[.int .i64 0, .string ⟨#[45]⟩] 64))
            go_wp2_with (at_builtin; refine wpList_append_st eltN rfl _ _ rfl rfl HS8.out (k := 0) rfl rfl (rd_two (by simp)) (one_net _ _ _) (by omega) (by omega) ?_; intro v' w' S' _)
            go_roundw
            case rel =>
              refine ⟨k + 1, by omega, by go_num, ?_⟩
              have S3 := S'.sub (L' := [_]) (List.sublist_append_left [_] [_])
              rw [HAY.out]
              exact S3
            case measure => simp [intOf]; omega
      · obtain rfl : n = k := by omega
        have HS := Lib.hid S
        clear S
        go_wp2_with fail
        go_ret2
        refine ⟨_, rfl, ?_⟩
        exact (St.of_below HW4.out).call HS.out
end Go.Proofs.YtbakoldmfpbnaaaGreatDoor
