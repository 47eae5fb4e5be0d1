/- Part 48 of the walks of the golf union's program: DW3. -/
import Derived.Test.YtkkkfjinflepmaaGreatDoorB47
set_option linter.unusedVariables false
set_option linter.unusedSimpArgs false
set_option linter.unusedSectionVars false
set_option linter.constructorNameAsVariable false
/- TopDivotMatches: the law. -/
namespace Go.Proofs.YtkkkfjinflepmaaGreatDoor
open Go.RowKit Go.Mem Go.Sheet Go.Adj
theorem fold_at {f : Nat → ByteArray} {up : Nat → Nat → Int} {go : Option Nat} {m R r : Nat} {ms : List (Value × List Value)} (h : ms.map Prod.snd = TS f up go m R) (hr : r < R) : ∃ v, ms[r]? = some (v, strsO f (rndL up go m r)) := by
  have hl : ms.length = R := by have := congrArg List.length h; rw [List.length_map] at this; rw [this]; unfold TS; simp
  have e : (ms.map Prod.snd)[r]? = some (strsO f (rndL up go m r)) := by
    rw [h]; unfold TS
    rw [List.getElem?_map, List.getElem?_range hr]; rfl
  rw [List.getElem?_map, Option.map_eq_some_iff] at e
  obtain ⟨⟨v, x⟩, h1, h2⟩ := e
  exact ⟨v, by rw [h1]; exact congrArg some (congrArg (Prod.mk v) h2)⟩
set_option maxRecDepth 100000 in
set_option maxHeartbeats 8000000 in
theorem matches_any (W : World) (v vp : Value) (n m : Nat) (hs : List HI) (ps : List PI) (x : Int) (hx : 0 ≤ x ∧ x ≤ 255) (hbd : m * 48 ≤ 140737488351232) (h : Rd W (· < W.heap.size) 2 v n (hs.flatMap HI.cells)) (hp : RdPl W (· < W.heap.size) vp m ps) :
    Calls Tryz.prog 3 #[.agg #[v, vp], .int .u8 x] W fun e w' => e = .returned (.bool true) ∧ Below W.heap.size W w' := by
  have hl := hp.count
  have hn63 := h.le
  obtain ⟨A, c, rfl, _, _, _⟩ := h.open_
  obtain ⟨Ap, cp, rfl, _, _, _⟩ := hp.1.open_
  have H := Lib.hid h
  have HP := Lib.hid hp
  have HLP := Lib.hid hl
  clear h hp hl
  have S0 := (St.refl W).blk_new #[.slice A n c, .slice Ap m cp] 25
  simp only [List.nil_append] at S0
  have HO := Lib.hid (divotOwn_any _ _ _ n m hs ps hbd (H.out.later S0.bel) (HP.out.later S0.bel))
  obtain ⟨gc, hgc⟩ : ∃ g, g = W.heap.size := ⟨_, rfl⟩
  have d0 := S0.blk_cell (i := 0) rfl 0
  have d1 := S0.blk_cell (i := 0) rfl 1
  rw [← hgc] at S0 d0 d1
  have HS0 := Lib.hid S0
  clear S0
  go_enter Tryz.func3, Tryz.ntmps3
  go_wp2_with fail
  rw [← hgc]
  generalize W.alloc (.cells #[.slice A n c, .slice Ap m cp] 25) = w1 at *
  clear hgc
  go_wp2_with fail
  go_at_call 7
  refine HO.out.mono ?_
  rintro e w2 ⟨B, d, rfl, S1⟩
  have S2 := HS0.out.call S1
  simp only [List.cons_append, List.nil_append] at S2
  have S3 := S2.blk_new #[.slice A n c, .slice B m d] 28
  simp only [List.cons_append, List.nil_append] at S3
  have HFW := Lib.hid (refFew_n 6 (by omega) _ _ _ n m hs ps (H.out.later S3.bel) ⟨(S3.row_rd (i := 1) rfl).now, fun p hpp => ⟨(HP.out.2 p hpp).1.later S3.bel, (HP.out.2 p hpp).2⟩⟩)
  have d0 := S3.blk_cell (i := 0) rfl 0
  have d1 := S3.blk_cell (i := 0) rfl 1
  have e0 := S3.blk_cell (i := 2) rfl 0
  have e1 := S3.blk_cell (i := 2) rfl 1
  have HS3 := Lib.hid S3
  clear S1 S2 S3 HS0 HO
  go_wp2_with fail
  go_at_call 8
  refine HFW.out.mono ?_
  rintro e w3 ⟨⟨bo, rfl, hgood⟩, hb3⟩
  have S4 := HS3.out.ext hb3
  have S5 := S4.sub (L' := [_]) (.cons_cons _ (List.nil_sublist _))
  have d0 := S5.blk_cell (i := 0) rfl 0
  have d1 := S5.blk_cell (i := 0) rfl 1
  have HS5 := Lib.hid S5
  have HLR : Hid (∀ w', Below W.heap.size W w' → Calls Tryz.prog 9 #[] w' fun e w2 => e = .returned (.bool true) ∧ Below W.heap.size W w2) := fun w' hb => (divotWon_ok w').mono fun e w2 ⟨h1, h2⟩ => ⟨h1, hb.trans (h2.mono hb.size)⟩
  clear S4 S5 HS3 HFW hb3
  by_cases hbo : bo = false
  · subst hbo
    clear hgood
    go_wp2_with (go_at_call 9; refine (HLR.out _ HS5.out.bel).mono ?_; rintro e w' ⟨rfl, hb2⟩; have HB2 := Lib.hid hb2; clear hb2)
    go_ret
    exact ⟨rfl, HB2.out⟩
  obtain rfl : bo = true := by simpa using hbo
  obtain ⟨g1, hm6, g3⟩ := hgood rfl
  have hnl := H.out.count (f := HI.cells) (size := 2) (fun _ => rfl) (by decide)
  have hn36 : n ≤ 36 := by rw [hnl]; exact g1.len.2
  have HG1 := Lib.hid g1
  have HG3 := Lib.hid g3
  clear hgood g1 g3 hbo hnl
  by_cases hn6 : 6 < n
  · have t1 : decide ((6 : Int) < (n : Int)) = true := decide_eq_true (by omega)
    have t1' : decide (6 < n) = true := decide_eq_true hn6
    clear hn6
    go_wp2_with (go_at_call 9; refine (HLR.out _ HS5.out.bel).mono ?_; rintro e w' ⟨rfl, hb2⟩; have HB2 := Lib.hid hb2; clear hb2)
    go_ret
    exact ⟨rfl, HB2.out⟩
  have t1 : decide ((6 : Int) < (n : Int)) = false := decide_eq_false (by omega)
  have t1' : decide (6 < n) = false := decide_eq_false hn6
  clear hn6
  by_cases hm2 : m < 2
  · have t2 : decide ((m : Int) < 2) = true := decide_eq_true (by omega)
    have t2' : decide (m < 2) = true := decide_eq_true hm2
    clear hm2
    go_wp2_with (go_at_call 9; refine (HLR.out _ HS5.out.bel).mono ?_; rintro e w' ⟨rfl, hb2⟩; have HB2 := Lib.hid hb2; clear hb2)
    go_ret
    exact ⟨rfl, HB2.out⟩
  have t2 : decide ((m : Int) < 2) = false := decide_eq_false (by omega)
  have t2' : decide (m < 2) = false := decide_eq_false hm2
  obtain ⟨f, hf⟩ : ∃ f : Nat → ByteArray, f = fun i => (pAt ps i).name := ⟨_, rfl⟩
  have HF := Lib.hid hf
  have HGN : Hid (GoodNs f m) := by
    rw [hf]
    exact ⟨fun i hi => ⟨(HG3.out.ok i hi).1.2.1, (HP.out.2 _ (by obtain ⟨_, _, _, hx, _⟩ := rdPl_at5 HP.out hi; exact List.mem_of_getElem? hx)).2⟩, fun i j hi hj => HG3.out.two i j hi hj⟩
  have HSV : Hid (∀ k, strsV f (k + 1) = strsV f k ++ [.string (f k)]) := fun k => strsV_snoc f k
  have S6 := HS5.out.row_nil 9 1
  simp only [List.cons_append, List.nil_append] at S6
  have HS6 : Hid (St W w3 [blk gc 25 #[.slice A n c, .slice Ap m cp], row 9 1 (.slice none 0 0) 0 (strsV f 0)]) := S6
  obtain ⟨FA, hFA⟩ : ∃ FA, FA = blk gc 25 #[.slice A n c, .slice Ap m cp] := ⟨_, rfl⟩
  have HFC : Hid (∀ w' L, St W w' (FA :: L) → w'.cell? ⟨gc, 0, none⟩ = some (.slice A n c) ∧ w'.cell? ⟨gc, 1, none⟩ = some (.slice Ap m cp)) := fun w' L h => by
    rw [hFA] at h
    exact ⟨h.blk_cell (i := 0) rfl 0, h.blk_cell (i := 0) rfl 1⟩
  rw [← hFA] at HS6
  clear hFA S6 hf HS5
  go_wp2_with fail
  go_loopw [40, 6] (fun i lv w' => ∃ k : Nat, k ≤ m ∧ i = .int .i64 k ∧ St W w' [FA, row 9 1 lv k (strsV f k)]) (fun i _ _ => m - (intOf i).toNat)
  case atStart => exact ⟨0, Nat.zero_le _, rfl, HS6.out⟩
  case round =>
    obtain ⟨k, hk, rfl, S⟩ := hrel
    clear HS6
    by_cases hlt : k < m
    · obtain ⟨b, o, hA, hxk, c0, c1, c2⟩ := rdPl_at5 (HP.out.later S.bel) hlt
      subst hA
      have hfk : (pAt ps k).name = f k := by rw [HF.out]
      rw [hfk] at c0
      have HSV2 := Lib.hid (HSV.out k)
      generalize f k = fk at *
      have HS7 := Lib.hid ((S.alloc (.cells #[.string fk, .slice (pAt ps k).a (pAt ps k).m (pAt ps k).c, .int .i64 (pAt ps k).co] 37)).alloc (.cells #[.string fk] 9))
      generalize pAt ps k = pk at *
      clear S hxk hfk
      go_wp2_with (at_builtin; refine wpList_append_st eltStrD rfl _ _ rfl rfl HS7.out (k := 1) rfl rfl (rd_one (by simp)) (one_str5 _) (by omega) (by omega) ?_; intro v' w' S' _)
      go_roundw
      case rel =>
        refine ⟨k + 1, by omega, by go_num, ?_⟩
        rw [HSV2.out]
        exact S'
      case measure => simp [intOf]; omega
    · obtain rfl : m = k := by omega
      obtain ⟨bp, op, hap, _, _, _⟩ := HP.out.1.addr (by omega)
      subst hap
      obtain ⟨bl, cl, rfl⟩ := row_some S (i := 1) rfl (by omega)
      obtain ⟨R, hR⟩ := slot_ok m ⟨by omega, by omega⟩
      obtain ⟨g, hg⟩ : ∃ g : Nat, g = (x.tmod (m : Int)).toNat := ⟨_, rfl⟩
      have hmod : 0 ≤ x.tmod (m : Int) ∧ x.tmod (m : Int) < m := by
        rw [Int.tmod_eq_emod_of_nonneg hx.1]
        exact ⟨Int.emod_nonneg _ (by omega), Int.emod_lt_of_pos _ (by omega)⟩
      have q1 : x.tmod (m : Int) = (g : Int) := by omega
      have q2 : IntKind.i64.wrap (x.tmod (m : Int)) = (g : Int) := by rw [q1]; exact IntWalk.i64_in _ (by omega)
      have tk : ((m : Int) == 0) = false := by simp; omega
      have tk' : (m == 0) = false := by simp; omega
      have hgm : g < m := by omega
      have HRR := Lib.hid hR
      have HPLAY : Hid (∀ w, Below wr.heap.size wr w → ∀ go : Option Nat, (∀ g, go = some g → g < m) → Calls Tryz.prog 10 #[.agg #[.slice A n c, .slice (some ⟨bp, op, none⟩) m cp], .slice (some ⟨bl, 0, none⟩) m cl, .int .i64 (seedO go)] w fun e w' => ∃ va ms, e = .returned (.tuple #[.string (nmO f (rndF (upP hs ps n) go (slotF m) R 0)), va, .bool true]) ∧ ms.map Prod.snd = TS f (upP hs ps n) go m (R + 1) ∧
          St w w' [row 32 1 va (R + 1) (ms.map Prod.fst), rdAll ms]) := fun w hw go hgo => by
        have h2 := HP.out.later (S.bel.trans (hw.mono S.size))
        have h1 := H.out.later (S.bel.trans (hw.mono S.size))
        exact divotPlay_ok w _ _ _ n n m R hs ps go hgo HRR.out ⟨by omega, by omega⟩ hn36 h1 h2 f ((S.row_rd (i := 1) rfl).now.later hw) HGN.out (fun a b ha hb hab w' hw' => match_env w _ _ n m hs ps h1 h2 HG1.out HG3.out ha hb hab w' hw')
      generalize upP hs ps n = up at *
      have HS7 := Lib.hid S
      have c5 := (HFC.out _ _ S).1
      have c6 := (HFC.out _ _ S).2
      have HP1 : Hid (Calls Tryz.prog 10 #[.agg #[.slice A n c, .slice (some ⟨bp, op, none⟩) m cp], .slice (some ⟨bl, 0, none⟩) m cl, .int .i64 (-1)] wr fun e w' => ∃ va ms, e = .returned (.tuple #[.string (nmO f (rndF up none (slotF m) R 0)), va, .bool true]) ∧ ms.map Prod.snd = TS f up none m (R + 1) ∧
          St wr w' [row 32 1 va (R + 1) (ms.map Prod.fst), rdAll ms]) := HPLAY.out wr (Below.refl _ _) none (fun g h => by cases h)
      clear S hR hmod hg
      go_wp2_with fail
      go_at_call 10
      refine HP1.out.mono ?_
      rintro e w4 ⟨va, ms, rfl, hms, S8⟩
      have HMS := Lib.hid hms
      have HPB := Lib.hid (HPLAY.out w4 S8.bel (some g) (fun g' e => by cases e; exact hgm))
      have HP2 : Hid (Calls Tryz.prog 10 #[.agg #[.slice A n c, .slice (some ⟨bp, op, none⟩) m cp], .slice (some ⟨bl, 0, none⟩) m cl, .int .i64 (g : Int)] w4 fun e w' => ∃ va ms, e = .returned (.tuple #[.string (nmO f (rndF up (some g) (slotF m) R 0)), va, .bool true]) ∧ ms.map Prod.snd = TS f up (some g) m (R + 1) ∧
          St w4 w' [row 32 1 va (R + 1) (ms.map Prod.fst), rdAll ms]) := HPB.out
      have S9 := HS7.out.call S8
      simp only [List.cons_append, List.nil_append] at S9
      have c5 := (HFC.out _ _ S9).1
      have c6 := (HFC.out _ _ S9).2
      obtain ⟨b1, hb1, hb1m⟩ := wins HRR.out (up := up) (gone := none) (a := 0) (by omega) (by simp)
      obtain ⟨o2, ho2⟩ : ∃ o2, o2 < m ∧ o2 ≠ g := by
        by_cases h0 : g = 0
        · exact ⟨1, by omega, by omega⟩
        · exact ⟨0, by omega, fun e => h0 e.symm⟩
      obtain ⟨b2, hb2, hb2m⟩ := wins HRR.out (up := up) (gone := some g) (a := o2) ho2.1 (fun e => ho2.2 (by cases e; rfl))
      have hb2g : b2 ≠ g := fun e => rnd_gone (up := up) (g := g) HRR.out.inj R 0 HRR.out.rr.1 (by rw [hb2, e])
      rw [hb1] at *
      have HB2 := Lib.hid hb2
      have HS9 := Lib.hid S9
      clear S8 S9 hms HS7 HP1 HPB HPLAY hb1 ho2
      go_wp2_with fail
      go_at_call 10
      refine HP2.out.mono ?_
      rintro e w5 ⟨vb, ms2, rfl, hms2, S10⟩
      rw [HB2.out]
      have S11 := HS9.out.call S10
      simp only [List.cons_append, List.nil_append] at S11
      have hnd := HGN.out
      have s1 : (nmO f (some b1)).toList.isEmpty = false := bytes_ne0 (name_ne (hnd.ok b1 hb1m).1)
      have s2 : (nmO f (some b2)).toList.isEmpty = false := bytes_ne0 (name_ne (hnd.ok b2 hb2m).1)
      have s3 : ((nmO f (some b2)).toList == (f g).toList) = false := bytes_neL (fun e => hb2g (hnd.ne hb2m hgm e))
      obtain ⟨j0, hj0⟩ := HRR.out.all g hgm
      have hj0b := (HRR.out.bd j0 g hj0).2
      obtain ⟨T, hT⟩ : ∃ T, T = R + 1 := ⟨_, rfl⟩
      have hR4 := HRR.out.rr
      have HMS2 := Lib.hid hms2
      obtain ⟨ba, ca, rfl⟩ := row_some S11 (i := 2) rfl (by omega)
      obtain ⟨bb, cb, rfl⟩ := row_some S11 (i := 4) rfl (by omega)
      have HLEN : Hid (∀ go r, (rndL up go m r).length = 2 ^ R / 2 ^ r) := fun go r => by rw [rndL_len, HRR.out.len]
      have HCA : Hid (∀ r, r < T → ∃ v, w5.cell? ⟨ba, r, none⟩ = some v ∧ Rd w5 (· < w5.heap.size) 1 v (2 ^ R / 2 ^ r) (strsO f (rndL up none m r))) := fun r hr => by
        obtain ⟨v, hv⟩ := fold_at HMS.out (r := r) (by omega)
        have hrd := S11.rdAll_at (i := 3) rfl hv
        rw [strsO_len, HLEN.out] at hrd
        obtain ⟨_, _, u, hA, _, hu, hc⟩ := (S11.row_rd (i := 2) rfl).at_ (k := r) (by omega)
        cases hA
        rw [List.getElem?_map, hv] at hu
        cases hu
        rw [Nat.zero_add] at hc
        exact ⟨v, hc, hrd⟩
      have HCB : Hid (∀ r, r < T → ∃ v, w5.cell? ⟨bb, r, none⟩ = some v ∧ Rd w5 (· < w5.heap.size) 1 v (2 ^ R / 2 ^ r) (strsO f (rndL up (some g) m r))) := fun r hr => by
        obtain ⟨v, hv⟩ := fold_at HMS2.out (r := r) (by omega)
        have hrd := S11.rdAll_at (i := 5) rfl hv
        rw [strsO_len, HLEN.out] at hrd
        obtain ⟨_, _, u, hA, _, hu, hc⟩ := (S11.row_rd (i := 4) rfl).at_ (k := r) (by omega)
        cases hA
        rw [List.getElem?_map, hv] at hu
        cases hu
        rw [Nat.zero_add] at hc
        exact ⟨v, hc, hrd⟩
      have hcp : w5.cell? ⟨bl, g, none⟩ = some (.string (f g)) := by
        obtain ⟨_, _, u, hA, _, hu, hc⟩ := (S11.row_rd (i := 1) rfl).at_ (k := g) hgm
        cases hA
        rw [strsV_at f hgm] at hu
        cases hu
        rwa [Nat.zero_add] at hc
      obtain ⟨va0, hva0, hra0⟩ := HCA.out 0 (by omega)
      rw [Nat.pow_zero, Nat.div_one] at hra0
      obtain ⟨A0, c00, rfl, _, _, _⟩ := hra0.open_
      have HSEED : Hid (∀ q, Calls Tryz.prog 11 #[.slice A0 (2 ^ R) c00, .string (f g)] (w5.drewN q) fun e w' => e = .returned (.int .i64 (j0 : Nat)) ∧ w5.drewN q = w') := fun q =>
        divotSeedO_ok (w5.drewN q) (· < w5.heap.size) _ (2 ^ R) j0 f (rndL up none m 0) (f g) (hra0.loc (Nat.le_refl _) (fun _ _ => rfl)) (by rw [HLEN.out, Nat.pow_zero, Nat.div_one]) hj0b (fun i hi e => by
          have hgd : (rndL up none m 0).getD i none = slotF m i := rndL_getD (by rw [HRR.out.len, Nat.pow_zero, Nat.div_one]; omega)
          rw [hgd] at e
          have := (hnd.slot hgm (s := slotF m i) (fun p hp => (HRR.out.bd i p hp).1)).1 e.symm
          have := HRR.out.inj i j0 g this hj0
          omega) (by
          have hgd : (rndL up none m 0).getD j0 none = slotF m j0 := rndL_getD (by rw [HRR.out.len, Nat.pow_zero, Nat.div_one]; omega)
          rw [hgd, hj0]; rfl)
      have HSAME : Hid (∀ r i, i < 2 ^ R / 2 ^ r → (r = 0 ∨ i ≠ j0 / 2 ^ r) → nmO f ((rndL up none m r).getD i none) = nmO f ((rndL up (some g) m r).getD i none)) := fun r i hi hor => by
        rw [rndL_getD (by rw [HRR.out.len]; exact hi), rndL_getD (by rw [HRR.out.len]; exact hi)]
        rcases Nat.eq_zero_or_pos r with h0 | h0
        · subst h0; rfl
        · rw [rnd_same (up := up) (S := slotF m) (g := g) (at_ := j0) (fun i hi => HRR.out.inj i j0 g hi hj0) r i (hor.resolve_left (by omega)) h0]
      have HBW := Lib.hid S11.bel
      have T1 : 1 ≤ T ∧ T ≤ 5 := by omega
      rw [← hT]
      generalize nmO f (some b1) = n1 at *
      generalize nmO f (some b2) = n2 at *
      have z1 : (((T : Nat) : Int) != (T : Int)) = false := by simp
      have z2 : decide ((T : Int) ≤ 0) = false := decide_eq_false (by omega)
      have z3 : decide (T ≤ 0) = false := decide_eq_false (by omega)
      have z4 : decide ((m : Int) ≤ (g : Int)) = false := decide_eq_false (by omega)
      have z5 : decide (m ≤ g) = false := decide_eq_false (by omega)
      have z6 : 0 < T := by omega
      generalize f g = fg at *
      have HPW : Hid (2 ^ R ≤ 16) := by
        show _ ≤ _
        have : R = 1 ∨ R = 2 ∨ R = 3 ∨ R = 4 := by omega
        rcases this with h | h | h | h <;> rw [h] <;> decide
      clear S10 S11 hms2 HS9 HP2 HB2 HMS HMS2 hnd hra0 hb1m hb2m hb2g hj0 hT HGN HSV
      go_wp2_with fail
      refine wp_cls 8 (fun w' => ∃ j, w' = w5.drewN j) (by kernel_rfl) (by kernel_rfl) ⟨1, rfl⟩ ?_
      simp only [List.take_succ_cons, List.take_zero, List.drop_succ_cons, List.drop_zero]
      generalize hK : (fun w' => ∃ j, w' = w5.drewN j) = K
      intro hne
      have kw : ∀ y : Wd K, ∃ j, y.w = w5.drewN j := by subst hK; exact fun y => y.h
      have k0 : ∀ y : Wd K, y.w.cell? ⟨ba, 0, none⟩ = some (.slice A0 (2 ^ R) c00) := fun y => by obtain ⟨j, e⟩ := kw y; rw [e]; exact hva0
      have k1 : ∀ y : Wd K, y.w.cell? ⟨bl, g, none⟩ = some (.string fg) := fun y => by obtain ⟨j, e⟩ := kw y; rw [e]; exact hcp
      have HSD : Hid (∀ y : Wd K, Calls Tryz.prog 11 #[.slice A0 (2 ^ R) c00, .string fg] y.w fun e w' => e = .returned (.int .i64 (j0 : Nat)) ∧ y.w = w') := fun y => by obtain ⟨j, e⟩ := kw y; rw [e]; exact HSEED.out j
      clear hK
      iterate 7 (go_big_quiet_step ((fail)))
      go_big_quiet_step ((go_at_call 11; exact cls_same (HSD.out _)))
      refine wpQuiet_nil ?_
      intro yw
      obtain ⟨jq, hjq⟩ := kw yw
      clear k0 k1 kw HSD hne HSEED
      have HJQ := Lib.hid hjq
      clear hjq
      generalize yw.w = w6 at *
      clear yw
      go_wp2_with fail
      go_loopw [108] (fun i w' => ∃ r q : Nat, r ≤ T ∧ i = .int .i64 r ∧ w' = w5.drewN q) (fun i _ => T - (intOf i).toNat)
      case atStart => exact ⟨0, jq, Nat.zero_le _, rfl, HJQ.out⟩
      case round =>
        obtain ⟨r, qq, hr, rfl, rfl⟩ := hrel
        by_cases hrt : r < T
        · obtain ⟨v1, hv1, hr1⟩ := HCA.out r hrt
          obtain ⟨v2, hv2, hr2⟩ := HCB.out r hrt
          obtain ⟨ln, hln⟩ : ∃ ln, ln = 2 ^ R / 2 ^ r := ⟨_, rfl⟩
          rw [← hln] at hr1 hr2
          have hsm := HSAME.out r
          rw [← hln] at hsm
          obtain ⟨X1, x1, rfl, _, _, _⟩ := hr1.open_
          obtain ⟨X2, x2, rfl, _, _, _⟩ := hr2.open_
          have hlb : ln ≤ 16 := by rw [hln]; exact Nat.le_trans (Nat.div_le_self _ _) HPW.out
          have hl1 : (rndL up none m r).length = ln := by rw [hln]; exact HLEN.out none r
          have hl2 : (rndL up (some g) m r).length = ln := by rw [hln]; exact HLEN.out (some g) r
          have HCC : Hid (∀ i, i < ln → ∃ b o b' o', X1 = some ⟨b, o, none⟩ ∧ X2 = some ⟨b', o', none⟩ ∧ w5.cell? ⟨b, o + i, none⟩ = some (.string (nmO f ((rndL up none m r).getD i none))) ∧ w5.cell? ⟨b', o' + i, none⟩ = some (.string (nmO f ((rndL up (some g) m r).getD i none)))) := fun i hi => by
            obtain ⟨b, o, u, e1, _, hu, h1⟩ := hr1.at_ hi
            obtain ⟨b', o', u', e2, _, hu', h2⟩ := hr2.at_ hi
            rw [strsO_at (by omega)] at hu hu'
            cases hu
            cases hu'
            exact ⟨b, o, b', o', e1, e2, h1, h2⟩
          have y1 : (((ln : Nat) : Int) != (ln : Int)) = false := by simp
          have y2 : decide ((T : Int) ≤ (r : Int)) = false := decide_eq_false (by omega)
          have y3 : decide (T ≤ r) = false := decide_eq_false (by omega)
          obtain ⟨jr, hjr⟩ : ∃ jr, jr = j0 / 2 ^ r := ⟨_, rfl⟩
          have y4 : (j0 : Int) / 2 ^ r = (jr : Int) := by rw [hjr]; push_cast; rfl
          rw [← hjr] at hsm
          have HSM := Lib.hid hsm
          clear hr1 hr2 hsm hln hl1 hl2 hjr hva0 hcp
          go_wp2_with fail
          go_quiet (fail)
          all_goals
            go_wp2_with fail
            go_loopw [127] (fun i w' => ∃ k q : Nat, k ≤ ln ∧ i = .int .i64 k ∧ w' = w5.drewN q) (fun i _ => ln - (intOf i).toNat)
            case atStart => exact ⟨0, _, Nat.zero_le _, rfl, rfl⟩
            case round =>
              obtain ⟨k, q3, hk, rfl, rfl⟩ := hrel
              by_cases hkl : k < ln
              · obtain ⟨b, o, b', o', rfl, rfl, u1, u2⟩ := HCC.out k hkl
                have a1 : decide ((ln : Int) ≤ (k : Int)) = false := decide_eq_false (by omega)
                have a2 : decide (ln ≤ k) = false := decide_eq_false (by omega)
                by_cases hr0 : r = 0
                · have e := HSM.out k hkl (.inl hr0)
                  rw [← e] at u2
                  generalize nmO f ((rndL up none m r).getD k none) = sk at *
                  have a3 : decide ((0 : Int) < (r : Int)) = false := decide_eq_false (by omega)
                  have a4 : decide (0 < r) = false := decide_eq_false (by omega)
                  clear e hr0
                  go_wp2_with fail
                  go_quiet (fail)
                  all_goals
                    go_wp2_with fail
                    go_roundw
                    case rel => exact ⟨k + 1, _, by omega, by go_num, rfl⟩
                    case measure => simp [intOf]; omega
                · have a3 : decide ((0 : Int) < (r : Int)) = true := decide_eq_true (by omega)
                  have a4 : decide (0 < r) = true := decide_eq_true (by omega)
                  by_cases hkj : k = jr
                  · have a5 : ((k : Int) == (jr : Int)) = true := by simp [hkj]
                    have a6 : (k == jr) = true := by simp [hkj]
                    clear hkj
                    go_wp2_with fail
                    go_roundw
                    case rel => exact ⟨k + 1, _, by omega, by go_num, rfl⟩
                    case measure => simp [intOf]; omega
                  · have e := HSM.out k hkl (.inr hkj)
                    rw [← e] at u2
                    generalize nmO f ((rndL up none m r).getD k none) = sk at *
                    have a5 : ((k : Int) == (jr : Int)) = false := by simp; omega
                    have a6 : (k == jr) = false := by simp; omega
                    clear e hkj
                    go_wp2_with fail
                    go_quiet (fail)
                    all_goals
                      go_wp2_with fail
                      go_roundw
                      case rel => exact ⟨k + 1, _, by omega, by go_num, rfl⟩
                      case measure => simp [intOf]; omega
              · obtain rfl : ln = k := by omega
                go_wp2_with fail
                go_roundw
                case rel => exact ⟨r + 1, _, by omega, by go_num, rfl⟩
                case measure => simp [intOf]; omega
        · obtain rfl : T = r := by omega
          go_wp2_with (go_at_call 9; refine (HLR.out _ (below_drewN HBW.out _)).mono ?_; rintro e w' ⟨rfl, hb2⟩; have HB2 := Lib.hid hb2; clear hb2)
          go_ret
          exact ⟨rfl, HB2.out⟩
end Go.Proofs.YtkkkfjinflepmaaGreatDoor
