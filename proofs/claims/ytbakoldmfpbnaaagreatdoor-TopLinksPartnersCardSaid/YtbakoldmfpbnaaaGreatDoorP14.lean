/- Chapter 5: Leaders. -/
import Derived.Test.YtbakoldmfpbnaaaGreatDoorP13
import Derived.Test.YtbakoldmfpbnaaaGreatDoorP10
import Derived.Test.YtbakoldmfpbnaaaGreatDoorP6
set_option linter.unusedVariables false
set_option linter.unusedSimpArgs false
set_option linter.unusedSectionVars false
set_option linter.constructorNameAsVariable false
namespace Go.Proofs.YtbakoldmfpbnaaaGreatDoor
open Go.RowKit Go.Mem Go.Sheet Go.Adj
/-- the players of whom all holes count -/
def keepL (hs : List HI) (ps : List PI) (n : Nat) : Nat → List Nat
  | 0 => []
  | k + 1 => if allO (plN hs ps k) n then keepL hs ps n k ++ [k] else keepL hs ps n k
theorem keepL_mem {hs : List HI} {ps : List PI} {n : Nat} : ∀ {k i : Nat}, i ∈ keepL hs ps n k → i < k ∧ allO (plN hs ps i) n = true
  | 0, i, h => by cases h
  | k + 1, i, h => by
    unfold keepL at h
    split at h
    · rename_i hk
      rcases List.mem_append.1 h with h | h
      · have := keepL_mem h; exact ⟨by omega, this.2⟩
      · obtain rfl := List.mem_singleton.1 h
        exact ⟨by omega, hk⟩
    · have := keepL_mem h; exact ⟨by omega, this.2⟩
theorem keepL_len (hs : List HI) (ps : List PI) (n : Nat) : ∀ k : Nat, (keepL hs ps n k).length ≤ k
  | 0 => Nat.le_refl _
  | k + 1 => by
    have := keepL_len hs ps n k
    unfold keepL
    split
    · rw [List.length_append, List.length_singleton]; omega
    · omega
def stF5 (hs : List HI) (ps : List PI) (i j : Nat) : Int := (plN hs ps i j).s
def natsI (l : List Nat) : List Value := l.map fun (i : Nat) => .int .i64 (i : Int)
theorem eltT : Elt Tryz.prog 113 42 (.slice none 0 0) 1 24 := ⟨Tryz.underlying113, by kernel_rfl, rfl, by decide⟩
theorem one_slv (A : Option Addr) (n c : Nat) : ∀ u ∈ [Value.slice A n c], u.oneCell' = true := by simp [Value.oneCell']
theorem St.blk_rd1 {W w : World} {L : List Asr} {i g : Nat} {t : TypeId} {u : Value} (h : St W w L) (hi : L[i]? = some (blk g t #[u])) : Rd w (fun _ => True) 1 (.slice (some ⟨g, 0, none⟩) 1 1) 1 [u] := by
  have hc := h.blk_cell hi 0
  refine rd_cells (World.block_lt_of_cell? _ _ hc) (by simp) fun j z hz => ?_
  match j, hz with
  | 0, hz => cases hz; exact hc
/-- the state of the first loop -/
def LInv (W w : World) (n : Nat) (hs : List HI) (ps : List PI) (FA : Asr) (v6 v7 : Value) (k : Nat) : Prop :=
  ∃ ms : List (Value × (Nat → Int)), ms.map Prod.snd = (keepL hs ps n k).map (stF5 hs ps) ∧ St W w [FA, row 3 1 v6 (keepL hs ps n k).length (natsI (keepL hs ps n k)), row 42 1 v7 (keepL hs ps n k).length (ms.map Prod.fst), lisA n ms]
set_option maxRecDepth 100000 in
set_option maxHeartbeats 8000000 in
theorem leaders_ok (W : World) (v vp : Value) (n m : Nat) (hs : List HI) (ps : List PI) (hgh : GoodH hs) (h : Rd W (· < W.heap.size) 2 v n (hs.flatMap HI.cells)) (hp : RdPl W (· < W.heap.size) vp m ps) (hg : GoodPs hs ps m) (hm : m ≤ 19) :
    Calls Tryz.prog 21 #[.agg #[v, vp]] W fun e w' => ∃ (v1 v2 : Value) (q : Nat) (X : Nat → Nat) (Pl : Nat → Int), e = .returned (.tuple #[v1, v2, .int .i64 0]) ∧ St W w' [row 3 1 v1 q (intsI (gl (fun a => (X a : Int)) q)), row 3 1 v2 q (intsI (gl Pl q))] ∧
      (∀ a, a < q → X a < m ∧ allO (plN hs ps (X a)) n = true) ∧ ∀ a b, a < b → b < q → Pl a ≤ Pl b ∧ sumTo (stF5 hs ps (X a)) n ≤ sumTo (stF5 hs ps (X b)) n := by
  have hl : n = hs.length := h.count (f := HI.cells) (size := 2) (fun _ => rfl) (by decide)
  have hn := hgh.len
  rw [← hl] at hn
  have HCF : Hid (∀ w, Below W.heap.size W w → Calls Tryz.prog 51 #[.agg #[v, vp]] w fun e w' => e = .returned (.int .i64 0) ∧ Below w.heap.size w w') := fun w hb => checkField_ok w v vp n m hs ps hgh (h.later hb) (hp.later hb) hg (by omega)
  have HL := Lib.hid hl
  have H := Lib.hid h
  have HPL := Lib.hid hp
  have HG := Lib.hid hg
  have HGH := Lib.hid hgh
  obtain ⟨A, c, rfl, _, _, _⟩ := h.open_
  obtain ⟨Ap, cp, rfl, _, _, _⟩ := hp.1.open_
  have S0 := (St.refl W).blk_new #[.slice A n c, .slice Ap m cp] 25
  simp only [List.nil_append] at S0
  have HS0 := Lib.hid S0
  clear h hp hg hgh hl S0
  go_enter Tryz.func21, Tryz.ntmps21
  go_wp2_with fail
  generalize hgx : W.heap.size = gx at HS0 ⊢
  generalize W.alloc (.cells #[.slice A n c, .slice Ap m cp] 25) = w0 at *
  go_at_call 51
  refine (HCF.out _ HS0.out.bel).mono ?_
  rintro e w1 ⟨rfl, hb1⟩
  have S1 := HS0.out.ext hb1
  have c1 := S1.blk_cell (i := 0) rfl 1
  have HS1 := Lib.hid S1
  clear S1 hb1 HS0 HCF
  go_wp2_with fail
  have S2 : LInv W w1 n hs ps (blk gx 25 #[.slice A n c, .slice Ap m cp]) (.slice none 0 0) (.slice none 0 0) 0 := by
    refine ⟨[], rfl, ?_⟩
    have S3 := lisA_new ((HS1.out.row_nil 3 1).row_nil 42 1) n
    simp only [List.cons_append, List.nil_append] at S3
    exact S3
  clear HS1 c1
  generalize hFA : blk gx 25 #[.slice A n c, .slice Ap m cp] = FA at *
  go_loopw [30, 6, 7] (fun i v6 v7 w' => ∃ k : Nat, k ≤ m ∧ i = .int .i64 k ∧ LInv W w' n hs ps FA v6 v7 k) (fun i _ _ _ => m - (intOf i).toNat)
  case atStart => exact ⟨0, Nat.zero_le _, rfl, S2⟩
  case round =>
    obtain ⟨k, hk, rfl, ms, hms, S⟩ := hrel
    clear S2
    by_cases hlt : k < m
    · obtain ⟨b, o, x, hA, hx, c0, c1, c2⟩ := (HPL.out.later S.bel).elem hlt
      cases hA
      have hgx' := HG.out.ok k hlt
      have hpl : plN hs ps k = netF hs x.es x.co := by unfold plN; rw [pAt_eq hx]
      rw [pAt_eq hx] at hgx'
      obtain ⟨⟨g1, g2, g3, g4⟩, g5, g6⟩ := hgx'
      have hmn : x.m = n := g3.trans HL.out.symm
      have HCE : Hid (∀ w, Below W.heap.size W w → CEnv w (.slice A n c) (.slice x.a x.m x.c) n hs x.es x.name) := fun w hb => by
        have := ((HPL.out.later hb).2 x (List.mem_of_getElem? hx))
        rw [hmn] at this ⊢
        exact ⟨H.out.later hb, this.1, g1, g2, this.2, by rwa [hmn] at g4⟩
      have hco : -99 ≤ x.co ∧ x.co ≤ 99 := ⟨g5, g6⟩
      have HKE : Hid (keepL hs ps n (k + 1) = if allO (plN hs ps k) n then keepL hs ps n k ++ [k] else keepL hs ps n k) := rfl
      have HSF : Hid (stF5 hs ps k = fun j => (plN hs ps k j).s) := rfl
      have HKN := Lib.hid (keepL_len hs ps n k)
      have HPK := Lib.hid hpl
      have HMS := Lib.hid hms
      clear hx g1 g2 g3 g4 g5 g6 hpl hms
      obtain ⟨xn, xa, xm, xc, xes, xco⟩ := x
      simp only at c0 c1 c2 HCE hco hmn HPK
      subst hmn
      have HNT : Hid (∀ w, Below W.heap.size W w → Calls Tryz.prog 47 #[.agg #[.string xn, .slice xa xm xc, .int .i64 xco], .slice A xm c] w fun e w' => ∃ v', e = .returned v' ∧ St w w' [row 64 2 v' xm ((nl (plN hs ps k) xm).flatMap NI.cells)]) := fun w hb => by
        rw [HPK.out]; exact nets_ok w _ _ xm hs xes xn xco hco (HCE.out w hb)
      have SA := S.blk_new #[.string xn, .slice xa xm xc, .int .i64 xco] 33
      simp only [List.cons_append, List.nil_append] at SA
      have p0 := SA.blk_cell (i := 4) rfl 0
      have p1 := SA.blk_cell (i := 4) rfl 1
      have p2 := SA.blk_cell (i := 4) rfl 2
      have HSA := Lib.hid SA
      have f0 := SA.blk_cell (g := gx) (t := 25) (cs := #[.slice A xm c, .slice (some ⟨b, o, none⟩) m cp]) (i := 0) (by rw [← hFA]; rfl) 0
      clear S SA hco HCE
      have hE := enters Tryz.func47 (by kernel_rfl) rfl
      unfold Enters at hE
      go_wp2_with fail
      refine (HNT.out _ HSA.out.bel).mono ?_
      rintro e w3 ⟨vn, rfl, S3⟩
      have S4 := HSA.out.call S3
      simp only [List.cons_append, List.nil_append] at S4
      have HAL := Lib.hid (all_any w3 vn xm (plN hs ps k) (S3.row_rd (i := 0) rfl).now)
      obtain ⟨bn, cn, rfl⟩ := row_some2 S4 (i := 5) rfl (by omega)
      have HS4 := Lib.hid S4
      generalize wr.heap.size = gp at *
      clear S3 S4 HSA HNT p0 p1 p2 f0 c0 c1 c2 hE
      by_cases hal : allO (plN hs ps k) xm = true
      · rw [hal] at HAL
        have HKE2 : Hid (keepL hs ps xm (k + 1) = keepL hs ps xm k ++ [k]) := by
          show _ = _
          rw [HKE.out, if_pos hal]
        clear HKE hal
        go_wp2_with (go_at_call 52; refine HAL.out.mono ?_; rintro e w4 ⟨rfl, hb4⟩; have HS5 := Lib.hid (HS4.out.ext hb4); clear hb4)
        have S6 := HS5.out.row_nil 3 1
        simp only [List.cons_append, List.nil_append] at S6
        have HS6 := Lib.hid S6
        have HGS : Hid (∀ j, gl (stF5 hs ps k) (j + 1) = gl (stF5 hs ps k) j ++ [stF5 hs ps k j]) := fun j => gl_snoc _ j
        clear S6 HS5
        go_loopw [46, 12] (fun i v w' => ∃ j : Nat, j ≤ xm ∧ i = .int .i64 j ∧ St W w' [FA, row 3 1 u6 (keepL hs ps xm k).length (natsI (keepL hs ps xm k)), row 42 1 u7 (keepL hs ps xm k).length (ms.map Prod.fst), lisA xm ms, blk gp 33 #[.string xn, .slice xa xm xc, .int .i64 xco], row 64 2 (.slice (some ⟨bn, 0, none⟩) xm cn) xm ((nl (plN hs ps k) xm).flatMap NI.cells), row 3 1 v j (intsI (gl (stF5 hs ps k) j))]) (fun i _ _ => xm - (intOf i).toNat)
        case atStart => exact ⟨0, Nat.zero_le _, rfl, HS6.out⟩
        case round =>
          obtain ⟨j, hj, rfl, S⟩ := hrel
          clear HS6
          by_cases hltj : j < xm
          · obtain ⟨b', o', y, hbo, hy, d0, d1⟩ := net_elem (S.row_rd (i := 5) rfl) hltj
            cases hbo
            rw [nl_at _ hltj] at hy
            have hgs := HGS.out j
            rw [HSF.out] at hgs
            have hye : plN hs ps k j = y := Option.some.inj hy
            simp only [hye] at hgs
            rw [← HSF.out] at hgs
            rw [Nat.zero_add] at d0 d1
            obtain ⟨ys, ym⟩ := y
            dsimp only at d0 d1 hgs
            have HGSJ := Lib.hid hgs
            generalize mkN ym = ymv at *
            have SB := S.blk_new #[.int .i64 ys, .string ymv] 64
            simp only [List.cons_append, List.nil_append] at SB
            have HSB := Lib.hid (SB.alloc (.cells #[.int .i64 ys] 3))
            clear S SB hy hye hgs
            go_wp2_with (at_builtin; refine wpList_append_st eltI rfl _ _ rfl rfl HSB.out (k := 6) rfl rfl (rd_one (by simp)) (one_int _ _) (by omega) (by omega) ?_; intro v' w' S' _)
            go_roundw
            case rel =>
              refine ⟨j + 1, by omega, by go_num, ?_⟩
              rw [HGSJ.out]
              have S9 := S'.sub (L' := [_, _, _, _, _, _, _]) (List.sublist_append_left [_, _, _, _, _, _, _] [_])
              simpa [intsI] using S9
            case measure => simp [intOf]; omega
          · obtain rfl : xm = j := by omega
            obtain ⟨bs, cs, rfl⟩ := row_some S (i := 6) rfl (by omega)
            have hq19 := HKN.out
            generalize hRN : row 64 2 (.slice (some ⟨bn, 0, none⟩) xm cn) xm ((nl (plN hs ps k) xm).flatMap NI.cells) = RN at *
            generalize hPL : natsI (keepL hs ps xm k) = PL at *
            generalize hqq : (keepL hs ps xm k).length = q at *
            generalize hVS : ms.map Prod.fst = VS at *
            have SD := Lib.hid (S.alloc (.cells #[.int .i64 k] 3))
            have HPL2 := Lib.hid hPL
            have HQQ := Lib.hid hqq
            have HVS := Lib.hid hVS
            clear S hRN hPL hqq hVS
            go_wp2_with (first
              | (at_builtin; refine wpList_append_st eltI rfl _ _ rfl rfl SD.out (k := 1) rfl rfl (rd_one (by simp)) (one_int _ _) (by omega) (by omega) ?_; intro v1 w5 S5 _; have HS5 := Lib.hid (S5.alloc (.cells #[.slice (some ⟨bs, 0, none⟩) xm cs] 42)); clear S5)
              | (at_builtin; refine wpList_append_st eltT rfl _ _ rfl rfl HS5.out (k := 2) rfl rfl (rd_one (by simp)) (one_slv _ _ _) (by omega) (by omega) ?_; intro v2 w6 S9 _))
            simp only [List.set_cons_zero, List.set_cons_succ] at S9
            have S10 := (S9.sub (L' := [FA, row 3 1 v1 (q + 1) (PL ++ [.int .i64 k]), row 42 1 v2 (q + 1) (VS ++ [.slice (some ⟨bs, 0, none⟩) xm cs]), lisA xm ms, row 3 1 (.slice (some ⟨bs, 0, none⟩) xm cs) xm (intsI (gl (stF5 hs ps k) xm))]) (.cons_cons _ (.cons_cons _ (.cons_cons _ (.cons_cons _ (.cons _ (.cons _ (List.Sublist.refl _))))))))
            have S11 := lisA_push (L := [_, _, _]) S10
            have HS11 := Lib.hid S11
            clear S9 S10 S11 SD HS5
            go_roundw
            case rel =>
              refine ⟨k + 1, by omega, by go_num, ms ++ [(.slice (some ⟨bs, 0, none⟩) xm cs, stF5 hs ps k)], ?_, ?_⟩
              · rw [HKE2.out, List.map_append, List.map_append, HMS.out]; rfl
              · rw [HKE2.out, List.length_append, HQQ.out, List.map_append, HVS.out]
                have e : natsI (keepL hs ps xm k ++ [k]) = PL ++ [.int .i64 k] := by rw [← HPL2.out]; simp [natsI]
                rw [e]
                exact HS11.out
            case measure => simp [intOf]; omega
      · have hal' : allO (plN hs ps k) xm = false := by simpa using hal
        rw [hal'] at HAL
        have HKE2 : Hid (keepL hs ps xm (k + 1) = keepL hs ps xm k) := by
          show _ = _
          rw [HKE.out, if_neg hal]
        clear HKE hal hal'
        go_wp2_with (go_at_call 52; refine HAL.out.mono ?_; rintro e w4 ⟨rfl, hb4⟩; have HS5 := Lib.hid (HS4.out.ext hb4); clear hb4)
        go_roundw
        case rel =>
          refine ⟨k + 1, by omega, by go_num, ms, by rw [HKE2.out]; exact HMS.out, ?_⟩
          rw [HKE2.out]
          exact HS5.out.sub (L' := [_, _, _, _]) (List.sublist_append_left [_, _, _, _] [_, _])
        case measure => simp [intOf]; omega
    · obtain rfl : m = k := by omega
      have hq19 := keepL_len hs ps n m
      have hkm : ∀ i ∈ keepL hs ps n m, i < m ∧ allO (plN hs ps i) n = true := fun i hi => keepL_mem hi
      have hbd : ∀ F ∈ (keepL hs ps n m).map (stF5 hs ps), ∀ i, i < n → -200 ≤ F i ∧ F i ≤ 200 := fun F hF i hi => by
        obtain ⟨p, hp, rfl⟩ := List.mem_map.1 hF
        obtain ⟨hpm, _⟩ := hkm p hp
        have hgx' := HG.out.ok p hpm
        have h1 := good_bd (hgx'.1.2.2.2 i (by rw [hgx'.1.2.2.1, ← HL.out]; exact hi))
        have h2 := giv_bd HGH.out.len ⟨hgx'.2.1, hgx'.2.2⟩ i
        unfold stF5 plN netF
        split
        · show -200 ≤ (0 : Int) ∧ (0 : Int) ≤ 200; omega
        · split
          · show -200 ≤ (0 : Int) ∧ (0 : Int) ≤ 200; omega
          · show -200 ≤ _ - _ ∧ _ - _ ≤ 200
            omega
      have HKM := Lib.hid hkm
      obtain ⟨ks, hks⟩ : ∃ ks, ks = keepL hs ps n m := ⟨_, rfl⟩
      obtain ⟨q, hq⟩ : ∃ q, q = ks.length := ⟨_, rfl⟩
      rw [← hks] at S hq19 HKM hms hbd
      rw [← hq] at S hq19
      have HQ := Lib.hid hq
      have ht := lisA_tab S (i := 2) (j := 3) rfl rfl
      rw [hms] at ht
      obtain ⟨Av, cv7, rfl, _, _, _⟩ := (S.row_rd (i := 2) rfl).open_
      have HRK := Lib.hid (ranks_ok wr _ q n (ks.map (stF5 hs ps)) (by rw [List.length_map, ← hq]) (by omega) hn hbd ht)
      have S1 := S.sub (L' := [row 3 1 u6 q (natsI ks)]) (.cons _ (.cons_cons _ (.cons _ (.cons _ (List.Sublist.refl _)))))
      have HS1 := Lib.hid S1
      clear S S1 ht hbd hkm hks hq hms
      go_wp2_with fail
      go_at_call 53
      refine HRK.out.mono ?_
      rintro e w2 ⟨vo, rfl, S2⟩
      have S3 := HS1.out.call S2
      simp only [List.cons_append, List.nil_append] at S3
      obtain ⟨Ao, co, rfl, _, _, _⟩ := (S3.row_rd (i := 1) rfl).open_
      have S4 := S3.blk_new #[.slice Ao q co] 42
      simp only [List.cons_append, List.nil_append] at S4
      have S5 := S4.row_nil 3 1
      simp only [List.cons_append, List.nil_append] at S5
      have HS5 := Lib.hid S5
      obtain ⟨A6, c6, rfl, _, _, _⟩ := (S5.row_rd (i := 0) rfl).open_
      obtain ⟨go, hgo⟩ : ∃ g, g = w2.heap.size := ⟨_, rfl⟩
      rw [← hgo] at HS5
      clear S2 S3 S4 S5 HRK HS1
      go_wp2_with fail
      rw [← hgo]
      clear hgo
      generalize hRK : rkF n (ks.map (stF5 hs ps)) = RK at *
      have HRKE := Lib.hid hRK
      clear hRK
      go_loopw [69, 16] (fun i v w' => ∃ j : Nat, j ≤ q ∧ i = .int .i64 j ∧ St W w' [row 3 1 (.slice A6 q c6) q (natsI ks), row 3 1 (.slice Ao q co) q (intsI (gl RK q)), blk go 42 #[.slice Ao q co], row 3 1 v j (intsI (gl (fun i => (i : Int)) j))]) (fun i _ _ => q - (intOf i).toNat)
      case atStart => exact ⟨0, Nat.zero_le _, rfl, HS5.out⟩
      case round =>
        obtain ⟨j, hj, rfl, S⟩ := hrel
        clear HS5
        by_cases hltj : j < q
        · have HS6 := Lib.hid (S.alloc (.cells #[.int .i64 j] 3))
          have HGS : Hid (gl (fun i => (i : Int)) (j + 1) = gl (fun i => (i : Int)) j ++ [(j : Int)]) := gl_snoc _ j
          clear S
          go_wp2_with (at_builtin; refine wpList_append_st eltI rfl _ _ rfl rfl HS6.out (k := 3) rfl rfl (rd_one (by simp)) (one_int _ _) (by omega) (by omega) ?_; intro v' w' S' _)
          go_roundw
          case rel =>
            refine ⟨j + 1, by omega, by go_num, ?_⟩
            rw [HGS.out]
            simpa [intsI] using S'
          case measure => simp [intOf]; omega
        · obtain rfl : q = j := by omega
          have HSO : Hid (∃ A16 c16, u16 = .slice A16 q c16 ∧ Calls Tryz.prog 54 #[.slice A16 q c16, .func (.func 55) #[] #[.pointer (some ⟨go, 0, none⟩)]] wr fun e w' => e = .returned (.tuple #[]) ∧ ∃ Y' : Nat → Int, Mem0 (fun x => 0 ≤ x ∧ x < (q : Int)) Y' q ∧ (∀ a b, a < b → b < q → RK (Y' a).toNat ≤ RK (Y' b).toNat) ∧
              St W w' [row 3 1 (.slice A6 q c6) q (natsI ks), row 3 1 (.slice Ao q co) q (intsI (gl RK q)), blk go 42 #[.slice Ao q co], row 3 1 (.slice A16 q c16) q (intsI (gl Y' q))]) := by
            show ∃ _, _
            by_cases hq0 : q = 0
            · obtain ⟨A16, c16, rfl, _, _, _⟩ := (S.row_rd (i := 3) rfl).open_
              refine ⟨A16, c16, rfl, ?_⟩
              subst hq0
              refine (stableSort_zero wr A16 c16 _).mono ?_
              rintro e w3 ⟨rfl, rfl⟩
              exact ⟨rfl, fun i => (i : Int), fun a ha => by omega, fun a b h1 h2 => by omega, S⟩
            · obtain ⟨g16, c16, rfl⟩ := row_some S (i := 3) rfl (by omega)
              obtain ⟨bo, co', hAo⟩ := row_some S (i := 1) rfl (by omega)
              injection hAo with e1 e2 e3
              subst e1 e3
              refine ⟨_, c16, rfl, ?_⟩
              refine (stableSort_any W wr _ 3 go g16 c16 q (fun x => RK x.toNat) (fun x => 0 ≤ x ∧ x < (q : Int)) (fun i => (i : Int)) (by omega) S rfl (fun a ha => ⟨by dsimp only; omega, by dsimp only; omega⟩) ?_).mono ?_
              · intro w' Y' x y S' hx hy
                simp only [List.set_cons_zero, List.set_cons_succ] at S'
                obtain ⟨xn, rfl⟩ : ∃ xn : Nat, x = xn := ⟨x.toNat, by omega⟩
                obtain ⟨yn, rfl⟩ : ∃ yn : Nat, y = yn := ⟨y.toNat, by omega⟩
                have h0 := S'.blk_cell (i := 2) rfl 0
                have h1 := rd_cellI (S'.row_rd (i := 1) rfl) (gl_at RK (k := xn) (n := q) (by omega))
                have h2 := rd_cellI (S'.row_rd (i := 1) rfl) (gl_at RK (k := yn) (n := q) (by omega))
                exact leaders1_ok w' go bo 0 q co xn yn (RK xn) (RK yn) (by omega) (by omega) h0 h1 h2
              · rintro e w3 ⟨rfl, Y', h1, h2, S'⟩
                simp only [List.set_cons_zero, List.set_cons_succ] at S'
                exact ⟨rfl, Y', h1, h2, S'⟩
          obtain ⟨A16, c16, rfl, hso⟩ := HSO.out
          have HSRT := Lib.hid hso
          clear HSO hso S
          go_wp2_with fail
          go_at_call 54
          refine HSRT.out.mono ?_
          rintro e w3 ⟨rfl, Y, hY1, hY2, S3⟩
          have HY1 := Lib.hid hY1
          have HY2 := Lib.hid hY2
          have S4 := (S3.row_nil 3 1).row_nil 3 1
          simp only [List.cons_append, List.nil_append] at S4
          have HS4 := Lib.hid S4
          clear S3 S4 hY1 hY2 HSRT
          go_wp2_with fail
          go_loopw [82, 18, 19] (fun i v1 v2 w' => ∃ j : Nat, j ≤ q ∧ i = .int .i64 j ∧ St W w' [row 3 1 (.slice A6 q c6) q (natsI ks), row 3 1 (.slice Ao q co) q (intsI (gl RK q)), blk go 42 #[.slice Ao q co], row 3 1 (.slice A16 q c16) q (intsI (gl Y q)), row 3 1 v1 j (intsI (gl (fun a => ((ks.getD (Y a).toNat 0 : Nat) : Int)) j)), row 3 1 v2 j (intsI (gl (fun a => RK (Y a).toNat) j))]) (fun i _ _ _ => q - (intOf i).toNat)
          case atStart => exact ⟨0, Nat.zero_le _, rfl, HS4.out⟩
          case round =>
            obtain ⟨j, hj, rfl, S⟩ := hrel
            clear HS4
            by_cases hltj2 : j < q
            · have hy := HY1.out j hltj2
              have HOUT : Hid (gl (fun a => ((ks.getD (Y a).toNat 0 : Nat) : Int)) (j + 1) = gl (fun a => ((ks.getD (Y a).toNat 0 : Nat) : Int)) j ++ [((ks.getD (Y j).toNat 0 : Nat) : Int)]) := gl_snoc _ j
              have HPL2 : Hid (gl (fun a => RK (Y a).toNat) (j + 1) = gl (fun a => RK (Y a).toNat) j ++ [RK (Y j).toNat]) := gl_snoc _ j
              obtain ⟨b16, o16, e0, hA16, _, he0, d0⟩ := (S.row_rd (i := 3) rfl).at_ hltj2
              subst hA16
              unfold intsI at he0
              rw [List.getElem?_map, gl_at Y hltj2] at he0
              cases he0
              dsimp only at hy
              obtain ⟨yn, hyn⟩ : ∃ yn : Nat, (Y j) = yn := ⟨(Y j).toNat, by omega⟩
              rw [hyn] at hy d0 HOUT HPL2
              rw [Int.toNat_natCast] at HOUT HPL2
              have hynq : yn < q := by omega
              obtain ⟨b6, o6, e1, hA6, _, he1, d1⟩ := (S.row_rd (i := 0) rfl).at_ hynq
              obtain ⟨bo, oo, e2, hAo, _, he2, d2⟩ := (S.row_rd (i := 1) rfl).at_ hynq
              subst hA6 hAo
              have hz1 : (natsI ks)[yn]? = some (.int .i64 (ks.getD yn 0 : Nat)) := by
                unfold natsI
                rw [List.getElem?_map, List.getD_eq_getElem?_getD, List.getElem?_eq_getElem (by rw [← HQ.out]; exact hynq)]
                rfl
              have hz2 : (intsI (gl RK q))[yn]? = some (.int .i64 (RK yn)) := by
                unfold intsI
                rw [List.getElem?_map, gl_at RK hynq]
                rfl
              rw [hz1] at he1
              rw [hz2] at he2
              cases he1
              cases he2
              generalize ((ks.getD yn 0 : Nat) : Int) = kv at *
              generalize hrv : RK yn = rv at *
              obtain ⟨A1, c1, rfl, _, _, _⟩ := (S.row_rd (i := 4) rfl).open_
              obtain ⟨A2, c2, rfl, _, _, _⟩ := (S.row_rd (i := 5) rfl).open_
              generalize hXL : gl (fun a => ((ks.getD (Y a).toNat 0 : Nat) : Int)) j = XL at *
              generalize hPL : gl (fun a => RK (Y a).toNat) j = PL at *
              have HCL : Hid (∀ (w' : World) (R : List Asr), St W w' (R ++ [row 3 1 (.slice (some ⟨b6, o6, none⟩) q c6) q (natsI ks), row 3 1 (.slice (some ⟨bo, oo, none⟩) q co) q (intsI (gl RK q)), blk go 42 #[.slice (some ⟨bo, oo, none⟩) q co], row 3 1 (.slice (some ⟨b16, o16, none⟩) q c16) q (intsI (gl Y q))]) → w'.cell? ⟨b6, o6 + yn, none⟩ = some (.int .i64 kv) ∧ w'.cell? ⟨go, 0, none⟩ = some (.slice (some ⟨bo, oo, none⟩) q co) ∧ w'.cell? ⟨bo, oo + yn, none⟩ = some (.int .i64 rv)) := fun w' R h => by
                have h' := h.sub (List.sublist_append_right R [row 3 1 (.slice (some ⟨b6, o6, none⟩) q c6) q (natsI ks), row 3 1 (.slice (some ⟨bo, oo, none⟩) q co) q (intsI (gl RK q)), blk go 42 #[.slice (some ⟨bo, oo, none⟩) q co], row 3 1 (.slice (some ⟨b16, o16, none⟩) q c16) q (intsI (gl Y q))])
                obtain ⟨b, o, e, _, _, hc⟩ := (h'.row_rd (i := 0) rfl).addr (by omega)
                cases e
                obtain ⟨b', o', e', _, _, hc'⟩ := (h'.row_rd (i := 1) rfl).addr (by omega)
                cases e'
                exact ⟨hc _ _ hz1, h'.blk_cell (i := 2) rfl 0, hc' _ _ hz2⟩
              have SD : St W wr.drew ([row 3 1 (.slice A1 j c1) j (intsI XL), row 3 1 (.slice A2 j c2) j (intsI PL)] ++ [row 3 1 (.slice (some ⟨b6, o6, none⟩) q c6) q (natsI ks), row 3 1 (.slice (some ⟨bo, oo, none⟩) q co) q (intsI (gl RK q)), blk go 42 #[.slice (some ⟨bo, oo, none⟩) q co], row 3 1 (.slice (some ⟨b16, o16, none⟩) q c16) q (intsI (gl Y q))]) := S.drew.perm (List.perm_append_comm (l₁ := [_, _, _, _]) (l₂ := [_, _]))
              have HSD := Lib.hid SD
              have HXL := Lib.hid hXL
              have HPL := Lib.hid hPL
              clear hy hyn S SD hz1 hz2 hXL hPL hrv d1 d2
              go_wp2_with fail
              refine wp_head_tail3 0 14 4 [] [0, 1, 2, 3, 4, 7, 8, 9, 10, 11] rfl (fun w' : World => w'.cell? ⟨b6, o6 + yn, none⟩ = some (.int .i64 kv) ∧ w'.cell? ⟨go, 0, none⟩ = some (.slice (some ⟨bo, oo, none⟩) q co) ∧ w'.cell? ⟨bo, oo + yn, none⟩ = some (.int .i64 rv))
                (fun a a' w' => ∃ (gg : Nat → Nat) (v : Nat → Value), St W w' (rows1 3 [⟨.int .i64 kv, .slice A1 j c1, j, intsI XL⟩, ⟨.int .i64 rv, .slice A2 j c2, j, intsI PL⟩] v ++ [row 3 1 (.slice (some ⟨b6, o6, none⟩) q c6) q (natsI ks), row 3 1 (.slice (some ⟨bo, oo, none⟩) q co) q (intsI (gl RK q)), blk go 42 #[.slice (some ⟨bo, oo, none⟩) q co], row 3 1 (.slice (some ⟨b16, o16, none⟩) q c16) q (intsI (gl Y q))]) ∧ a' = putAll gg v 0 [⟨5, 6, 90, 91, 86, 92⟩, ⟨12, 13, 97, 98, 93, 99⟩] a)
                (by kernel_rfl) (by kernel_rfl) (HCL.out _ _ HSD.out) ?_
              simp only [pick, List.filterMap_cons, List.filterMap_nil, List.getElem?_toArray, List.getElem?_cons_succ, List.getElem?_cons_zero]
              generalize hK : (fun w' : World => w'.cell? ⟨b6, o6 + yn, none⟩ = some (.int .i64 kv) ∧ w'.cell? ⟨go, 0, none⟩ = some (.slice (some ⟨bo, oo, none⟩) q co) ∧ w'.cell? ⟨bo, oo + yn, none⟩ = some (.int .i64 rv)) = K
              have k0 : ∀ y : Wd K, y.w.cell? ⟨b6, o6 + yn, none⟩ = some (.int .i64 kv) := by subst hK; exact fun y => y.h.1
              have k1 : ∀ y : Wd K, y.w.cell? ⟨go, 0, none⟩ = some (.slice (some ⟨bo, oo, none⟩) q co) := by subst hK; exact fun y => y.h.2.1
              have k2 : ∀ y : Wd K, y.w.cell? ⟨bo, oo + yn, none⟩ = some (.int .i64 rv) := by subst hK; exact fun y => y.h.2.2
              have hKd : ∀ (w' : World) (R : List Asr), St W w' (R ++ [row 3 1 (.slice (some ⟨b6, o6, none⟩) q c6) q (natsI ks), row 3 1 (.slice (some ⟨bo, oo, none⟩) q co) q (intsI (gl RK q)), blk go 42 #[.slice (some ⟨bo, oo, none⟩) q co], row 3 1 (.slice (some ⟨b16, o16, none⟩) q c16) q (intsI (gl Y q))]) → K w' := by
                intro w' R h
                subst hK
                exact HCL.out w' R h
              have hne : Nonempty (Wd K) := ⟨⟨wr.drew, hKd _ _ HSD.out⟩⟩
              clear hK
              generalize wr.drew = w5 at *
              refine wpQuiet_nil ?_
              change wpQuiet _ _ _ _ (_ :: _ :: _ :: _ :: _ :: _ :: _ :: _ :: _ :: _ :: []) _
              repeat (go_big_quiet_step ((fail)))
              refine wpQuiet_nil ?_
              clear k0 k1 k2 hne
              refine ⟨headW_appends (chs := [⟨5, 6, 90, 91, 86, 92⟩, ⟨12, 13, 97, 98, 93, 99⟩]) (D := [⟨.int .i64 kv, .slice A1 j c1, j, intsI XL⟩, ⟨.int .i64 rv, .slice A2 j c2, j, intsI PL⟩]) (L0 := [row 3 1 (.slice (some ⟨b6, o6, none⟩) q c6) q (natsI ks), row 3 1 (.slice (some ⟨bo, oo, none⟩) q co) q (intsI (gl RK q)), blk go 42 #[.slice (some ⟨bo, oo, none⟩) q co], row 3 1 (.slice (some ⟨b16, o16, none⟩) q c16) q (intsI (gl Y q))]) eltI rfl (by kernel_rfl) ?_ ?_ ?_ (fun w' R h => hKd w' R h) HSD.out, ?_⟩
              · exact List.forall_mem_cons.2 ⟨⟨⟨_, rfl, rfl, rfl, rfl⟩, ⟨_, rfl, rfl, rfl, rfl⟩⟩, List.forall_mem_cons.2 ⟨⟨⟨_, rfl, rfl, rfl, rfl⟩, ⟨_, rfl, rfl, rfl, rfl⟩⟩, List.forall_mem_nil _⟩⟩
              · intro q hq
                have hq' : q < 103 := (show ∀ q ∈ [91, 92, 98, 99], q < 103 by decide) q hq
                exact hq'
              · intro j c d hc hd
                match j with
                | 0 => cases hc; cases hd; exact ⟨rfl, rfl, rfl, by dsimp only; omega, by dsimp only; omega⟩
                | 1 => cases hc; cases hd; exact ⟨rfl, rfl, rfl, by dsimp only; omega, by dsimp only; omega⟩
                | n + 2 => simp at hc
              · rintro a' w9 ⟨gg, v, S9', rfl⟩
                have S9 : St W w9 ([row 3 1 (v 0) (j + 1) (intsI XL ++ [.int .i64 kv]), row 3 1 (v 1) (j + 1) (intsI PL ++ [.int .i64 rv])] ++ [row 3 1 (.slice (some ⟨b6, o6, none⟩) q c6) q (natsI ks), row 3 1 (.slice (some ⟨bo, oo, none⟩) q co) q (intsI (gl RK q)), blk go 42 #[.slice (some ⟨bo, oo, none⟩) q co], row 3 1 (.slice (some ⟨b16, o16, none⟩) q c16) q (intsI (gl Y q))]) := S9'
                have S10 := S9.perm (List.perm_append_comm (l₁ := [_, _]) (l₂ := [_, _, _, _]))
                simp only [List.cons_append, List.nil_append] at S10
                clear S9' S9 hKd HSD HCL
                simp only [putAll, sl1, Nat.zero_add]
                generalize v 0 = v1 at *
                generalize v 1 = v2 at *
                generalize gg 0 = g1 at *
                generalize gg 1 = g2 at *
                obtain ⟨B1, e1, rfl, _, _, _⟩ := (S10.row_rd (i := 4) rfl).open_
                obtain ⟨B2, e2, rfl, _, _, _⟩ := (S10.row_rd (i := 5) rfl).open_
                have HS10 := Lib.hid S10
                clear S10
                simp only [List.drop_succ_cons, List.drop_zero]
                go_wp2_with fail
                refine NoPanic.normal ?_
                go_wp2_with fail
                go_roundw
                case rel =>
                  refine ⟨j + 1, by omega, by go_num, ?_⟩
                  rw [HOUT.out, HPL2.out]
                  simpa [intsI] using HS10.out
                case measure => simp [intOf]; omega
            · obtain rfl : q = j := by omega
              have S6 := S.sub (L' := [_, _]) (List.sublist_append_right [_, _, _, _] [_, _])
              have HS6 := Lib.hid S6
              clear S S6
              go_wp2_with fail
              go_ret3
              have hat : ∀ a, a < q → ∃ i, ks[(Y a).toNat]? = some i ∧ ks.getD (Y a).toNat 0 = i ∧ lsAt (ks.map (stF5 hs ps)) (Y a).toNat = stF5 hs ps i := fun a ha => by
                have hya := HY1.out a ha
                dsimp only at hya
                have hlt' : (Y a).toNat < ks.length := by rw [← HQ.out]; omega
                refine ⟨ks[(Y a).toNat], List.getElem?_eq_getElem hlt', ?_, ?_⟩
                · rw [List.getD_eq_getElem?_getD, List.getElem?_eq_getElem hlt', Option.getD_some]
                · unfold lsAt
                  rw [List.getD_eq_getElem?_getD, List.getElem?_map, List.getElem?_eq_getElem hlt']
                  rfl
              refine ⟨_, _, q, fun a => ks.getD (Y a).toNat 0, fun a => RK (Y a).toNat, rfl, HS6.out, fun a ha => ?_, fun a b hab hb => ?_⟩
              · obtain ⟨i, h1, h2, _⟩ := hat a ha
                show ks.getD (Y a).toNat 0 < m ∧ allO (plN hs ps (ks.getD (Y a).toNat 0)) n = true
                rw [h2]
                exact HKM.out i (List.mem_of_getElem? h1)
              · have hr := HY2.out a b hab hb
                refine ⟨hr, ?_⟩
                obtain ⟨i, h1, h2, h3⟩ := hat a (by omega)
                obtain ⟨i', h1', h2', h3'⟩ := hat b hb
                show sumTo (stF5 hs ps (ks.getD (Y a).toNat 0)) n ≤ sumTo (stF5 hs ps (ks.getD (Y b).toNat 0)) n
                rw [h2, h2', ← h3, ← h3']
                rw [← HRKE.out] at hr
                unfold rkF at hr
                refine rank_sum (ls := ks.map (stF5 hs ps)) ?_ (by exact_mod_cast hr)
                rw [h3']
                exact List.mem_map_of_mem (List.mem_of_getElem? h1')
end Go.Proofs.YtbakoldmfpbnaaaGreatDoor
