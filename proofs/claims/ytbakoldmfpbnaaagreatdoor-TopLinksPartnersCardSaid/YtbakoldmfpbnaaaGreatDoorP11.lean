/- Chapter 5: CheckField, where the field is without an error; count-back. -/
import Derived.Test.YtbakoldmfpbnaaaGreatDoorB35
import Derived.Test.YtbakoldmfpbnaaaGreatDoorP8
set_option linter.unusedVariables false
set_option linter.unusedSimpArgs false
set_option linter.unusedSectionVars false
set_option linter.constructorNameAsVariable false
namespace Go.Proofs.YtbakoldmfpbnaaaGreatDoor
open Go.RowKit Go.Mem Go.Sheet Go.Adj
set_option maxRecDepth 100000 in
set_option maxHeartbeats 4000000 in
theorem checkField_ok (W : World) (v vp : Value) (n m : Nat) (hs : List HI) (ps : List PI) (hgh : GoodH hs) (h : Rd W (· < W.heap.size) 2 v n (hs.flatMap HI.cells)) (hp : RdPl W (· < W.heap.size) vp m ps) (hg : GoodPs hs ps m) (hm : m ≤ 200) :
    Calls Tryz.prog 51 #[.agg #[v, vp]] W fun e w' => e = .returned (.int .i64 0) ∧ Below W.heap.size W w' := by
  have HCH : Hid (∀ w, Below W.heap.size W w → Calls Tryz.prog 41 #[v] w fun e w' => e = .returned (.int .i64 0) ∧ Below w.heap.size w w') := fun w hb => checkHoles_ok w v n hs (h.later hb) hgh
  have HCP : Hid (∀ w, Below W.heap.size W w → Calls Tryz.prog 45 #[v, vp] w fun e w' => e = .returned (.int .i64 0) ∧ Below w.heap.size w w') := fun w hb => checkPlayers_ok w v vp n m hs ps (h.later hb) (hp.later hb) hg hm
  obtain ⟨A, c, rfl, _, _, _⟩ := h.open_
  obtain ⟨Ap, cp, rfl, _, _, _⟩ := hp.1.open_
  have t1 : decide ((200 : Int) < (m : Int)) = false := by simp; omega
  have S0 := ((St.refl W).blk_new #[.slice A n c, .slice Ap m cp] 25).drew
  simp only [List.nil_append] at S0
  clear h hp hg hgh
  go_enter Tryz.func51, Tryz.ntmps51
  go_wp2_with fail
  generalize hgx : W.heap.size = gx at S0 ⊢
  refine wp_cls 8 (fun w' => St W w' [blk gx 25 #[.slice A n c, .slice Ap m cp]]) (by kernel_rfl) (by kernel_rfl) S0 ?_
  simp only [List.take_succ_cons, List.take_zero, List.drop_succ_cons, List.drop_zero]
  generalize hK : (fun w' => St W w' [blk gx 25 #[.slice A n c, .slice Ap m cp]]) = K
  intro hne
  have kS : ∀ y : Wd K, St W y.w [blk gx 25 #[.slice A n c, .slice Ap m cp]] := by subst hK; exact fun y => y.h
  have hK3 : ∀ w w' : World, K w → Below w.heap.size w w' → K w' := by subst hK; exact fun w w' h h' => h.ext h'
  have k0 : ∀ y : Wd K, y.w.cell? ⟨gx, 0, none⟩ = some (.slice A n c) := fun y => (kS y).blk_cell (i := 0) rfl 0
  have k1 : ∀ y : Wd K, y.w.cell? ⟨gx, 1, none⟩ = some (.slice Ap m cp) := fun y => (kS y).blk_cell (i := 0) rfl 1
  have KS := Lib.hid kS
  clear hK kS S0
  iterate 2 (go_big_quiet_step ((fail)))
  go_big_quiet_step ((go_at_call 41; exact cls_below hK3 (HCH.out _ (KS.out _).bel)))
  iterate 4 (go_big_quiet_step ((fail)))
  go_big_quiet_step ((go_at_call 42; exact cls_same (formatNo _ _)))
  refine wpQuiet_nil ?_
  intro y
  have SY := (KS.out y).alloc (.cells #[.int .i64 0, .int .i64 0] 34)
  clear k0 k1 hK3 hne KS
  generalize y.w = w3 at *
  have k0 := SY.blk_cell (i := 0) rfl 0
  have k1 := SY.blk_cell (i := 0) rfl 1
  have HSY := Lib.hid SY
  clear SY
  go_wp2_with (first
    | (go_at_call 40; refine (formatOk2 _ _ (by simp) (by simp) (by simp)).mono ?_; rintro e w' ⟨rfl, rfl⟩)
    | (go_at_call 45; refine (HCP.out _ HSY.out.bel).mono ?_; rintro e w4 ⟨rfl, hb4⟩; have HB4 := Lib.hid hb4; clear hb4))
  go_ret
  exact ⟨rfl, HSY.out.bel.trans (HB4.out.mono HSY.out.bel.size)⟩
theorem same_any (w : World) (x : Int) : Calls Tryz.prog 104 #[.int .i64 x] w fun e w' => e = .returned (.int .i64 x) ∧ w = w' := by
  go_enter Tryz.func104, Tryz.ntmps104
  go_wp2
  go_ret
  exact ⟨rfl, rfl⟩
set_option maxRecDepth 100000 in
set_option maxHeartbeats 4000000 in
theorem sumI_ok (w : World) (v : Value) (n : Nat) (F : Nat → Int) (S : Nat → Prop) (h : Rd w S 1 v n (intsI (gl F n))) (hn : n ≤ 36) (hb : ∀ i, i < n → -200 ≤ F i ∧ F i ≤ 200) :
    Calls Tryz.prog 103 #[v, .func (.func 104) #[] #[]] w fun e w' => e = .returned (.int .i64 (sumTo F n)) ∧ ∃ q, w' = w.drewN q := by
  have HB := Lib.hid hb
  have HSB : Hid (∀ k, k ≤ n → -10000 ≤ sumTo F k ∧ sumTo F k ≤ 10000) := fun k hk => by
    have := sumTo_bd (f := F) (a := -200) (b := 200) (n := k) (fun i hi => hb i (by omega))
    omega
  have HSS : Hid (∀ k, sumTo F (k + 1) = sumTo F k + F k) := fun _ => rfl
  have HS0 : Hid (sumTo F 0 = 0) := rfl
  generalize hSF : sumTo F = SF at *
  clear hSF
  obtain ⟨A, c, rfl, _, _, h⟩ := h.open_
  have H := Lib.hid h
  clear h hb
  go_enter Tryz.func103, Tryz.ntmps103
  go_wp2
  go_loopw [10, 5] (fun i v w' => ∃ k q : Nat, k ≤ n ∧ i = .int .i64 k ∧ v = .int .i64 (SF k) ∧ w' = w.drewN q) (fun i _ _ => n - (intOf i).toNat)
  case atStart => exact ⟨0, 0, Nat.zero_le _, rfl, by rw [HS0.out], rfl⟩
  case round =>
    obtain ⟨k, q, hk, rfl, rfl, rfl⟩ := hrel
    by_cases hlt : k < n
    · obtain ⟨b, o, u, rfl, _, hu, c0⟩ := H.out.at_ hlt
      unfold intsI at hu
      rw [List.getElem?_map, gl_at F hlt] at hu
      cases hu
      have hxb := HB.out k hlt
      have hs1 := HSB.out k hk
      have hs2 := HSB.out (k + 1) (by omega)
      have hss := HSS.out k
      rw [hss] at hs2
      have HSK := Lib.hid hss
      generalize SF k = sk at *
      generalize F k = x at *
      clear hss
      go_wp2_with (go_at_call 104; refine (same_any _ _).mono ?_; rintro e w' ⟨rfl, rfl⟩)
      go_roundw
      case rel => exact ⟨k + 1, _, by omega, by go_num, by rw [HSK.out], rfl⟩
      case measure => simp [intOf]; omega
    · obtain rfl : k = n := by omega
      go_wp2
      go_ret
      exact ⟨rfl, _, rfl⟩
theorem cbs_at (n : Nat) (hn : 1 ≤ n ∧ n ≤ 36) : ∀ k, k < 5 → ∃ c : Nat, ([n, 9, 6, 3, 1] : List Nat).drop k = c :: ([n, 9, 6, 3, 1] : List Nat).drop (k + 1) ∧ 1 ≤ c ∧ c ≤ 36 ∧ (#[.int .i64 n, .int .i64 9, .int .i64 6, .int .i64 3, .int .i64 1] : Array Value)[k]? = some (.int .i64 c)
  | 0, _ => ⟨n, rfl, hn.1, hn.2, rfl⟩
  | 1, _ => ⟨9, rfl, by omega, by omega, rfl⟩
  | 2, _ => ⟨6, rfl, by omega, by omega, rfl⟩
  | 3, _ => ⟨3, rfl, by omega, by omega, rfl⟩
  | 4, _ => ⟨1, rfl, by omega, by omega, rfl⟩
set_option maxRecDepth 100000 in
set_option maxHeartbeats 4000000 in
theorem countback_ok (W : World) (va vb : Value) (n : Nat) (F G : Nat → Int) (hn : 1 ≤ n ∧ n ≤ 36) (ha : Rd W (· < W.heap.size) 1 va n (intsI (gl F n))) (hb : Rd W (· < W.heap.size) 1 vb n (intsI (gl G n))) (hF : ∀ i, i < n → -200 ≤ F i ∧ F i ≤ 200) (hG : ∀ i, i < n → -200 ≤ G i ∧ G i ≤ 200) :
    Calls Tryz.prog 82 #[va, vb] W fun e w' => e = .returned (.int .i64 (cbF n F G)) ∧ Below W.heap.size W w' := by
  obtain ⟨A, ca, rfl, hca, _, _⟩ := ha.open_
  obtain ⟨B, cb, rfl, hcb, _, _⟩ := hb.open_
  obtain ⟨ba, oa, rfl, _⟩ := ha.addr (by omega)
  obtain ⟨bb, ob, rfl, _⟩ := hb.addr (by omega)
  have HA := Lib.hid ha
  have HB := Lib.hid hb
  have HCS := Lib.hid (cbs_at n hn)
  have HF := Lib.hid hF
  have HG := Lib.hid hG
  have HST : Hid (cbL n F G (([n, 9, 6, 3, 1] : List Nat).drop 0) = cbF n F G) := rfl
  have HEN : Hid (cbL n F G (([n, 9, 6, 3, 1] : List Nat).drop 5) = 0) := rfl
  have S0 := (St.refl W).blk_new #[.int .i64 n, .int .i64 9, .int .i64 6, .int .i64 3, .int .i64 1] 3
  simp only [List.nil_append] at S0
  have HS0 := Lib.hid S0
  clear ha hb hF hG S0
  generalize hCS : ([n, 9, 6, 3, 1] : List Nat) = cs at *
  clear hCS
  go_enter Tryz.func82, Tryz.ntmps82
  go_wp2_with fail
  generalize hgx : W.heap.size = gx at HS0 ⊢
  generalize hCB : cbF n F G = CB at *
  have HCE := Lib.hid hCB
  clear hCB
  go_loopw [13] (fun i w' => ∃ k : Nat, k ≤ 5 ∧ i = .int .i64 k ∧ St W w' [blk gx 3 #[.int .i64 n, .int .i64 9, .int .i64 6, .int .i64 3, .int .i64 1]] ∧ Hid (cbL n F G (cs.drop k) = CB)) (fun i _ => 5 - (intOf i).toNat)
  case atStart => exact ⟨0, Nat.zero_le _, rfl, HS0.out, HST⟩
  case round =>
    obtain ⟨k, hk, rfl, S, hcb⟩ := hrel
    clear HS0 HST
    by_cases hlt : k < 5
    · obtain ⟨c, hdr, hc1, hc2, hce⟩ := HCS.out k hlt
      have c0 := (S.blk_cell (i := 0) rfl k).trans hce
      have hcb2 := hcb.out
      rw [hdr, cbL] at hcb2
      have HCB := Lib.hid hcb2
      have HS := Lib.hid S
      clear hdr hce hcb hcb2 S
      have hk5 : (k : Int) < 5 := by omega
      by_cases hcn : c ≤ n
      · obtain ⟨f, hf⟩ : ∃ f : Nat, f = n - c := ⟨_, rfl⟩
        have hfr : (n : Int) - (c : Int) = (f : Int) := by omega
        have hfn : f < n := by omega
        have hfn' : f ≤ n := by omega
        have hfa : f ≤ ca := by omega
        have hfb : f ≤ cb := by omega
        have hka : keyF n c F = sumTo (fun k => F (f + k)) (n - f) := by rw [keyF_yes hcn, ← hf]
        have hkb : keyF n c G = sumTo (fun k => G (f + k)) (n - f) := by rw [keyF_yes hcn, ← hf]
        rw [hka, hkb] at HCB
        have hba : Below W.heap.size W wr := HS.out.bel
        have HSA : Hid (∀ w', (∃ q, w' = wr.drewN q) → Calls Tryz.prog 103 #[.slice (some ⟨ba, oa + f, none⟩) (n - f) (ca - f), .func (.func 104) #[] #[]] w' fun e w2 => e = .returned (.int .i64 (sumTo (fun k => F (f + k)) (n - f))) ∧ ∃ q, w2 = wr.drewN q) := fun w' ⟨q, hq⟩ =>
          (sumI_ok w' _ (n - f) (fun k => F (f + k)) _ ((HA.out.later (by rw [hq]; exact below_drewN hba q)).tail hfn (by unfold intsI; rw [← List.map_drop, gl_drop])) (by omega) (fun i hi => HF.out (f + i) (by omega))).mono fun e w2 ⟨h1, m, h2⟩ => ⟨h1, q + m, by rw [h2, hq]; exact World.drewN_drewN _ _ _⟩
        have HSB : Hid (∀ w', (∃ q, w' = wr.drewN q) → Calls Tryz.prog 103 #[.slice (some ⟨bb, ob + f, none⟩) (n - f) (cb - f), .func (.func 104) #[] #[]] w' fun e w2 => e = .returned (.int .i64 (sumTo (fun k => G (f + k)) (n - f))) ∧ ∃ q, w2 = wr.drewN q) := fun w' ⟨q, hq⟩ =>
          (sumI_ok w' _ (n - f) (fun k => G (f + k)) _ ((HB.out.later (by rw [hq]; exact below_drewN hba q)).tail hfn (by unfold intsI; rw [← List.map_drop, gl_drop])) (by omega) (fun i hi => HG.out (f + i) (by omega))).mono fun e w2 ⟨h1, m, h2⟩ => ⟨h1, q + m, by rw [h2, hq]; exact World.drewN_drewN _ _ _⟩
        generalize sumTo (fun k => F (f + k)) (n - f) = sa at *
        generalize sumTo (fun k => G (f + k)) (n - f) = sb at *
        clear hf hka hkb hba
        obtain ⟨cv, hcv⟩ : ∃ cv, cv = cmpI sa sb := ⟨_, rfl⟩
        have HCM : Hid (∀ w, Calls Tryz.prog 56 #[.int .i64 sa, .int .i64 sb] w fun e w' => e = .returned (.int .i64 cv) ∧ w = w') := fun w => by rw [hcv]; exact cmpInt_any sa sb w
        rw [← hcv] at HCB
        clear hcv
        go_wp2_with fail
        refine wp_cls 9 (fun w' => ∃ q, w' = wr.drewN q) (by kernel_rfl) (by kernel_rfl) ⟨1, rfl⟩ ?_
        simp only [List.take_succ_cons, List.take_zero, List.drop_succ_cons, List.drop_zero]
        generalize hK : (fun w' => ∃ q, w' = wr.drewN q) = K
        intro hne
        have kw : ∀ y : Wd K, ∃ q, y.w = wr.drewN q := by subst hK; exact fun y => y.h
        have HS1 : Hid (∀ y : Wd K, Calls Tryz.prog 103 #[.slice (some ⟨ba, oa + f, none⟩) (n - f) (ca - f), .func (.func 104) #[] #[]] y.w fun e w2 => e = .returned (.int .i64 sa) ∧ ∃ z : Wd K, w2 = z.w) := by
          subst hK
          exact fun y => (HSA.out y.w y.h).mono fun e w2 ⟨h1, h2⟩ => ⟨h1, ⟨⟨w2, h2⟩, rfl⟩⟩
        have HS2 : Hid (∀ y : Wd K, Calls Tryz.prog 103 #[.slice (some ⟨bb, ob + f, none⟩) (n - f) (cb - f), .func (.func 104) #[] #[]] y.w fun e w2 => e = .returned (.int .i64 sb) ∧ ∃ z : Wd K, w2 = z.w) := by
          subst hK
          exact fun y => (HSB.out y.w y.h).mono fun e w2 ⟨h1, h2⟩ => ⟨h1, ⟨⟨w2, h2⟩, rfl⟩⟩
        clear hK HSA HSB c0
        iterate 3 (go_big_quiet_step ((fail)))
        go_big_quiet_step ((exact HS1.out _))
        iterate 3 (go_big_quiet_step ((fail)))
        go_big_quiet_step ((exact HS2.out _))
        go_big_quiet_step ((exact cls_same (HCM.out _)))
        refine wpQuiet_nil ?_
        intro y
        obtain ⟨q, hq⟩ := kw y
        have hsy := HS.out.drewN q
        rw [← hq] at hsy
        have HSY := Lib.hid hsy
        clear hsy hq kw hne HS1 HS2 HS
        generalize y.w = w3 at *
        by_cases h0 : cv = 0
        · subst h0
          have hcb := HCB.out
          rw [if_pos rfl] at hcb
          have HCB2 := Lib.hid hcb
          clear hcb
          go_wp2_with fail
          go_roundw
          case rel => exact ⟨k + 1, by omega, by go_num, HSY.out, HCB2⟩
          case measure => simp [intOf]; omega
        · have h0' : (cv != 0) = true := by simpa using h0
          have hcb := HCB.out
          rw [if_neg h0] at hcb
          have HCB2 := Lib.hid hcb
          clear hcb h0
          go_wp2_with fail
          go_ret
          exact ⟨ret_i64 (HCB2.out.trans HCE.out.symm), HSY.out.bel⟩
      · have hz : ¬ (0 : Int) ≤ (n : Int) - (c : Int) := by omega
        have hz' : decide ((0 : Int) ≤ (n : Int) - (c : Int)) = false := by simp; omega
        have hcb := HCB.out
        rw [keyF_no hcn, keyF_no hcn, show cmpI 0 0 = 0 from rfl, if_pos rfl] at hcb
        have HCB2 := Lib.hid hcb
        clear hcb
        go_wp2_with fail
        go_roundw
        case rel => exact ⟨k + 1, by omega, by go_num, HS.out, HCB2⟩
        case measure => simp [intOf]; omega
    · obtain rfl : k = 5 := by omega
      have he := HEN.out
      rw [hcb.out] at he
      have HE := Lib.hid he
      have HS := Lib.hid S
      clear he hcb S
      go_wp2_with fail
      go_ret
      exact ⟨ret_i64 (HE.out.symm.trans HCE.out.symm), HS.out.bel⟩
end Go.Proofs.YtbakoldmfpbnaaaGreatDoor
/- Chapter 5: ranks. -/
namespace Go.Proofs.YtbakoldmfpbnaaaGreatDoor
open Go.RowKit Go.Mem Go.Sheet Go.Adj
/-- a table of lists of n numbers -/
def RdTab (w : World) (S : Nat → Prop) (v : Value) (m n : Nat) (ls : List (Nat → Int)) : Prop :=
  ∃ vs : List Value, Rd w S 1 v m vs ∧ ∀ (i : Nat) (F : Nat → Int), ls[i]? = some F → ∃ u, vs[i]? = some u ∧ Rd w S 1 u n (intsI (gl F n))
theorem RdTab.later {w w' : World} {v : Value} {m n : Nat} {ls : List (Nat → Int)} (h : RdTab w (· < w.heap.size) v m n ls) (hb : Below w.heap.size w w') : RdTab w' (· < w'.heap.size) v m n ls := by
  obtain ⟨vs, h1, h2⟩ := h
  exact ⟨vs, h1.later hb, fun i F hF => let ⟨u, hu, hr⟩ := h2 i F hF; ⟨u, hu, hr.later hb⟩⟩
theorem RdTab.elem {w : World} {S : Nat → Prop} {A : Option Addr} {c m n k : Nat} {ls : List (Nat → Int)} {F : Nat → Int} (h : RdTab w S (.slice A m c) m n ls) (hk : k < m) (hF : ls[k]? = some F) :
    ∃ b o u, A = some ⟨b, o, none⟩ ∧ w.cell? ⟨b, o + k, none⟩ = some u ∧ Rd w S 1 u n (intsI (gl F n)) := by
  obtain ⟨vs, h1, h2⟩ := h
  obtain ⟨b, o, u, rfl, _, hu, hc⟩ := h1.at_ hk
  obtain ⟨u', hu', hr⟩ := h2 k F hF
  rw [hu] at hu'
  cases hu'
  exact ⟨b, o, u, rfl, hc, hr⟩
def lsAt (ls : List (Nat → Int)) (i : Nat) : Nat → Int := ls.getD i (fun _ => 0)
theorem lsAt_some {ls : List (Nat → Int)} {i : Nat} (h : i < ls.length) : ls[i]? = some (lsAt ls i) := by
  unfold lsAt
  rw [List.getD_eq_getElem?_getD, List.getElem?_eq_getElem h]
  rfl
theorem lsAt_mem {ls : List (Nat → Int)} {i : Nat} (h : i < ls.length) : lsAt ls i ∈ ls := List.mem_of_getElem? (lsAt_some h)
def rkF (n : Nat) (ls : List (Nat → Int)) (i : Nat) : Int := (rankF n ls (lsAt ls i) : Nat)
theorem before_le {α : Type} (lt : α → α → Bool) (l : List α) (a : α) : before lt l a ≤ l.length := List.length_filter_le _ _
set_option maxRecDepth 100000 in
set_option maxHeartbeats 4000000 in
theorem ranks_ok (W : World) (v : Value) (m n : Nat) (ls : List (Nat → Int)) (hls : ls.length = m) (hm : m ≤ 200) (hn : 1 ≤ n ∧ n ≤ 36) (hb : ∀ F ∈ ls, ∀ i, i < n → -200 ≤ F i ∧ F i ≤ 200) (h : RdTab W (· < W.heap.size) v m n ls) :
    Calls Tryz.prog 53 #[v] W fun e w' => ∃ v', e = .returned v' ∧ St W w' [row 3 1 v' m (intsI (gl (rkF n ls) m))] := by
  obtain ⟨vs, h1, h2⟩ := h
  obtain ⟨A, c, rfl, _, _, _⟩ := h1.open_
  have HT : Hid (RdTab W (· < W.heap.size) (.slice A m c) m n ls) := Lib.hid ⟨vs, h1, h2⟩
  have HLS : Hid (∀ k, k < m → ls[k]? = some (lsAt ls k)) := fun k hk => lsAt_some (by omega)
  have HBD : Hid (∀ k, k < m → ∀ i, i < n → -200 ≤ lsAt ls k i ∧ lsAt ls k i ≤ 200) := fun k hk => hb _ (lsAt_mem (by omega))
  have HBF : Hid (∀ k j, j < m → before (cbLt n) (ls.take (j + 1)) (lsAt ls k) = before (cbLt n) (ls.take j) (lsAt ls k) + (if cbLt n (lsAt ls j) (lsAt ls k) then 1 else 0)) := fun k j hj => before_take (lsAt_some (by omega))
  have HBL : Hid (∀ k j, j ≤ m → before (cbLt n) (ls.take j) (lsAt ls k) ≤ m) := fun k j hj => by
    have := before_le (cbLt n) (ls.take j) (lsAt ls k)
    rw [List.length_take] at this
    omega
  have HRK : Hid (∀ k, ((1 + before (cbLt n) (ls.take m) (lsAt ls k) : Nat) : Int) = rkF n ls k) := fun k => by
    rw [List.take_of_length_le (by omega)]; rfl
  have HGS : Hid (∀ k, gl (rkF n ls) (k + 1) = gl (rkF n ls) k ++ [rkF n ls k]) := fun k => gl_snoc _ k
  clear h1 h2 hb
  have S0 := (St.refl W).row_nil 3 1
  simp only [List.nil_append] at S0
  go_enter Tryz.func53, Tryz.ntmps53
  go_wp2_with fail
  go_loopw [11, 3] (fun i v w' => ∃ k : Nat, k ≤ m ∧ i = .int .i64 k ∧ St W w' [row 3 1 v k (intsI (gl (rkF n ls) k))]) (fun i _ _ => m - (intOf i).toNat)
  case atStart => exact ⟨0, Nat.zero_le _, rfl, S0⟩
  case round =>
    obtain ⟨k, hk, rfl, S⟩ := hrel
    clear S0
    by_cases hlt : k < m
    · obtain ⟨b, o, ua, hA, c0, hra⟩ := (HT.out.later S.bel).elem hlt (HLS.out k hlt)
      subst hA
      have HS := Lib.hid S
      have hba := S.bel
      have HRA := Lib.hid hra
      obtain ⟨Aa, ca, rfl, _, _, _⟩ := hra.open_
      clear S hra
      generalize wr = w1 at *
      go_wp2_with fail
      go_loopw [17, 6] (fun i v w' => ∃ j : Nat, j ≤ m ∧ i = .int .i64 j ∧ v = .int .i64 ((1 + before (cbLt n) (ls.take j) (lsAt ls k) : Nat) : Int) ∧ Below w1.heap.size w1 w') (fun i _ _ => m - (intOf i).toNat)
      case atStart => exact ⟨0, Nat.zero_le _, rfl, rfl, Below.refl _ _⟩
      case round =>
        obtain ⟨j, hj, rfl, rfl, hbj⟩ := hrel
        by_cases hltj : j < m
        · obtain ⟨b', o', ub, hA', c1, hrb⟩ := (HT.out.later (hba.trans (hbj.mono hba.size))).elem hltj (HLS.out j hltj)
          cases hA'
          obtain ⟨Ab, cb, rfl, _, _, _⟩ := hrb.open_
          have HCB := Lib.hid (countback_ok wr _ _ n (lsAt ls j) (lsAt ls k) hn hrb (HRA.out.later hbj) (HBD.out j hltj) (HBD.out k hlt))
          have hbf := HBF.out k j hltj
          have hbl := HBL.out k j hj
          rw [← cbF_lt] at hbf
          have HBJ := Lib.hid hbj
          clear hrb hbj
          generalize cbF n (lsAt ls j) (lsAt ls k) = cv at *
          by_cases hcv : cv < 0
          · have hc1 : decide (cv < 0) = true := by simpa using hcv
            rw [hc1, if_pos rfl] at hbf
            have HBFF := Lib.hid hbf
            generalize before (cbLt n) (ls.take j) (lsAt ls k) = bj at *
            clear hbf hcv
            go_wp2_with (go_at_call 82; refine HCB.out.mono ?_; rintro e w2 ⟨rfl, hb2⟩; have HB2 := Lib.hid (HBJ.out.trans (hb2.mono HBJ.out.size)); clear hb2)
            go_roundw
            case rel => exact ⟨j + 1, by omega, by go_num, by rw [HBFF.out]; go_num, HB2.out⟩
            case measure => simp [intOf]; omega
          · have hc1 : decide (cv < 0) = false := by simpa using hcv
            rw [hc1, if_neg (by simp)] at hbf
            have HBFF := Lib.hid hbf
            generalize before (cbLt n) (ls.take j) (lsAt ls k) = bj at *
            clear hbf hcv
            go_wp2_with (go_at_call 82; refine HCB.out.mono ?_; rintro e w2 ⟨rfl, hb2⟩; have HB2 := Lib.hid (HBJ.out.trans (hb2.mono HBJ.out.size)); clear hb2)
            go_roundw
            case rel => exact ⟨j + 1, by omega, by go_num, by rw [HBFF.out]; go_num, HB2.out⟩
            case measure => simp [intOf]; omega
        · obtain rfl : m = j := by omega
          have hrk := HRK.out k
          have hgs := HGS.out k
          rw [← hrk] at hgs
          have HGS2 := Lib.hid hgs
          generalize ((1 + before (cbLt n) (ls.take m) (lsAt ls k) : Nat) : Int) = rv at *
          have HS2 := Lib.hid ((HS.out.ext hbj).alloc (.cells #[.int .i64 rv] 3))
          clear hrk hgs
          go_wp2_with (at_builtin; refine wpList_append_st eltI rfl _ _ rfl rfl HS2.out (k := 0) rfl rfl (rd_one (by simp)) (one_int _ _) (by omega) (by omega) ?_; intro v' w' S' _)
          go_roundw
          case rel =>
            refine ⟨k + 1, by omega, by go_num, ?_⟩
            rw [HGS2.out]
            simpa [intsI] using S'
          case measure => simp [intOf]; omega
    · obtain rfl : m = k := by omega
      have HS := Lib.hid S
      clear S
      go_wp2_with fail
      go_ret
      exact ⟨_, rfl, HS.out⟩
end Go.Proofs.YtbakoldmfpbnaaaGreatDoor
