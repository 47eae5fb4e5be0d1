/- Part 30 of the walks of the golf union's program: UF37. -/
import Derived.Test.YtnaafefcijgpkaaGreatDoorB28
import Derived.Test.YtnaafefcijgpkaaGreatDoorB17
import Derived.Test.YtnaafefcijgpkaaGreatDoorB29
set_option linter.unusedVariables false
set_option linter.unusedSimpArgs false
set_option linter.unusedSectionVars false
set_option linter.constructorNameAsVariable false
/- TopLinksFollowers: the law. -/
namespace Go.Proofs.YtnaafefcijgpkaaGreatDoor
open Go.RowKit Go.Mem Go.Sheet Go.Adj
set_option maxRecDepth 100000 in
set_option maxHeartbeats 16000000 in
theorem topLinksFollowers_any (W : World) (u : UI) (vd : Value) (nd : Nat) (dl : List Int) (hbd : u.nm * 40 ≤ 140737488351232 ∧ u.nk * 64 ≤ 140737488351232 ∧ u.np * 64 ≤ 140737488351232) (h : RdU W (· < W.heap.size) u) (hd : Rd W (· < W.heap.size) 1 vd nd (dl.map (.int .u8))) (hdl : ∀ z ∈ dl, 0 ≤ z ∧ z ≤ 255) :
    Calls Tryz.prog 4 #[u.val, vd] W fun e w' => e = .returned (.bool true) ∧ Below W.heap.size W w' := by
  have HU := Lib.hid h
  have HD := Lib.hid hd
  have HDL := Lib.hid hdl
  have HOW := Lib.hid (fun w (hb : Below W.heap.size W w) => linksOwn_any w u hbd (h.later hb))
  have hnd := hd.le
  obtain ⟨Ad, cdp, ed, _, _, _⟩ := hd.open_
  obtain ⟨Ak, ck, ek, _, _, _⟩ := h.k.open_
  clear h hbd hd hdl
  have HDE : Hid (∀ w, Below W.heap.size W w → Calls Tryz.prog 7 #[] w fun e w' => e = .returned (.bool true) ∧ Below w.heap.size w w') := Lib.hid (fun w _ => linksBoard_ok w)
  subst ed
  obtain ⟨vc, nc, cl0, vm, nm, ms, vh, nh, hs, vk, nk, ks, vs, ns, sg, vp, np, ps⟩ := u
  simp only [UI.val] at *
  subst ek
  have S0 := (St.refl W).blk_new #[vc, vm, vh, .slice Ak nk ck, vs, vp] 28
  simp only [List.nil_append] at S0
  obtain ⟨gb, hgb⟩ : ∃ g, g = W.heap.size := ⟨_, rfl⟩
  rw [← hgb] at S0
  have HS0 := Lib.hid S0
  clear S0
  have d0 := HS0.out.blk_cell (i := 0) rfl 0
  have d1 := HS0.out.blk_cell (i := 0) rfl 1
  have d2 := HS0.out.blk_cell (i := 0) rfl 2
  have d3 := HS0.out.blk_cell (i := 0) rfl 3
  have d4 := HS0.out.blk_cell (i := 0) rfl 4
  have d5 := HS0.out.blk_cell (i := 0) rfl 5
  go_enter Tryz.func4, Tryz.ntmps4
  go_wp2_with fail
  rw [← hgb]
  generalize W.alloc (.cells #[vc, vm, vh, .slice Ak nk ck, vs, vp] 28) = w1 at *
  clear hgb
  go_at_call 6
  refine (HOW.out w1 HS0.out.bel).mono ?_
  rintro e w2 ⟨vm', vk', vp', rfl, hr, hb⟩
  have HS := Lib.hid (HS0.out.ext hb)
  have HFW := Lib.hid (u10Few_any w2 _ hr)
  clear hb HS0 hr d0 d1 d2 d3 d4 d5 HOW
  simp only [UI.val] at HFW
  go_wp2_with fail
  go_at_call 5
  refine HFW.out.mono ?_
  rintro e w3 ⟨⟨bo, rfl, hgood⟩, hb⟩
  have HS3 := Lib.hid (HS.out.ext hb)
  have HGO := Lib.hid hgood
  clear hb HS hgood HFW
  cases bo
  · have HD1 := Lib.hid (HDE.out w3 HS3.out.bel)
    go_wp2_with (go_at_call 7; refine HD1.out.mono ?_; rintro e w' ⟨rfl, hb⟩; have HB := Lib.hid (HS3.out.ext hb).bel; clear hb)
    go_ret
    exact ⟨rfl, HB.out⟩
  rcases Nat.lt_or_ge 60 nd with h60 | h60
  · have HD1 := Lib.hid (HDE.out w3 HS3.out.bel)
    have t1 : decide ((60 : Int) < (nd : Int)) = true := decide_eq_true (by omega)
    have t1' : decide (60 < nd) = true := decide_eq_true (by omega)
    go_wp2_with (go_at_call 7; refine HD1.out.mono ?_; rintro e w' ⟨rfl, hb⟩; have HB := Lib.hid (HS3.out.ext hb).bel; clear hb)
    go_ret
    exact ⟨rfl, HB.out⟩
  have t1 : decide ((60 : Int) < (nd : Int)) = false := decide_eq_false (by omega)
  have t1' : decide (60 < nd) = false := decide_eq_false (by omega)
  obtain ⟨hsh, hgu⟩ := HGO.out rfl
  have hg : GoodU ⟨vc, nc, cl0, vm, nm, ms, vh, nh, hs, .slice Ak nk ck, nk, ks, vs, ns, sg, vp, np, ps⟩ 256 200 := goodU_own hgu
  have hnm : nm ≤ 6 := by
    have h1 := hsh.2.1
    have h2 := hg.len.2.1
    simp only at h1 h2
    omega
  have hnk : nk ≤ 30 := by
    have h1 := hsh.2
    have h2 := hg.len.2.2.1
    simp only at h1 h2
    omega
  clear hsh hgu HGO
  have HLM : Hid (nm = ms.length) := Lib.hid (HU.out.m.count (f := MbI.cells) (size := 3) (fun _ => rfl) (by decide))
  have HLK : Hid (nk = ks.length) := Lib.hid (HU.out.k.count (f := MkI.cells) (size := 5) (fun _ => rfl) (by decide))
  have HKZ : Hid (∀ k, k < nk → (mkAt ks k).by_.size ≤ 9223372036854775807) := Lib.hid (fun k hk => by
    obtain ⟨_, ⟨j, hj, e⟩, _⟩ := hg.kk k hk
    rw [← e]
    exact mb_str HU.out HLM.out hj)
  have HKS : Hid (∀ w, Below W.heap.size W w → Rd w (· < w.heap.size) 5 (.slice Ak nk ck) nk (ks.flatMap MkI.cells)) := Lib.hid (fun w hb => HU.out.k.later hb)
  have HGU := Lib.hid hg
  clear hg
  have S0 := (HS3.out.mapI_new Tryz.prog 9 3).row_nil 69 6
  simp only [List.cons_append, List.nil_append] at S0
  have d3 := S0.blk_cell (i := 0) rfl 3
  have HS0 := Lib.hid S0
  clear S0 HS3
  have hmm := @run_makeMap Tryz.prog
  go_wp2_with fail
  obtain ⟨g1, hg1⟩ : ∃ g, g = w3.heap.size := ⟨_, rfl⟩
  rw [← hg1] at HS0
  rw [← hg1]
  generalize w3.alloc (.map #[] 0) = w4 at *
  clear hmm hg1 d3 t1 t1' h60
  go_loopw [48, 6] (fun i lv w' => ∃ (k q c : Nat) (Al : Option Addr) (cl : Nat), k ≤ nk ∧ q ≤ k ∧ c ≤ k ∧ i = .int .i64 k ∧ lv = .slice Al q cl ∧ Hid ((msgN ks k).length = q) ∧ St W w' [blk gb 28 #[vc, vm, vh, .slice Ak nk ck, vs, vp], mapI Tryz.prog 9 3 g1 c (fun d => (cntN ks d k : Int)), row 69 6 (.slice Al q cl) q ((msgN ks k).flatMap MsI.cells)]) (fun i _ _ => nk - (intOf i).toNat)
  case atStart => exact ⟨0, 0, 0, none, 0, Nat.zero_le _, Nat.le_refl _, Nat.le_refl _, rfl, rfl, Lib.hid rfl, HS0.out⟩
  case round =>
    obtain ⟨k, q, c, Al, cl, hk, hqk, hck, rfl, rfl, hml, S⟩ := hrel
    clear HS0
    by_cases hlt : k < nk
    · obtain ⟨b, o, rfl, hx, c0, c1, c2, c3, c4⟩ := rd_mk (HKS.out wr S.bel) hlt
      have HSZ := Lib.hid (HKZ.out k hlt)
      have HYES : Hid (isMsg (mkAt ks k) = true → (msgN ks (k + 1)).length = q + 1 ∧ (msgN ks (k + 1)).flatMap MsI.cells = (msgN ks k).flatMap MsI.cells ++ [.string (mkAt ks k).by_, .int .i64 (cntN ks (mkAt ks k).by_ k + 1 : Int), .string (mkAt ks k).pl, .int .i64 (mkAt ks k).h, .int .i64 (mkAt ks k).s, .string (mkAt ks k).m]) := Lib.hid (fun h0 => by
        rw [msgN, if_pos h0, cntN_succ h0, List.length_append, hml.out, List.flatMap_append]
        refine ⟨rfl, ?_⟩
        simp [MsI.cells, msOf])
      have HNOT : Hid (isMsg (mkAt ks k) = false → msgN ks (k + 1) = msgN ks k) := Lib.hid (fun h0 => by rw [msgN, if_neg (by rw [h0]; decide)])
      have HFY : Hid (isMsg (mkAt ks k) = true → (fun d => (cntN ks d (k + 1) : Int)) = fun d => if d = (mkAt ks k).by_ then (cntN ks (mkAt ks k).by_ k : Int) + 1 else (cntN ks d k : Int)) := Lib.hid (fun h0 => by
        funext d
        rw [cntN]
        by_cases e : d = (mkAt ks k).by_
        · subst e; rw [if_pos ⟨h0, rfl⟩, if_pos rfl]; omega
        · rw [if_neg (fun h => e h.2.symm), if_neg e]; omega)
      have HFN : Hid (isMsg (mkAt ks k) = false → (fun d => (cntN ks d (k + 1) : Int)) = fun d => (cntN ks d k : Int)) := Lib.hid (fun h0 => by
        funext d
        rw [cntN, if_neg (fun h => by rw [h0] at h; exact absurd h.1 (by decide))]
        omega)
      have HIM : Hid (isMsg (mkAt ks k) = decide ((mkAt ks k).by_ ≠ (mkAt ks k).pl)) := Lib.hid rfl
      have hcb := cnt_le ks (mkAt ks k).by_ k
      obtain ⟨cv, hcv⟩ : ∃ z : Int, z = (cntN ks (mkAt ks k).by_ k : Int) := ⟨_, rfl⟩
      have hcv0 : 0 ≤ cv ∧ cv ≤ 30 := by omega
      rw [← hcv] at HYES HFY
      have HCV := Lib.hid hcv
      clear hx hcb hcv
      generalize isMsg (mkAt ks k) = im at *
      generalize mkAt ks k = x at *
      obtain ⟨xp, xb, xh, xs, xm⟩ := x
      simp only at c0 c1 c2 c3 c4 HSZ HYES HNOT HFY HFN HIM HCV
      have SA := S.blk_new #[.string xp, .string xb, .int .i64 xh, .int .i64 xs, .string xm] 67
      simp only [List.cons_append, List.nil_append] at SA
      have HS := Lib.hid SA
      clear S
      by_cases hbp : xb = xp
      · subst hbp
        have him : im = false := by rw [HIM.out]; simp
        have HN1 := Lib.hid (HNOT.out him)
        have HN2 := Lib.hid (HFN.out him)
        clear HYES HFY HNOT HFN SA him
        go_wp2_with fail
        go_roundw
        case rel =>
          refine ⟨k + 1, q, c, Al, cl, by omega, by omega, by omega, by go_num, rfl, ?_, ?_⟩
          · rw [HN1.out]; exact hml
          · rw [HN1.out, HN2.out]; exact HS.out.sub (L' := [_, _, _]) (List.sublist_append_left [_, _, _] [_])
        case measure => simp [intOf]; omega
      · have him : im = true := by rw [HIM.out]; simp [hbp]
        have HN1 := Lib.hid (HYES.out him)
        have HN2 := Lib.hid (HFY.out him)
        have t1 : (xb.toList == xp.toList) = false := bytes_neU hbp
        clear HYES HFY HNOT HFN him hbp
        have hl := run_lookupI_st 62 9 3 Tryz.underlying9 Tryz.underlying62 Tryz.underlying3 (fun w => rfl) SA (i := 1) rfl xb HSZ.out
        simp only [← HCV.out] at hl
        clear SA
        have HCV2 : Hid ((cntN ks xb (k + 1) : Int) = cv + 1) := Lib.hid (by have h := congrFun HN2.out xb; simpa using h)
        go_wp2_with (first
          | (at_mapUpdate
             refine wpList_mapUpdateI_st rfl _ _ _ 62 rfl 9 3 Tryz.underlying9 Tryz.underlying62 Tryz.underlying3 HS.out (i := 1) rfl rfl (by omega) xb rfl HSZ.out (cv + 1) rfl (by omega) ?_
             intro w6 S6
             simp only [List.set_cons_succ, List.set_cons_zero] at S6
             rw [← HN2.out] at S6
             have hl2 := run_lookupI_st 62 9 3 Tryz.underlying9 Tryz.underlying62 Tryz.underlying3 (fun w => rfl) S6 (i := 1) rfl xb HSZ.out
             have hcv2 := HCV2.out
             rw [hcv2] at hl2
             have x0 := S6.blk_cell (i := 3) rfl 0
             have x1 := S6.blk_cell (i := 3) rfl 1
             have x2 := S6.blk_cell (i := 3) rfl 2
             have x3 := S6.blk_cell (i := 3) rfl 3
             have x4 := S6.blk_cell (i := 3) rfl 4
             have HS6 := Lib.hid S6
             clear S6 hcv2)
          | (at_builtin
             refine wpList_append_st eltM rfl _ _ rfl rfl (HS6.out.alloc _) (k := 2) rfl rfl (rd_new w6 #[.string xb, .int .i64 (cv + 1), .string xp, .int .i64 xh, .int .i64 xs, .string xm] 69 (m := 1) (size := 6) rfl (by decide) (fun _ => True) trivial) (one_ms ⟨xb, cv + 1, xp, xh, xs, xm⟩) (by omega) (by omega) ?_
             intro v' w7 S7 _
             simp only [List.set_cons_succ, List.set_cons_zero] at S7
             obtain ⟨B2, d2, rfl, _, _, _⟩ := (S7.row_rd (i := 2) rfl).open_
             have HS7 := Lib.hid (S7.sub (L' := [_, _, _]) (List.sublist_append_left [_, _, _] [_]))
             clear S7))
        go_roundw
        case rel =>
          refine ⟨k + 1, q + 1, c + 1, B2, d2, by omega, by omega, by omega, by go_num, rfl, HN1.out.1, ?_⟩
          rw [HN1.out.2]
          exact HS7.out
        case measure => simp [intOf]; omega
    · obtain rfl : nk = k := by omega
      obtain rfl : (msgN ks nk).length = q := hml.out
      rw [pc_msF] at S
      have HML : Hid ((msgN ks nk).length ≤ 30) := Lib.hid (by have h := msg_len ks nk; omega)
      have HND : Hid ((msgN ks nk).Nodup) := Lib.hid (msg_nodup ks nk)
      have HMI : Hid (∀ i, i < (msgN ks nk).length → msF (msgN ks nk) i ∈ msgN ks nk) := Lib.hid (fun i hi => msF_at hi)
      have HMA : Hid (∀ x, x ∈ msgN ks nk → ∃ i, i < (msgN ks nk).length ∧ msF (msgN ks nk) i = x) := Lib.hid (fun x hx => msF_of hx)
      have HREC : Hid (∀ w v n Y x, Below W.heap.size W w → FolOk (msgN ks nk) n Y → x ∈ msgN ks nk → Rd w (· < w.heap.size) 6 v n (pcM Y n) → Calls Tryz.prog 13 #[.agg #[v], x.val] w fun e w' => RvPost (msgN ks nk) w n Y x e w') := Lib.hid (fun w v n Y x hb hf hx hr => receiveU w ⟨vc, nc, cl0, vm, nm, ms, vh, nh, hs, .slice Ak nk ck, nk, ks, vs, ns, sg, vp, np, ps⟩ v n Y x HGU.out hnk (HU.out.later hb) hf hx hr)
      have HFOL : Hid (∀ w v n Y, Below W.heap.size W w → FolOk (msgN ks nk) n Y → Rd w (· < w.heap.size) 6 v n (pcM Y n) → Calls Tryz.prog 14 #[.agg #[vc, vm, vh, .slice Ak nk ck, vs, vp], .agg #[v]] w fun e w' => FlPost (msgN ks nk) (thM (brdF ⟨vc, nc, cl0, vm, nm, ms, vh, nh, hs, .slice Ak nk ck, nk, ks, vs, ns, sg, vp, np, ps⟩ (EU ⟨vc, nc, cl0, vm, nm, ms, vh, nh, hs, .slice Ak nk ck, nk, ks, vs, ns, sg, vp, np, ps⟩)) (brdN ⟨vc, nc, cl0, vm, nm, ms, vh, nh, hs, .slice Ak nk ck, nk, ks, vs, ns, sg, vp, np, ps⟩ (EU ⟨vc, nc, cl0, vm, nm, ms, vh, nh, hs, .slice Ak nk ck, nk, ks, vs, ns, sg, vp, np, ps⟩))) (brdF ⟨vc, nc, cl0, vm, nm, ms, vh, nh, hs, .slice Ak nk ck, nk, ks, vs, ns, sg, vp, np, ps⟩ (EU ⟨vc, nc, cl0, vm, nm, ms, vh, nh, hs, .slice Ak nk ck, nk, ks, vs, ns, sg, vp, np, ps⟩)) (brdN ⟨vc, nc, cl0, vm, nm, ms, vh, nh, hs, .slice Ak nk ck, nk, ks, vs, ns, sg, vp, np, ps⟩ (EU ⟨vc, nc, cl0, vm, nm, ms, vh, nh, hs, .slice Ak nk ck, nk, ks, vs, ns, sg, vp, np, ps⟩)) w n Y e w') := Lib.hid (fun w v n Y hb hf hr => followU w ⟨vc, nc, cl0, vm, nm, ms, vh, nh, hs, .slice Ak nk ck, nk, ks, vs, ns, sg, vp, np, ps⟩ v n Y HGU.out hnm hnk (HU.out.later hb) hf hr)
      have HGAP : Hid (∀ w v n Y, Below W.heap.size W w → FolOk (msgN ks nk) n Y → (∀ x ∈ msgN ks nk, Has n Y x) → Rd w (· < w.heap.size) 6 v n (pcM Y n) → Calls Tryz.prog 15 #[.agg #[v]] w fun e w' => ∃ A c, e = .returned (.tuple #[.slice A 0 c, .int .i64 0]) ∧ Below w.heap.size w w') := Lib.hid (fun w v n Y hb hf ha hr => gapsU w ⟨vc, nc, cl0, vm, nm, ms, vh, nh, hs, .slice Ak nk ck, nk, ks, vs, ns, sg, vp, np, ps⟩ v n Y HGU.out hnk (HU.out.later hb) hf ha hr)
      have HSHN : Hid (∀ w v n Y, Below W.heap.size W w → FolOk (msgN ks nk) n Y → (∀ x ∈ msgN ks nk, Has n Y x) → Rd w (· < w.heap.size) 6 v n (pcM Y n) → Calls Tryz.prog 16 #[.agg #[v]] w fun e w' => ∃ A c, e = .returned (.tuple #[.slice A (msgN ks nk).length c, .int .i64 0]) ∧ Below w.heap.size w w') := Lib.hid (fun w v n Y hb hf ha hr => shownU w ⟨vc, nc, cl0, vm, nm, ms, vh, nh, hs, .slice Ak nk ck, nk, ks, vs, ns, sg, vp, np, ps⟩ v n Y HGU.out hnk (HU.out.later hb) hf ha hr)
      have HBRD : Hid (∀ w, Below W.heap.size W w → Calls Tryz.prog 8 #[.agg #[vc, vm, vh, .slice Ak nk ck, vs, vp]] w fun e w' => ∃ v, e = .returned (.tuple #[v, .int .i64 0]) ∧ St w w' [row 44 3 v (brdN ⟨vc, nc, cl0, vm, nm, ms, vh, nh, hs, .slice Ak nk ck, nk, ks, vs, ns, sg, vp, np, ps⟩ (EU ⟨vc, nc, cl0, vm, nm, ms, vh, nh, hs, .slice Ak nk ck, nk, ks, vs, ns, sg, vp, np, ps⟩)) (pcS (brdF ⟨vc, nc, cl0, vm, nm, ms, vh, nh, hs, .slice Ak nk ck, nk, ks, vs, ns, sg, vp, np, ps⟩ (EU ⟨vc, nc, cl0, vm, nm, ms, vh, nh, hs, .slice Ak nk ck, nk, ks, vs, ns, sg, vp, np, ps⟩)) (brdN ⟨vc, nc, cl0, vm, nm, ms, vh, nh, hs, .slice Ak nk ck, nk, ks, vs, ns, sg, vp, np, ps⟩ (EU ⟨vc, nc, cl0, vm, nm, ms, vh, nh, hs, .slice Ak nk ck, nk, ks, vs, ns, sg, vp, np, ps⟩)))]) := Lib.hid (fun w hb => uBoard_ok w ⟨vc, nc, cl0, vm, nm, ms, vh, nh, hs, .slice Ak nk ck, nk, ks, vs, ns, sg, vp, np, ps⟩ HGU.out (by show nm ≤ 19; omega) (HU.out.later hb))
      have HBB : Hid (∀ a, a < brdN ⟨vc, nc, cl0, vm, nm, ms, vh, nh, hs, .slice Ak nk ck, nk, ks, vs, ns, sg, vp, np, ps⟩ (EU ⟨vc, nc, cl0, vm, nm, ms, vh, nh, hs, .slice Ak nk ck, nk, ks, vs, ns, sg, vp, np, ps⟩) → (0 ≤ (brdF ⟨vc, nc, cl0, vm, nm, ms, vh, nh, hs, .slice Ak nk ck, nk, ks, vs, ns, sg, vp, np, ps⟩ (EU ⟨vc, nc, cl0, vm, nm, ms, vh, nh, hs, .slice Ak nk ck, nk, ks, vs, ns, sg, vp, np, ps⟩) a).th ∧ (brdF ⟨vc, nc, cl0, vm, nm, ms, vh, nh, hs, .slice Ak nk ck, nk, ks, vs, ns, sg, vp, np, ps⟩ (EU ⟨vc, nc, cl0, vm, nm, ms, vh, nh, hs, .slice Ak nk ck, nk, ks, vs, ns, sg, vp, np, ps⟩) a).th ≤ 36) ∧ (brdF ⟨vc, nc, cl0, vm, nm, ms, vh, nh, hs, .slice Ak nk ck, nk, ks, vs, ns, sg, vp, np, ps⟩ (EU ⟨vc, nc, cl0, vm, nm, ms, vh, nh, hs, .slice Ak nk ck, nk, ks, vs, ns, sg, vp, np, ps⟩) a).name.size ≤ 9223372036854775807) := Lib.hid (fun a ha => by
        obtain ⟨k, hk, e, _⟩ := brd_of ha
        rw [e]
        have h1 := sd_th ⟨vc, nc, cl0, vm, nm, ms, vh, nh, hs, .slice Ak nk ck, nk, ks, vs, ns, sg, vp, np, ps⟩ (EU ⟨vc, nc, cl0, vm, nm, ms, vh, nh, hs, .slice Ak nk ck, nk, ks, vs, ns, sg, vp, np, ps⟩) k
        have h2 : nh ≤ 36 := goodU_nh HGU.out (HU.out.h.count (f := HI.cells) (size := 2) (fun _ => rfl) (by decide))
        have h3 : (sdE ⟨vc, nc, cl0, vm, nm, ms, vh, nh, hs, .slice Ak nk ck, nk, ks, vs, ns, sg, vp, np, ps⟩ (EU ⟨vc, nc, cl0, vm, nm, ms, vh, nh, hs, .slice Ak nk ck, nk, ks, vs, ns, sg, vp, np, ps⟩) k).th ≤ (nh : Int) := h1.2
        exact ⟨⟨h1.1, by omega⟩, mb_str HU.out HLM.out hk⟩)
      have HBN : Hid (brdN ⟨vc, nc, cl0, vm, nm, ms, vh, nh, hs, .slice Ak nk ck, nk, ks, vs, ns, sg, vp, np, ps⟩ (EU ⟨vc, nc, cl0, vm, nm, ms, vh, nh, hs, .slice Ak nk ck, nk, ks, vs, ns, sg, vp, np, ps⟩) ≤ 6) := Lib.hid (by
        have h1 := onE_len ⟨vc, nc, cl0, vm, nm, ms, vh, nh, hs, .slice Ak nk ck, nk, ks, vs, ns, sg, vp, np, ps⟩ (EU ⟨vc, nc, cl0, vm, nm, ms, vh, nh, hs, .slice Ak nk ck, nk, ks, vs, ns, sg, vp, np, ps⟩) nm
        unfold brdN
        show (onE ⟨vc, nc, cl0, vm, nm, ms, vh, nh, hs, .slice Ak nk ck, nk, ks, vs, ns, sg, vp, np, ps⟩ (EU ⟨vc, nc, cl0, vm, nm, ms, vh, nh, hs, .slice Ak nk ck, nk, ks, vs, ns, sg, vp, np, ps⟩) nm).length ≤ 6
        omega)
      generalize brdN ⟨vc, nc, cl0, vm, nm, ms, vh, nh, hs, .slice Ak nk ck, nk, ks, vs, ns, sg, vp, np, ps⟩ (EU ⟨vc, nc, cl0, vm, nm, ms, vh, nh, hs, .slice Ak nk ck, nk, ks, vs, ns, sg, vp, np, ps⟩) = BN at *
      generalize brdF ⟨vc, nc, cl0, vm, nm, ms, vh, nh, hs, .slice Ak nk ck, nk, ks, vs, ns, sg, vp, np, ps⟩ (EU ⟨vc, nc, cl0, vm, nm, ms, vh, nh, hs, .slice Ak nk ck, nk, ks, vs, ns, sg, vp, np, ps⟩) = BF at *
      have hbn := HBN.out
      have S1 := S.sub (L' := [_, _]) (.cons_cons _ (.cons _ (.cons_cons _ .slnil)))
      clear S hml HKS HKZ HLM HLK HGU hlt hqk hck hk
      obtain ⟨M, hM⟩ : ∃ z, z = msgN ks nk := ⟨_, rfl⟩
      rw [← hM] at S1 HML HND HMI HMA HREC HFOL HGAP HSHN
      rw [← hM]
      obtain ⟨MF, hMF⟩ : ∃ z, z = msF M := ⟨_, rfl⟩
      rw [← hMF] at S1 HMI HMA
      clear hMF hM
      obtain ⟨ML, hML⟩ : ∃ z, z = M.length := ⟨_, rfl⟩
      rw [← hML] at S1 HML HMI HMA HSHN
      rw [← hML]
      have HMLL := Lib.hid hML
      clear hML
      have hml := HML.out
      have HS1 := Lib.hid S1
      clear S1
      have d0 := HS1.out.blk_cell (i := 0) rfl 0
      have d1 := HS1.out.blk_cell (i := 0) rfl 1
      have d2 := HS1.out.blk_cell (i := 0) rfl 2
      have d3 := HS1.out.blk_cell (i := 0) rfl 3
      have d4 := HS1.out.blk_cell (i := 0) rfl 4
      have d5 := HS1.out.blk_cell (i := 0) rfl 5
      go_wp2_with fail
      go_at_call 8
      refine (HBRD.out wr HS1.out.bel).mono ?_
      rintro e w4 ⟨vb, rfl, S4⟩
      have S5 := HS1.out.call S4
      simp only [List.cons_append, List.nil_append] at S5
      obtain ⟨Ab, cb, rfl, _, _, _⟩ := (S5.row_rd (i := 2) rfl).open_
      have S6 := S5.mapI_new Tryz.prog 9 3
      simp only [List.cons_append, List.nil_append] at S6
      have HS6 := Lib.hid S6
      have hmm := @run_makeMap Tryz.prog
      clear S4 S5 S6 HS1 HBRD HBN
      clear d0 d1 d2 d3 d4 d5
      go_wp2_with fail
      obtain ⟨gt, hgt⟩ : ∃ g, g = w4.heap.size := ⟨_, rfl⟩
      rw [← hgt] at HS6
      rw [← hgt]
      generalize w4.alloc (.map #[] 0) = w5 at *
      clear hmm hgt
      go_loopw [89] (fun i w' => ∃ (k c : Nat), k ≤ BN ∧ c ≤ k ∧ i = .int .i64 k ∧ St W w' [blk gb 28 #[vc, vm, vh, .slice Ak nk ck, vs, vp], row 69 6 (.slice Al ML cl) ML (pcM MF ML), row 44 3 (.slice Ab BN cb) BN (pcS BF BN), mapI Tryz.prog 9 3 gt c (thM BF k)]) (fun i _ => BN - (intOf i).toNat)
      case atStart => exact ⟨0, 0, Nat.zero_le _, Nat.le_refl _, rfl, HS6.out⟩
      case round =>
        obtain ⟨k, c, hk, hck, rfl, S⟩ := hrel
        clear HS6
        by_cases hlt : k < BN
        · obtain ⟨g, cap, hv, hrest⟩ := S.row_form (i := 2) rfl (by omega)
          cases hv
          clear hrest
          obtain ⟨⟨c0, c1, c2⟩, _⟩ := row_pcS S (i := 2) rfl hlt
          obtain ⟨⟨hb1, hb2⟩, hb3⟩ := HBB.out k hlt
          have HTH : Hid (thM BF (k + 1) = fun x => if x = (BF k).name then (BF k).th else thM BF k x) := Lib.hid rfl
          generalize BF k = x at *
          obtain ⟨xn, xt, xp⟩ := x
          simp only at c0 c1 c2 hb1 hb2 hb3 HTH
          have SA := S.blk_new #[.string xn, .int .i64 xt, .int .i64 xp] 44
          simp only [List.cons_append, List.nil_append] at SA
          have HS := Lib.hid SA
          have HB3 := Lib.hid hb3
          clear S SA hb3
          go_wp2_with (first
            | (at_mapUpdate
               refine wpList_mapUpdateI_st rfl _ _ _ 62 rfl 9 3 Tryz.underlying9 Tryz.underlying62 Tryz.underlying3 HS.out (i := 3) rfl rfl (by omega) xn rfl HB3.out xt rfl (by omega) ?_
               intro w6 S6
               simp only [List.set_cons_succ, List.set_cons_zero] at S6
               rw [← HTH.out] at S6
               have HS6 := Lib.hid (S6.sub (L' := [_, _, _, _]) (List.sublist_append_left [_, _, _, _] [_]))
               clear S6))
          go_roundw
          case rel => exact ⟨k + 1, c + 1, by omega, by omega, by go_num, HS6.out⟩
          case measure => simp [intOf]; omega
        · obtain rfl : BN = k := by omega
          generalize thM BF BN = TH at *
          have S1 := S.blk_new #[.slice none 0 0] 71
          have S2 := S1.row_new (n := 0) (size := 6) (e := 69) #[] (by unfold maxLen; omega) rfl
          simp only [List.cons_append, List.nil_append, World.size_alloc] at S2
          have HS2 := Lib.hid S2
          clear S S1 S2 HBB hlt hk
          go_wp2_with (first
            | (at_builtin
               refine wpList_append_st eltM rfl _ _ rfl rfl HS2.out (k := 5) rfl rfl (HS2.out.row_rd (i := 1) rfl) (one_pcM MF ML) (by omega) (by omega) ?_
               intro v' w7 S7 _
               simp only [List.set_cons_succ, List.set_cons_zero, Nat.zero_add, List.nil_append] at S7
               obtain ⟨B2, d2, rfl, _, _, _⟩ := (S7.row_rd (i := 5) rfl).open_
               have HS7 := Lib.hid S7
               clear S7))
          obtain ⟨gf, hgf⟩ : ∃ g, g = wr.heap.size := ⟨_, rfl⟩
          rw [← hgf] at HS7
          rw [← hgf]
          have S8 := HS7.out.row_nil 69 6
          simp only [List.cons_append, List.nil_append] at S8
          have HS8 := Lib.hid S8
          have HF0 : Hid (FolOk M 0 MF) := Lib.hid (FolOk.nil M MF)
          clear S8 HS7 HS2 hgf
          go_loopw [16, 15] (fun iv lv w' => ∃ (i n q : Nat) (Y L : Nat → MsI) (Af : Option Addr) (cf : Nat) (Aq : Option Addr) (cq : Nat), i ≤ nd ∧ q ≤ ML ∧ iv = .int .i64 i ∧ lv = .slice Aq q cq ∧ Hid (FolOk M n Y ∧ (∀ i, i < q → L i ∈ M) ∧ ∀ x, x ∈ M → Has n Y x ∨ Has q L x) ∧ St W w' [blk gb 28 #[vc, vm, vh, .slice Ak nk ck, vs, vp], row 69 6 (.slice Al ML cl) ML (pcM MF ML), row 44 3 (.slice Ab BN cb) BN (pcS BF BN), mapI Tryz.prog 9 3 gt c TH, blk gf 71 #[(.slice Af n cf)], row 69 6 (.slice Aq q cq) q (pcM L q), row 69 6 (.slice Af n cf) n (pcM Y n)]) (fun iv _ _ => nd - (intOf iv).toNat)
          case atStart => exact ⟨0, 0, ML, MF, MF, none, 0, B2, d2, Nat.zero_le _, Nat.le_refl _, rfl, rfl, Lib.hid ⟨HF0.out, HMI.out, fun x hx => .inr (HMA.out x hx)⟩, HS8.out⟩
          case round =>
            obtain ⟨i, n, q, Y, L, Af, cf, Aq, cq, hi, hq, rfl, rfl, hok, S⟩ := hrel
            clear HS8
            by_cases hlt : i < nd
            · have t1 : decide ((i : Int) < (nd : Int)) = true := decide_eq_true (by omega)
              have t1' : decide (i < nd) = true := decide_eq_true hlt
              rcases Nat.eq_zero_or_pos q with hq0 | hq0
              · have t2 : decide ((0 : Int) < (q : Int)) = false := decide_eq_false (by omega)
                have t2' : decide (0 < q) = false := decide_eq_false (by omega)
                clear hq0
                have HS := Lib.hid S
                clear S
                have d0 := HS.out.blk_cell (i := 0) rfl 0
                have d1 := HS.out.blk_cell (i := 0) rfl 1
                have d2 := HS.out.blk_cell (i := 0) rfl 2
                have d3 := HS.out.blk_cell (i := 0) rfl 3
                have d4 := HS.out.blk_cell (i := 0) rfl 4
                have d5 := HS.out.blk_cell (i := 0) rfl 5
                have f0 := HS.out.blk_cell (i := 4) rfl 0
                have HFO := Lib.hid (HFOL.out wr _ n Y HS.out.bel hok.out.1 (HS.out.row_rd (i := 6) rfl).now)
                go_wp2_with fail
                go_at_call 14
                refine HFO.out.mono ?_
                rintro e w5 ⟨vS, qS, B, rfl, S5, hB, _⟩
                obtain ⟨As, cS, rfl, _, _, _⟩ := (S5.row_rd (i := 0) rfl).open_
                have S6 := HS.out.call S5
                simp only [List.cons_append, List.nil_append] at S6
                have HS6 := Lib.hid S6
                have hqS : qS ≤ 6 := hB.out.1
                clear S5 S6 HFO HS
                clear d0 d1 d2 d3 d4 d5 f0
                go_wp2_with fail
                go_loopw [159] (fun iv w' => ∃ k : Nat, k ≤ qS ∧ iv = .int .i64 k ∧ St W w' [blk gb 28 #[vc, vm, vh, .slice Ak nk ck, vs, vp], row 69 6 (.slice Al ML cl) ML (pcM MF ML), row 44 3 (.slice Ab BN cb) BN (pcS BF BN), mapI Tryz.prog 9 3 gt c TH, blk gf 71 #[(.slice Af n cf)], row 69 6 (.slice Aq q cq) q (pcM L q), row 69 6 (.slice Af n cf) n (pcM Y n), row 44 3 (.slice As qS cS) qS (pcS B qS)]) (fun iv _ => qS - (intOf iv).toNat)
                case atStart => exact ⟨0, Nat.zero_le _, rfl, HS6.out⟩
                case round =>
                  obtain ⟨k, hk, rfl, S⟩ := hrel
                  clear HS6
                  by_cases hlt : k < qS
                  · obtain ⟨g, cap, hv, hrest⟩ := S.row_form (i := 7) rfl (by omega)
                    cases hv
                    clear hrest
                    obtain ⟨⟨c0, c1, c2⟩, _⟩ := row_pcS S (i := 7) rfl hlt
                    obtain ⟨hb1, hb2⟩ := hB.out.2 k hlt
                    generalize B k = x at *
                    obtain ⟨xn, xt, xp⟩ := x
                    simp only at c0 c1 c2 hb1 hb2
                    have t1 : decide (TH xn < xt) = false := decide_eq_false (by omega)
                    have SA := S.blk_new #[.string xn, .int .i64 xt, .int .i64 xp] 44
                    simp only [List.cons_append, List.nil_append] at SA
                    have hl := run_lookupI_st 62 9 3 Tryz.underlying9 Tryz.underlying62 Tryz.underlying3 (fun w => rfl) SA (i := 3) rfl xn hb2
                    generalize TH xn = tv at *
                    have HS := Lib.hid (SA.sub (L' := [_, _, _, _, _, _, _, _]) (List.sublist_append_left [_, _, _, _, _, _, _, _] [_]))
                    clear S SA hb1 hb2
                    go_wp2_with fail
                    go_roundw
                    case rel => exact ⟨k + 1, by omega, by go_num, HS.out⟩
                    case measure => simp [intOf]; omega
                  · obtain rfl : qS = k := by omega
                    have HS := Lib.hid (S.sub (L' := [_, _, _, _, _, _, _]) (List.sublist_append_left [_, _, _, _, _, _, _] [_]))
                    have HO5 : Hid (FolOk M n Y ∧ ∀ x, x ∈ M → Has n Y x ∨ ∃ i, 0 ≤ i ∧ i < q ∧ L i = x) := Lib.hid ⟨hok.out.1, fun x hx => by
                      rcases hok.out.2.2 x hx with h | ⟨i, h1, h2⟩
                      · exact .inl h
                      · exact .inr ⟨i, Nat.zero_le _, h1, h2⟩⟩
                    have HLM : Hid (∀ i, i < q → L i ∈ M) := Lib.hid hok.out.2.1
                    clear S hok hB hlt hk
                    go_wp2_with fail
                    go_loopw [173] (fun iv w' => ∃ (j n' : Nat) (Y' : Nat → MsI) (Av : Option Addr) (cv : Nat), j ≤ q ∧ iv = .int .i64 j ∧ Hid (FolOk M n' Y' ∧ ∀ x, x ∈ M → Has n' Y' x ∨ ∃ i, j ≤ i ∧ i < q ∧ L i = x) ∧ St W w' [blk gb 28 #[vc, vm, vh, .slice Ak nk ck, vs, vp], row 69 6 (.slice Al ML cl) ML (pcM MF ML), row 44 3 (.slice Ab BN cb) BN (pcS BF BN), mapI Tryz.prog 9 3 gt c TH, blk gf 71 #[(.slice Av n' cv)], row 69 6 (.slice Aq q cq) q (pcM L q), row 69 6 (.slice Av n' cv) n' (pcM Y' n')]) (fun iv _ => q - (intOf iv).toNat)
                    case atStart => exact ⟨0, n, Y, Af, cf, Nat.zero_le _, rfl, HO5.out, HS.out⟩
                    case round =>
                      obtain ⟨j, n', Y', Av, cv, hj, rfl, hok5, S⟩ := hrel
                      clear HS HO5
                      by_cases hlt : j < q
                      · obtain ⟨gq, capq, hv, hrest⟩ := S.row_form (i := 5) rfl (by omega)
                        cases hv
                        clear hrest
                        obtain ⟨⟨c0, c1, c2, c3, c4, c5⟩, _⟩ := row_pcM S (i := 5) rfl hlt
                        have HRX : Hid (∀ w', Below W.heap.size W w' → Rd w' (· < w'.heap.size) 6 (.slice Av n' cv) n' (pcM Y' n') → Calls Tryz.prog 13 #[.agg #[.slice Av n' cv], (L j).val] w' fun e w2 => RvPost M w' n' Y' (L j) e w2) := Lib.hid (fun w' hb hr => HREC.out w' _ n' Y' (L j) hb hok5.out.1 (HLM.out j hlt) hr)
                        have HNX : Hid (∀ x, x ∈ M → Has n' Y' x ∨ x = L j ∨ ∃ i, j + 1 ≤ i ∧ i < q ∧ L i = x) := Lib.hid (fun x hx => by
                          rcases hok5.out.2 x hx with h | ⟨i, h1, h2, h3⟩
                          · exact .inl h
                          · by_cases e : i = j
                            · subst e; exact .inr (.inl h3.symm)
                            · exact .inr (.inr ⟨i, by omega, h2, h3⟩))
                        clear hok5
                        generalize hx : L j = x at *
                        clear hx
                        obtain ⟨xd, xi, xp, xh, xs, xm⟩ := x
                        unfold MsI.val at HRX
                        simp only at HRX c0 c1 c2 c3 c4 c5
                        have SA := S.blk_new #[.string xd, .int .i64 xi, .string xp, .int .i64 xh, .int .i64 xs, .string xm] 69
                        simp only [List.cons_append, List.nil_append] at SA
                        have HSA := Lib.hid SA
                        have HRC := Lib.hid (HRX.out _ SA.bel (SA.row_rd (i := 6) rfl).now)
                        have f0 := SA.blk_cell (i := 4) rfl 0
                        have x0 := SA.blk_cell (i := 7) rfl 0
                        have x1 := SA.blk_cell (i := 7) rfl 1
                        have x2 := SA.blk_cell (i := 7) rfl 2
                        have x3 := SA.blk_cell (i := 7) rfl 3
                        have x4 := SA.blk_cell (i := 7) rfl 4
                        have x5 := SA.blk_cell (i := 7) rfl 5
                        clear S SA HRX
                        go_wp2_with (first
                          | (go_at_call 13
                             refine HRC.out.mono ?_
                             rintro e w5 ⟨v2, n2, Y2, rfl, S5, hrv⟩
                             obtain ⟨A2, c2', rfl, _, _, _⟩ := (S5.row_rd (i := 0) rfl).open_
                             have S6 := HSA.out.call S5
                             simp only [List.cons_append, List.nil_append] at S6
                             have S7 := S6.blk_new #[.slice A2 n2 c2'] 71
                             simp only [List.cons_append, List.nil_append] at S7
                             have b0 := S7.blk_cell (i := 9) rfl 0
                             have b1 := S7.blk_cell (i := 4) rfl 0
                             have b2 := S7.blk_frozen (i := 4) rfl 0
                             have S8 := S7.blk_set (i := 4) rfl 0 (.slice A2 n2 c2')
                             simp only [List.set_cons_succ, List.set_cons_zero] at S8
                             have HS8 := Lib.hid S8
                             clear S5 S6 S7 S8))
                        go_roundw
                        case rel =>
                          refine ⟨j + 1, n2, Y2, A2, c2', by omega, by go_num, Lib.hid ⟨hrv.out.1, fun x hx => ?_⟩, HS8.out.sub (.cons_cons _ (.cons_cons _ (.cons_cons _ (.cons_cons _ (.cons_cons _ (.cons_cons _ (.cons _ (.cons _ (.cons_cons _ (.cons _ .slnil))))))))))⟩
                          rcases HNX.out x hx with h | h | h
                          · exact .inl (hrv.out.2.1 x h)
                          · rw [h]; exact .inl hrv.out.2.2
                          · exact .inr h
                        case measure => simp [intOf]; omega
                      · obtain rfl : q = j := by omega
                        have HS := Lib.hid S
                        have hall : ∀ x ∈ M, Has n' Y' x := fun x hx => by
                          rcases hok5.out.2 x hx with h | ⟨i, h1, h2, _⟩
                          · exact h
                          · exact absurd h2 (by omega)
                        have HALL := Lib.hid hall
                        have HFO := Lib.hid (HFOL.out wr _ n' Y' S.bel hok5.out.1 (S.row_rd (i := 6) rfl).now)
                        have HFK := Lib.hid hok5.out.1
                        clear S hok5 hall hlt hj
                        have d0 := HS.out.blk_cell (i := 0) rfl 0
                        have d1 := HS.out.blk_cell (i := 0) rfl 1
                        have d2 := HS.out.blk_cell (i := 0) rfl 2
                        have d3 := HS.out.blk_cell (i := 0) rfl 3
                        have d4 := HS.out.blk_cell (i := 0) rfl 4
                        have d5 := HS.out.blk_cell (i := 0) rfl 5
                        have f0 := HS.out.blk_cell (i := 4) rfl 0
                        go_wp2_with fail
                        go_at_call 14
                        refine HFO.out.mono ?_
                        rintro e w5 ⟨vE, qE, BE, rfl, S5, _, hE2⟩
                        obtain ⟨rfl, hpe⟩ := hE2.out HALL.out
                        obtain ⟨Ae, cE, rfl, _, _, _⟩ := (S5.row_rd (i := 0) rfl).open_
                        have S6 := HS.out.call S5
                        simp only [List.cons_append, List.nil_append] at S6
                        rw [hpe] at S6
                        have f0 := S6.blk_cell (i := 4) rfl 0
                        have HS6 := Lib.hid S6
                        have HG1 := Lib.hid (HGAP.out w5 _ n' Y' S6.bel HFK.out HALL.out (S6.row_rd (i := 6) rfl).now)
                        clear S5 S6 HFO hE2 hpe HS
                        clear d0 d1 d2 d3 d4 d5
                        go_wp2_with fail
                        go_at_call 15
                        refine HG1.out.mono ?_
                        rintro e w6 ⟨Ag, cg, rfl, hb⟩
                        have HS7 := Lib.hid (HS6.out.ext hb)
                        clear hb HS6 HG1 f0
                        have f0 := HS7.out.blk_cell (i := 4) rfl 0
                        have HG2 := Lib.hid (HSHN.out w6 _ n' Y' HS7.out.bel HFK.out HALL.out (HS7.out.row_rd (i := 6) rfl).now)
                        go_wp2_with fail
                        go_at_call 16
                        refine HG2.out.mono ?_
                        rintro e w7 ⟨Ah, cq7, rfl, hb⟩
                        have HS8 := Lib.hid (HS7.out.ext hb)
                        clear hb HS7 HG2 f0
                        have HSM := Lib.hid (linksSame_any w7 _ _ _ BF (HS8.out.row_rd (i := 7) rfl).now (HS8.out.row_rd (i := 2) rfl).now)
                        go_wp2_with fail
                        go_at_call 17
                        refine HSM.out.mono ?_
                        rintro e w8 ⟨rfl, hb⟩
                        have HS9 := Lib.hid (HS8.out.ext hb)
                        have HD1 := Lib.hid (HDE.out w8 HS9.out.bel)
                        clear hb HS8 HSM
                        go_wp2_with (go_at_call 7; refine HD1.out.mono ?_; rintro e w' ⟨rfl, hb⟩; have HB := Lib.hid (HS9.out.ext hb).bel; clear hb)
                        go_ret
                        exact ⟨rfl, HB.out⟩
              · have t2 : decide ((0 : Int) < (q : Int)) = true := decide_eq_true (by omega)
                have t2' : decide (0 < q) = true := decide_eq_true hq0
                obtain ⟨bz, oz, z, rfl, hz, cz⟩ := (HD.out.later S.bel).int hlt
                obtain ⟨hz1, hz2⟩ := HDL.out z (List.mem_of_getElem? hz)
                have HCZ : Hid (∀ w', Below W.heap.size W w' → w'.cell? ⟨bz, oz + i, none⟩ = some (.int .u8 z)) := Lib.hid (fun w' hb => by
                  obtain ⟨b, o, z', e, hz', cz'⟩ := (HD.out.later hb).int hlt
                  cases e
                  rw [hz] at hz'
                  cases hz'
                  exact cz')
                clear hz
                obtain ⟨gq, capq, hv, hrest⟩ := S.row_form (i := 5) rfl hq0
                cases hv
                clear hrest
                obtain ⟨k, hkz⟩ : ∃ k : Nat, z % (q : Int) = (k : Int) := ⟨(z % (q : Int)).toNat, by have := Int.emod_nonneg z (show (q : Int) ≠ 0 by omega); omega⟩
                have hkq : k < q := by have := Int.emod_lt_of_pos z (show (0 : Int) < q by omega); omega
                have hqz : decide ((q : Int) = 0) = false := decide_eq_false (by omega)
                have HS := Lib.hid S
                clear S
                go_wp2_with fail
                rw [hkz]
                obtain ⟨hok1, hok2, hok3⟩ := hok.out
                have HCX : Hid (∀ w', St W w' [blk gb 28 #[vc, vm, vh, .slice Ak nk ck, vs, vp], row 69 6 (.slice Al ML cl) ML (pcM MF ML), row 44 3 (.slice Ab BN cb) BN (pcS BF BN), mapI Tryz.prog 9 3 gt c TH, blk gf 71 #[(.slice Af n cf)], row 69 6 (.slice (some ⟨gq, 0, none⟩) q cq) q (pcM L q), row 69 6 (.slice Af n cf) n (pcM Y n)] → w'.cell? ⟨gq, k * 6, none⟩ = some (.string (L k).dev) ∧ w'.cell? ⟨gq, k * 6 + 1, none⟩ = some (.int .i64 (L k).num) ∧ w'.cell? ⟨gq, k * 6 + 2, none⟩ = some (.string (L k).plr) ∧ w'.cell? ⟨gq, k * 6 + 3, none⟩ = some (.int .i64 (L k).hole) ∧ w'.cell? ⟨gq, k * 6 + 4, none⟩ = some (.int .i64 (L k).s) ∧ w'.cell? ⟨gq, k * 6 + 5, none⟩ = some (.string (L k).m)) := Lib.hid (fun w' h => (row_pcM h (i := 5) rfl hkq).1)
                have HRX : Hid (∀ w', Below W.heap.size W w' → Rd w' (· < w'.heap.size) 6 (.slice Af n cf) n (pcM Y n) → Calls Tryz.prog 13 #[.agg #[.slice Af n cf], (L k).val] w' fun e w2 => RvPost M w' n Y (L k) e w2) := Lib.hid (fun w' hb hr => HREC.out w' _ n Y (L k) hb hok1 (hok2 k hkq) hr)
                have HLK : Hid (∀ i, L i = L i) := Lib.hid (fun _ => rfl)
                have HOK : Hid ((∀ i, i < q → L i ∈ M) ∧ ∀ x, x ∈ M → Has n Y x ∨ Has q L x) := Lib.hid ⟨hok2, hok3⟩
                clear hok hok1 hok2 hok3 HLK hkz cz hqz t1 t1' t2 t2'
                obtain ⟨x, hx⟩ : ∃ x, x = L k := ⟨_, rfl⟩
                have HLX := Lib.hid hx
                rw [← hx] at HCX HRX
                clear hx
                obtain ⟨xd, xi, xp, xh, xs, xm⟩ := x
                unfold MsI.val at HRX
                simp only at HCX HRX
                refine wp_head_tail3 0 11 6 [] [0, 1, 2, 3, 4] rfl (fun w' => St W w' [blk gb 28 #[vc, vm, vh, .slice Ak nk ck, vs, vp], row 69 6 (.slice Al ML cl) ML (pcM MF ML), row 44 3 (.slice Ab BN cb) BN (pcS BF BN), mapI Tryz.prog 9 3 gt c TH, blk gf 71 #[(.slice Af n cf)], row 69 6 (.slice (some ⟨gq, 0, none⟩) q cq) q (pcM L q), row 69 6 (.slice Af n cf) n (pcM Y n)])
                  (fun a a' w' => ∃ (Av : Option Addr) (n' cv : Nat) (Y' : Nat → MsI) (gn : Nat), Hid (FolOk M n' Y' ∧ (∀ y, Has n Y y → Has n' Y' y) ∧ Has n' Y' ⟨xd, xi, xp, xh, xs, xm⟩) ∧ a' = ((((a.put (some 128) (.tuple #[.agg #[.slice Av n' cv], .int .i64 0])).put (some 122) (.tuple #[.agg #[.slice Av n' cv], .int .i64 0])).put (some 129) (.agg #[.slice Av n' cv])).put (some 130) (.int .i64 0)).put (some 18) (.pointer (some ⟨gn, 0, none⟩)) ∧ St W w' [blk gb 28 #[vc, vm, vh, .slice Ak nk ck, vs, vp], row 69 6 (.slice Al ML cl) ML (pcM MF ML), row 44 3 (.slice Ab BN cb) BN (pcS BF BN), mapI Tryz.prog 9 3 gt c TH, blk gf 71 #[(.slice Af n cf)], row 69 6 (.slice (some ⟨gq, 0, none⟩) q cq) q (pcM L q), row 69 6 (.slice Af n cf) n (pcM Y n), row 69 6 (.slice Av n' cv) n' (pcM Y' n'), blk gn 71 #[.slice Av n' cv]]) (by kernel_rfl) (by kernel_rfl) HS.out.drew ?_
                simp only [pick, List.filterMap_cons, List.filterMap_nil, List.getElem?_toArray, List.getElem?_cons_succ, List.getElem?_cons_zero]
                have HSD := Lib.hid HS.out.drew
                generalize hK : (fun w' : World => St W w' [blk gb 28 #[vc, vm, vh, .slice Ak nk ck, vs, vp], row 69 6 (.slice Al ML cl) ML (pcM MF ML), row 44 3 (.slice Ab BN cb) BN (pcS BF BN), mapI Tryz.prog 9 3 gt c TH, blk gf 71 #[(.slice Af n cf)], row 69 6 (.slice (some ⟨gq, 0, none⟩) q cq) q (pcM L q), row 69 6 (.slice Af n cf) n (pcM Y n)]) = K
                have kS : ∀ y : Wd K, St W y.w [blk gb 28 #[vc, vm, vh, .slice Ak nk ck, vs, vp], row 69 6 (.slice Al ML cl) ML (pcM MF ML), row 44 3 (.slice Ab BN cb) BN (pcS BF BN), mapI Tryz.prog 9 3 gt c TH, blk gf 71 #[(.slice Af n cf)], row 69 6 (.slice (some ⟨gq, 0, none⟩) q cq) q (pcM L q), row 69 6 (.slice Af n cf) n (pcM Y n)] := by subst hK; exact fun y => y.h
                have hne : Nonempty (Wd K) := ⟨⟨_, by subst hK; exact HSD.out⟩⟩
                have hKd : ∀ (w' : World) (M : List Asr), St W w' ([blk gb 28 #[vc, vm, vh, .slice Ak nk ck, vs, vp], row 69 6 (.slice Al ML cl) ML (pcM MF ML), row 44 3 (.slice Ab BN cb) BN (pcS BF BN), mapI Tryz.prog 9 3 gt c TH, blk gf 71 #[(.slice Af n cf)], row 69 6 (.slice (some ⟨gq, 0, none⟩) q cq) q (pcM L q), row 69 6 (.slice Af n cf) n (pcM Y n)] ++ M) → K w' := by
                  intro w' M h
                  subst hK
                  exact h.sub (List.sublist_append_left _ _)
                have k0 : ∀ y : Wd K, y.w.cell? ⟨gf, 0, none⟩ = some (.slice Af n cf) := fun y => (kS y).blk_cell (i := 4) rfl 0
                have k1 : ∀ y : Wd K, y.w.cell? ⟨gq, k * 6, none⟩ = some (.string xd) := fun y => (HCX.out _ (kS y)).1
                have k2 : ∀ y : Wd K, y.w.cell? ⟨gq, k * 6 + 1, none⟩ = some (.int .i64 xi) := fun y => (HCX.out _ (kS y)).2.1
                have k3 : ∀ y : Wd K, y.w.cell? ⟨gq, k * 6 + 2, none⟩ = some (.string xp) := fun y => (HCX.out _ (kS y)).2.2.1
                have k4 : ∀ y : Wd K, y.w.cell? ⟨gq, k * 6 + 3, none⟩ = some (.int .i64 xh) := fun y => (HCX.out _ (kS y)).2.2.2.1
                have k5 : ∀ y : Wd K, y.w.cell? ⟨gq, k * 6 + 4, none⟩ = some (.int .i64 xs) := fun y => (HCX.out _ (kS y)).2.2.2.2.1
                have k6 : ∀ y : Wd K, y.w.cell? ⟨gq, k * 6 + 5, none⟩ = some (.string xm) := fun y => (HCX.out _ (kS y)).2.2.2.2.2
                clear hK
                generalize wr.drew = w0 at *
                refine wpQuiet_nil ?_
                change wpQuiet _ _ _ _ (_ :: _ :: _ :: _ :: _ :: []) _
                repeat (go_big_quiet_step ((fail)))
                refine wpQuiet_nil ?_
                clear kS k0 k1 k2 k3 k4 k5 k6
                have S := HSD.out
                clear HS HSD
                refine ⟨?_, ?_⟩
                · as_aux_lemma =>
                  refine headW_all (rs := [5, 9]) (by kernel_rfl) (by decide) (by decide) (List.forall_mem_cons.2 ⟨?_, List.forall_mem_cons.2 ⟨?_, List.forall_mem_nil _⟩⟩)
                  · as_aux_lemma =>
                    refine wpOp_list (o := _) rfl ?_
                    intro Q' hQ'
                    have HRC := Lib.hid (HRX.out _ S.bel (S.row_rd (i := 6) rfl).now)
                    go_wp2_with (go_at_call 13; refine HRC.out.mono ?_; rintro e w5 ⟨v', n', Y', rfl, S5, hrv⟩; obtain ⟨Av, cv, rfl, _, _, _⟩ := (S5.row_rd (i := 0) rfl).open_; have S := S.call S5; simp only [List.cons_append, List.nil_append] at S; clear S5 HRC)
                    refine ⟨hKd _ _ S, ?_⟩
                    refine headW_all (rs := [6, 9]) (by kernel_rfl) (by decide) (by decide) (List.forall_mem_cons.2 ⟨?_, List.forall_mem_cons.2 ⟨?_, List.forall_mem_nil _⟩⟩)
                    · as_aux_lemma =>
                      refine wpOp_list (o := _) rfl ?_
                      intro Q' hQ'
                      go_wp2_with fail
                      refine ⟨hKd _ _ S, ?_⟩
                      refine headW_all (rs := [7, 8, 9]) (by kernel_rfl) (by decide) (by decide) (List.forall_mem_cons.2 ⟨?_, List.forall_mem_cons.2 ⟨?_, List.forall_mem_cons.2 ⟨?_, List.forall_mem_nil _⟩⟩⟩)
                      · as_aux_lemma =>
                        refine wpOp_list (o := _) rfl ?_
                        intro Q' hQ'
                        go_wp2_with fail
                        refine ⟨hKd _ _ S, ?_⟩
                        refine headW_all (rs := [8, 9]) (by kernel_rfl) (by decide) (by decide) (List.forall_mem_cons.2 ⟨?_, List.forall_mem_cons.2 ⟨?_, List.forall_mem_nil _⟩⟩)
                        · as_aux_lemma =>
                          refine wpOp_list (o := _) rfl ?_
                          intro Q' hQ'
                          go_wp2_with fail
                          refine ⟨hKd _ _ S, ?_⟩
                          refine headW_all (rs := [9]) (by kernel_rfl) (by decide) (by decide) (List.forall_mem_cons.2 ⟨?_, List.forall_mem_nil _⟩)
                          refine wpOp_list (o := _) rfl ?_
                          intro Q' hQ'
                          have SA := S.blk_new #[.slice none 0 0] 71
                          simp only [List.cons_append, List.nil_append] at SA
                          go_wp2_with fail
                          clear S
                          generalize Array.size _ = gn at SA ⊢
                          generalize World.alloc _ _ = wx at *
                          have S := SA
                          clear SA
                          refine ⟨hKd _ _ S, ?_⟩
                          refine headW_all (rs := [10]) (by kernel_rfl) (by decide) (by decide) (List.forall_mem_cons.2 ⟨?_, List.forall_mem_nil _⟩)
                          refine wpOp_list (o := _) rfl ?_
                          intro Q' hQ'
                          have b0 := S.blk_cell (i := 8) rfl 0
                          have b1 := S.blk_frozen (i := 8) rfl 0
                          have S := S.blk_set (i := 8) rfl 0 (.slice Av n' cv)
                          simp only [List.set_cons_succ, List.set_cons_zero] at S
                          go_wp2_with fail
                          clear b0 b1
                          refine ⟨hKd _ _ S, ?_⟩
                          exact ⟨by kernel_rfl, Av, n', cv, Y', gn, hrv, by kernel_rfl, S⟩
                        · as_aux_lemma =>
                          refine wpOp_list (o := _) rfl ?_
                          intro Q' hQ'
                          have SA := S.blk_new #[.slice none 0 0] 71
                          simp only [List.cons_append, List.nil_append] at SA
                          go_wp2_with fail
                          clear S
                          generalize Array.size _ = gn at SA ⊢
                          generalize World.alloc _ _ = wx at *
                          have S := SA
                          clear SA
                          refine ⟨hKd _ _ S, ?_⟩
                          refine headW_all (rs := [8, 10]) (by kernel_rfl) (by decide) (by decide) (List.forall_mem_cons.2 ⟨?_, List.forall_mem_cons.2 ⟨?_, List.forall_mem_nil _⟩⟩)
                          · as_aux_lemma =>
                            refine wpOp_list (o := _) rfl ?_
                            intro Q' hQ'
                            go_wp2_with fail
                            refine ⟨hKd _ _ S, ?_⟩
                            refine headW_all (rs := [10]) (by kernel_rfl) (by decide) (by decide) (List.forall_mem_cons.2 ⟨?_, List.forall_mem_nil _⟩)
                            refine wpOp_list (o := _) rfl ?_
                            intro Q' hQ'
                            have b0 := S.blk_cell (i := 8) rfl 0
                            have b1 := S.blk_frozen (i := 8) rfl 0
                            have S := S.blk_set (i := 8) rfl 0 (.slice Av n' cv)
                            simp only [List.set_cons_succ, List.set_cons_zero] at S
                            go_wp2_with fail
                            clear b0 b1
                            refine ⟨hKd _ _ S, ?_⟩
                            exact ⟨by kernel_rfl, Av, n', cv, Y', gn, hrv, by kernel_rfl, S⟩
                          · as_aux_lemma =>
                            refine wpOp_list (o := _) rfl ?_
                            intro Q' hQ'
                            have b0 := S.blk_cell (i := 8) rfl 0
                            have b1 := S.blk_frozen (i := 8) rfl 0
                            have S := S.blk_set (i := 8) rfl 0 (.slice Av n' cv)
                            simp only [List.set_cons_succ, List.set_cons_zero] at S
                            go_wp2_with fail
                            clear b0 b1
                            refine ⟨hKd _ _ S, ?_⟩
                            refine headW_all (rs := [8]) (by kernel_rfl) (by decide) (by decide) (List.forall_mem_cons.2 ⟨?_, List.forall_mem_nil _⟩)
                            refine wpOp_list (o := _) rfl ?_
                            intro Q' hQ'
                            go_wp2_with fail
                            refine ⟨hKd _ _ S, ?_⟩
                            exact ⟨by kernel_rfl, Av, n', cv, Y', gn, hrv, by kernel_rfl, S⟩
                      · as_aux_lemma =>
                        refine wpOp_list (o := _) rfl ?_
                        intro Q' hQ'
                        go_wp2_with fail
                        refine ⟨hKd _ _ S, ?_⟩
                        refine headW_all (rs := [7, 9]) (by kernel_rfl) (by decide) (by decide) (List.forall_mem_cons.2 ⟨?_, List.forall_mem_cons.2 ⟨?_, List.forall_mem_nil _⟩⟩)
                        · as_aux_lemma =>
                          refine wpOp_list (o := _) rfl ?_
                          intro Q' hQ'
                          go_wp2_with fail
                          refine ⟨hKd _ _ S, ?_⟩
                          refine headW_all (rs := [9]) (by kernel_rfl) (by decide) (by decide) (List.forall_mem_cons.2 ⟨?_, List.forall_mem_nil _⟩)
                          refine wpOp_list (o := _) rfl ?_
                          intro Q' hQ'
                          have SA := S.blk_new #[.slice none 0 0] 71
                          simp only [List.cons_append, List.nil_append] at SA
                          go_wp2_with fail
                          clear S
                          generalize Array.size _ = gn at SA ⊢
                          generalize World.alloc _ _ = wx at *
                          have S := SA
                          clear SA
                          refine ⟨hKd _ _ S, ?_⟩
                          refine headW_all (rs := [10]) (by kernel_rfl) (by decide) (by decide) (List.forall_mem_cons.2 ⟨?_, List.forall_mem_nil _⟩)
                          refine wpOp_list (o := _) rfl ?_
                          intro Q' hQ'
                          have b0 := S.blk_cell (i := 8) rfl 0
                          have b1 := S.blk_frozen (i := 8) rfl 0
                          have S := S.blk_set (i := 8) rfl 0 (.slice Av n' cv)
                          simp only [List.set_cons_succ, List.set_cons_zero] at S
                          go_wp2_with fail
                          clear b0 b1
                          refine ⟨hKd _ _ S, ?_⟩
                          exact ⟨by kernel_rfl, Av, n', cv, Y', gn, hrv, by kernel_rfl, S⟩
                        · as_aux_lemma =>
                          refine wpOp_list (o := _) rfl ?_
                          intro Q' hQ'
                          have SA := S.blk_new #[.slice none 0 0] 71
                          simp only [List.cons_append, List.nil_append] at SA
                          go_wp2_with fail
                          clear S
                          generalize Array.size _ = gn at SA ⊢
                          generalize World.alloc _ _ = wx at *
                          have S := SA
                          clear SA
                          refine ⟨hKd _ _ S, ?_⟩
                          refine headW_all (rs := [7]) (by kernel_rfl) (by decide) (by decide) (List.forall_mem_cons.2 ⟨?_, List.forall_mem_nil _⟩)
                          refine wpOp_list (o := _) rfl ?_
                          intro Q' hQ'
                          go_wp2_with fail
                          refine ⟨hKd _ _ S, ?_⟩
                          refine headW_all (rs := [10]) (by kernel_rfl) (by decide) (by decide) (List.forall_mem_cons.2 ⟨?_, List.forall_mem_nil _⟩)
                          refine wpOp_list (o := _) rfl ?_
                          intro Q' hQ'
                          have b0 := S.blk_cell (i := 8) rfl 0
                          have b1 := S.blk_frozen (i := 8) rfl 0
                          have S := S.blk_set (i := 8) rfl 0 (.slice Av n' cv)
                          simp only [List.set_cons_succ, List.set_cons_zero] at S
                          go_wp2_with fail
                          clear b0 b1
                          refine ⟨hKd _ _ S, ?_⟩
                          exact ⟨by kernel_rfl, Av, n', cv, Y', gn, hrv, by kernel_rfl, S⟩
                      · as_aux_lemma =>
                        refine wpOp_list (o := _) rfl ?_
                        intro Q' hQ'
                        have SA := S.blk_new #[.slice none 0 0] 71
                        simp only [List.cons_append, List.nil_append] at SA
                        go_wp2_with fail
                        clear S
                        generalize Array.size _ = gn at SA ⊢
                        generalize World.alloc _ _ = wx at *
                        have S := SA
                        clear SA
                        refine ⟨hKd _ _ S, ?_⟩
                        refine headW_all (rs := [7, 8]) (by kernel_rfl) (by decide) (by decide) (List.forall_mem_cons.2 ⟨?_, List.forall_mem_cons.2 ⟨?_, List.forall_mem_nil _⟩⟩)
                        · as_aux_lemma =>
                          refine wpOp_list (o := _) rfl ?_
                          intro Q' hQ'
                          go_wp2_with fail
                          refine ⟨hKd _ _ S, ?_⟩
                          refine headW_all (rs := [8, 10]) (by kernel_rfl) (by decide) (by decide) (List.forall_mem_cons.2 ⟨?_, List.forall_mem_cons.2 ⟨?_, List.forall_mem_nil _⟩⟩)
                          · as_aux_lemma =>
                            refine wpOp_list (o := _) rfl ?_
                            intro Q' hQ'
                            go_wp2_with fail
                            refine ⟨hKd _ _ S, ?_⟩
                            refine headW_all (rs := [10]) (by kernel_rfl) (by decide) (by decide) (List.forall_mem_cons.2 ⟨?_, List.forall_mem_nil _⟩)
                            refine wpOp_list (o := _) rfl ?_
                            intro Q' hQ'
                            have b0 := S.blk_cell (i := 8) rfl 0
                            have b1 := S.blk_frozen (i := 8) rfl 0
                            have S := S.blk_set (i := 8) rfl 0 (.slice Av n' cv)
                            simp only [List.set_cons_succ, List.set_cons_zero] at S
                            go_wp2_with fail
                            clear b0 b1
                            refine ⟨hKd _ _ S, ?_⟩
                            exact ⟨by kernel_rfl, Av, n', cv, Y', gn, hrv, by kernel_rfl, S⟩
                          · as_aux_lemma =>
                            refine wpOp_list (o := _) rfl ?_
                            intro Q' hQ'
                            have b0 := S.blk_cell (i := 8) rfl 0
                            have b1 := S.blk_frozen (i := 8) rfl 0
                            have S := S.blk_set (i := 8) rfl 0 (.slice Av n' cv)
                            simp only [List.set_cons_succ, List.set_cons_zero] at S
                            go_wp2_with fail
                            clear b0 b1
                            refine ⟨hKd _ _ S, ?_⟩
                            refine headW_all (rs := [8]) (by kernel_rfl) (by decide) (by decide) (List.forall_mem_cons.2 ⟨?_, List.forall_mem_nil _⟩)
                            refine wpOp_list (o := _) rfl ?_
                            intro Q' hQ'
                            go_wp2_with fail
                            refine ⟨hKd _ _ S, ?_⟩
                            exact ⟨by kernel_rfl, Av, n', cv, Y', gn, hrv, by kernel_rfl, S⟩
                        · as_aux_lemma =>
                          refine wpOp_list (o := _) rfl ?_
                          intro Q' hQ'
                          go_wp2_with fail
                          refine ⟨hKd _ _ S, ?_⟩
                          refine headW_all (rs := [7]) (by kernel_rfl) (by decide) (by decide) (List.forall_mem_cons.2 ⟨?_, List.forall_mem_nil _⟩)
                          refine wpOp_list (o := _) rfl ?_
                          intro Q' hQ'
                          go_wp2_with fail
                          refine ⟨hKd _ _ S, ?_⟩
                          refine headW_all (rs := [10]) (by kernel_rfl) (by decide) (by decide) (List.forall_mem_cons.2 ⟨?_, List.forall_mem_nil _⟩)
                          refine wpOp_list (o := _) rfl ?_
                          intro Q' hQ'
                          have b0 := S.blk_cell (i := 8) rfl 0
                          have b1 := S.blk_frozen (i := 8) rfl 0
                          have S := S.blk_set (i := 8) rfl 0 (.slice Av n' cv)
                          simp only [List.set_cons_succ, List.set_cons_zero] at S
                          go_wp2_with fail
                          clear b0 b1
                          refine ⟨hKd _ _ S, ?_⟩
                          exact ⟨by kernel_rfl, Av, n', cv, Y', gn, hrv, by kernel_rfl, S⟩
                    · as_aux_lemma =>
                      refine wpOp_list (o := _) rfl ?_
                      intro Q' hQ'
                      have SA := S.blk_new #[.slice none 0 0] 71
                      simp only [List.cons_append, List.nil_append] at SA
                      go_wp2_with fail
                      clear S
                      generalize Array.size _ = gn at SA ⊢
                      generalize World.alloc _ _ = wx at *
                      have S := SA
                      clear SA
                      refine ⟨hKd _ _ S, ?_⟩
                      refine headW_all (rs := [6]) (by kernel_rfl) (by decide) (by decide) (List.forall_mem_cons.2 ⟨?_, List.forall_mem_nil _⟩)
                      refine wpOp_list (o := _) rfl ?_
                      intro Q' hQ'
                      go_wp2_with fail
                      refine ⟨hKd _ _ S, ?_⟩
                      refine headW_all (rs := [7, 8]) (by kernel_rfl) (by decide) (by decide) (List.forall_mem_cons.2 ⟨?_, List.forall_mem_cons.2 ⟨?_, List.forall_mem_nil _⟩⟩)
                      · as_aux_lemma =>
                        refine wpOp_list (o := _) rfl ?_
                        intro Q' hQ'
                        go_wp2_with fail
                        refine ⟨hKd _ _ S, ?_⟩
                        refine headW_all (rs := [8, 10]) (by kernel_rfl) (by decide) (by decide) (List.forall_mem_cons.2 ⟨?_, List.forall_mem_cons.2 ⟨?_, List.forall_mem_nil _⟩⟩)
                        · as_aux_lemma =>
                          refine wpOp_list (o := _) rfl ?_
                          intro Q' hQ'
                          go_wp2_with fail
                          refine ⟨hKd _ _ S, ?_⟩
                          refine headW_all (rs := [10]) (by kernel_rfl) (by decide) (by decide) (List.forall_mem_cons.2 ⟨?_, List.forall_mem_nil _⟩)
                          refine wpOp_list (o := _) rfl ?_
                          intro Q' hQ'
                          have b0 := S.blk_cell (i := 8) rfl 0
                          have b1 := S.blk_frozen (i := 8) rfl 0
                          have S := S.blk_set (i := 8) rfl 0 (.slice Av n' cv)
                          simp only [List.set_cons_succ, List.set_cons_zero] at S
                          go_wp2_with fail
                          clear b0 b1
                          refine ⟨hKd _ _ S, ?_⟩
                          exact ⟨by kernel_rfl, Av, n', cv, Y', gn, hrv, by kernel_rfl, S⟩
                        · as_aux_lemma =>
                          refine wpOp_list (o := _) rfl ?_
                          intro Q' hQ'
                          have b0 := S.blk_cell (i := 8) rfl 0
                          have b1 := S.blk_frozen (i := 8) rfl 0
                          have S := S.blk_set (i := 8) rfl 0 (.slice Av n' cv)
                          simp only [List.set_cons_succ, List.set_cons_zero] at S
                          go_wp2_with fail
                          clear b0 b1
                          refine ⟨hKd _ _ S, ?_⟩
                          refine headW_all (rs := [8]) (by kernel_rfl) (by decide) (by decide) (List.forall_mem_cons.2 ⟨?_, List.forall_mem_nil _⟩)
                          refine wpOp_list (o := _) rfl ?_
                          intro Q' hQ'
                          go_wp2_with fail
                          refine ⟨hKd _ _ S, ?_⟩
                          exact ⟨by kernel_rfl, Av, n', cv, Y', gn, hrv, by kernel_rfl, S⟩
                      · as_aux_lemma =>
                        refine wpOp_list (o := _) rfl ?_
                        intro Q' hQ'
                        go_wp2_with fail
                        refine ⟨hKd _ _ S, ?_⟩
                        refine headW_all (rs := [7]) (by kernel_rfl) (by decide) (by decide) (List.forall_mem_cons.2 ⟨?_, List.forall_mem_nil _⟩)
                        refine wpOp_list (o := _) rfl ?_
                        intro Q' hQ'
                        go_wp2_with fail
                        refine ⟨hKd _ _ S, ?_⟩
                        refine headW_all (rs := [10]) (by kernel_rfl) (by decide) (by decide) (List.forall_mem_cons.2 ⟨?_, List.forall_mem_nil _⟩)
                        refine wpOp_list (o := _) rfl ?_
                        intro Q' hQ'
                        have b0 := S.blk_cell (i := 8) rfl 0
                        have b1 := S.blk_frozen (i := 8) rfl 0
                        have S := S.blk_set (i := 8) rfl 0 (.slice Av n' cv)
                        simp only [List.set_cons_succ, List.set_cons_zero] at S
                        go_wp2_with fail
                        clear b0 b1
                        refine ⟨hKd _ _ S, ?_⟩
                        exact ⟨by kernel_rfl, Av, n', cv, Y', gn, hrv, by kernel_rfl, S⟩
                  · as_aux_lemma =>
                    refine wpOp_list (o := _) rfl ?_
                    intro Q' hQ'
                    have SA := S.blk_new #[.slice none 0 0] 71
                    simp only [List.cons_append, List.nil_append] at SA
                    go_wp2_with fail
                    clear S
                    generalize Array.size _ = gn at SA ⊢
                    generalize World.alloc _ _ = wx at *
                    have S := SA
                    clear SA
                    refine ⟨hKd _ _ S, ?_⟩
                    refine headW_all (rs := [5]) (by kernel_rfl) (by decide) (by decide) (List.forall_mem_cons.2 ⟨?_, List.forall_mem_nil _⟩)
                    refine wpOp_list (o := _) rfl ?_
                    intro Q' hQ'
                    have HRC := Lib.hid (HRX.out _ S.bel (S.row_rd (i := 6) rfl).now)
                    go_wp2_with (go_at_call 13; refine HRC.out.mono ?_; rintro e w5 ⟨v', n', Y', rfl, S5, hrv⟩; obtain ⟨Av, cv, rfl, _, _, _⟩ := (S5.row_rd (i := 0) rfl).open_; have S := S.call S5; simp only [List.cons_append, List.nil_append] at S; clear S5 HRC)
                    refine ⟨hKd _ _ S, ?_⟩
                    refine headW_all (rs := [6]) (by kernel_rfl) (by decide) (by decide) (List.forall_mem_cons.2 ⟨?_, List.forall_mem_nil _⟩)
                    refine wpOp_list (o := _) rfl ?_
                    intro Q' hQ'
                    go_wp2_with fail
                    refine ⟨hKd _ _ S, ?_⟩
                    refine headW_all (rs := [7, 8]) (by kernel_rfl) (by decide) (by decide) (List.forall_mem_cons.2 ⟨?_, List.forall_mem_cons.2 ⟨?_, List.forall_mem_nil _⟩⟩)
                    · as_aux_lemma =>
                      refine wpOp_list (o := _) rfl ?_
                      intro Q' hQ'
                      go_wp2_with fail
                      refine ⟨hKd _ _ S, ?_⟩
                      refine headW_all (rs := [8, 10]) (by kernel_rfl) (by decide) (by decide) (List.forall_mem_cons.2 ⟨?_, List.forall_mem_cons.2 ⟨?_, List.forall_mem_nil _⟩⟩)
                      · as_aux_lemma =>
                        refine wpOp_list (o := _) rfl ?_
                        intro Q' hQ'
                        go_wp2_with fail
                        refine ⟨hKd _ _ S, ?_⟩
                        refine headW_all (rs := [10]) (by kernel_rfl) (by decide) (by decide) (List.forall_mem_cons.2 ⟨?_, List.forall_mem_nil _⟩)
                        refine wpOp_list (o := _) rfl ?_
                        intro Q' hQ'
                        have b0 := S.blk_cell (i := 7) rfl 0
                        have b1 := S.blk_frozen (i := 7) rfl 0
                        have S := S.blk_set (i := 7) rfl 0 (.slice Av n' cv)
                        simp only [List.set_cons_succ, List.set_cons_zero] at S
                        go_wp2_with fail
                        clear b0 b1
                        refine ⟨hKd _ _ S, ?_⟩
                        have S := S.permU (L' := [blk gb 28 #[vc, vm, vh, .slice Ak nk ck, vs, vp], row 69 6 (.slice Al ML cl) ML (pcM MF ML), row 44 3 (.slice Ab BN cb) BN (pcS BF BN), mapI Tryz.prog 9 3 gt c TH, blk gf 71 #[(.slice Af n cf)], row 69 6 (.slice (some ⟨gq, 0, none⟩) q cq) q (pcM L q), row 69 6 (.slice Af n cf) n (pcM Y n), row 69 6 (.slice Av n' cv) n' (pcM Y' n'), blk gn 71 #[.slice Av n' cv]]) (.cons _ (.cons _ (.cons _ (.cons _ (.cons _ (.cons _ (.cons _ (.swap _ _ _))))))))
                        exact ⟨by kernel_rfl, Av, n', cv, Y', gn, hrv, by kernel_rfl, S⟩
                      · as_aux_lemma =>
                        refine wpOp_list (o := _) rfl ?_
                        intro Q' hQ'
                        have b0 := S.blk_cell (i := 7) rfl 0
                        have b1 := S.blk_frozen (i := 7) rfl 0
                        have S := S.blk_set (i := 7) rfl 0 (.slice Av n' cv)
                        simp only [List.set_cons_succ, List.set_cons_zero] at S
                        go_wp2_with fail
                        clear b0 b1
                        refine ⟨hKd _ _ S, ?_⟩
                        refine headW_all (rs := [8]) (by kernel_rfl) (by decide) (by decide) (List.forall_mem_cons.2 ⟨?_, List.forall_mem_nil _⟩)
                        refine wpOp_list (o := _) rfl ?_
                        intro Q' hQ'
                        go_wp2_with fail
                        refine ⟨hKd _ _ S, ?_⟩
                        have S := S.permU (L' := [blk gb 28 #[vc, vm, vh, .slice Ak nk ck, vs, vp], row 69 6 (.slice Al ML cl) ML (pcM MF ML), row 44 3 (.slice Ab BN cb) BN (pcS BF BN), mapI Tryz.prog 9 3 gt c TH, blk gf 71 #[(.slice Af n cf)], row 69 6 (.slice (some ⟨gq, 0, none⟩) q cq) q (pcM L q), row 69 6 (.slice Af n cf) n (pcM Y n), row 69 6 (.slice Av n' cv) n' (pcM Y' n'), blk gn 71 #[.slice Av n' cv]]) (.cons _ (.cons _ (.cons _ (.cons _ (.cons _ (.cons _ (.cons _ (.swap _ _ _))))))))
                        exact ⟨by kernel_rfl, Av, n', cv, Y', gn, hrv, by kernel_rfl, S⟩
                    · as_aux_lemma =>
                      refine wpOp_list (o := _) rfl ?_
                      intro Q' hQ'
                      go_wp2_with fail
                      refine ⟨hKd _ _ S, ?_⟩
                      refine headW_all (rs := [7]) (by kernel_rfl) (by decide) (by decide) (List.forall_mem_cons.2 ⟨?_, List.forall_mem_nil _⟩)
                      refine wpOp_list (o := _) rfl ?_
                      intro Q' hQ'
                      go_wp2_with fail
                      refine ⟨hKd _ _ S, ?_⟩
                      refine headW_all (rs := [10]) (by kernel_rfl) (by decide) (by decide) (List.forall_mem_cons.2 ⟨?_, List.forall_mem_nil _⟩)
                      refine wpOp_list (o := _) rfl ?_
                      intro Q' hQ'
                      have b0 := S.blk_cell (i := 7) rfl 0
                      have b1 := S.blk_frozen (i := 7) rfl 0
                      have S := S.blk_set (i := 7) rfl 0 (.slice Av n' cv)
                      simp only [List.set_cons_succ, List.set_cons_zero] at S
                      go_wp2_with fail
                      clear b0 b1
                      refine ⟨hKd _ _ S, ?_⟩
                      have S := S.permU (L' := [blk gb 28 #[vc, vm, vh, .slice Ak nk ck, vs, vp], row 69 6 (.slice Al ML cl) ML (pcM MF ML), row 44 3 (.slice Ab BN cb) BN (pcS BF BN), mapI Tryz.prog 9 3 gt c TH, blk gf 71 #[(.slice Af n cf)], row 69 6 (.slice (some ⟨gq, 0, none⟩) q cq) q (pcM L q), row 69 6 (.slice Af n cf) n (pcM Y n), row 69 6 (.slice Av n' cv) n' (pcM Y' n'), blk gn 71 #[.slice Av n' cv]]) (.cons _ (.cons _ (.cons _ (.cons _ (.cons _ (.cons _ (.cons _ (.swap _ _ _))))))))
                      exact ⟨by kernel_rfl, Av, n', cv, Y', gn, hrv, by kernel_rfl, S⟩
                · rintro a' w9 ⟨Av, n', cv, Y', gn, hrv, rfl, S9⟩
                  have b0 := S9.blk_cell (i := 8) rfl 0
                  have b1 := S9.blk_cell (i := 4) rfl 0
                  have b2 := S9.blk_frozen (i := 4) rfl 0
                  have S10 := S9.blk_set (i := 4) rfl 0 (.slice Av n' cv)
                  simp only [List.set_cons_succ, List.set_cons_zero] at S10
                  have cz := HCZ.out _ S10.bel
                  have HS := Lib.hid (S10.sub (L' := [blk gb 28 #[vc, vm, vh, .slice Ak nk ck, vs, vp], row 69 6 (.slice Al ML cl) ML (pcM MF ML), row 44 3 (.slice Ab BN cb) BN (pcS BF BN), mapI Tryz.prog 9 3 gt c TH, blk gf 71 #[.slice Av n' cv], row 69 6 (.slice (some ⟨gq, 0, none⟩) q cq) q (pcM L q), row 69 6 (.slice Av n' cv) n' (pcM Y' n')]) (.cons_cons _ (.cons_cons _ (.cons_cons _ (.cons_cons _ (.cons_cons _ (.cons_cons _ (.cons _ (.cons_cons _ (.cons _ .slnil))))))))))
                  clear S9 S10 hKd hne HRX HCX HCZ
                  have HJ : Hid (FolOk M n' Y' ∧ (∀ y, Has n Y y → Has n' Y' y) ∧ Has n' Y' (L k)) := by rw [← HLX.out]; exact hrv
                  clear hrv HLX
                  rcases Int.lt_or_le z 100 with h100 | h100
                  · have t1 : decide ((100 : Int) ≤ z) = false := decide_eq_false (by omega)
                    clear h100
                    go_wp2_with fail
                    refine NoPanic.normal ?_
                    go_wp2_with fail
                    go_roundw
                    case rel =>
                      refine ⟨i + 1, n', q, Y', L, Av, cv, some ⟨gq, 0, none⟩, cq, by omega, hq, by go_num, rfl, Lib.hid ⟨HJ.out.1, HOK.out.1, fun x hx => ?_⟩, HS.out⟩
                      rcases HOK.out.2 x hx with h | h
                      · exact .inl (HJ.out.2.1 x h)
                      · exact .inr h
                    case measure => simp [intOf]; omega
                  · have t1 : decide ((100 : Int) ≤ z) = true := decide_eq_true (by omega)
                    clear h100
                    go_wp2_with fail
                    refine NoPanic.normal ?_
                    go_wp2_with fail
                    have hqc : q ≤ cq := (HS.out.row_rd (i := 5) rfl).caps.1
                    generalize World.setCell w9 _ _ = wq at *
                    have HQL : Hid (∀ w', Below wq.heap.size wq w' → Rd w' (· < w'.heap.size) 6 (.slice (some ⟨gq, 0, none⟩) q cq) q (pcM L q)) := Lib.hid (fun w' hb => (HS.out.row_rd (i := 5) rfl).now.later hb)
                    have HTK : Hid (∀ w', Below wq.heap.size wq w' → Rd w' (· < w'.heap.size) 6 (.slice (some ⟨gq, 0, none⟩) k cq) k (pcM L k)) := Lib.hid (fun w' hb => Rd.takeM (HQL.out w' hb) (by omega))
                    have hVV : (cq = k + 1 ∧ Hid (∀ w', Below wq.heap.size wq w' → Rd w' (· < w'.heap.size) 6 (.slice (some ⟨gq, 0, none⟩) 0 0) (q - (k + 1)) (pcM (fun i => L (k + 1 + i)) (q - (k + 1))))) ∨
                        (k + 1 < cq ∧ Hid (∀ w', Below wq.heap.size wq w' → Rd w' (· < w'.heap.size) 6 (.slice (some ⟨gq, (k + 1) * 6, none⟩) (q - (k + 1)) (cq - (k + 1))) (q - (k + 1)) (pcM (fun i => L (k + 1 + i)) (q - (k + 1))))) := by
                      by_cases hcap : cq = k + 1
                      · left
                        refine ⟨hcap, ?_⟩
                        show ∀ _, _
                        intro w' hb
                        rw [show q - (k + 1) = 0 by omega]
                        exact ⟨_, 0, rfl, Nat.le_refl _, Nat.zero_le _, rfl, (fun h => by cases h), fun h => absurd h (by decide)⟩
                      · right
                        refine ⟨by omega, ?_⟩
                        show ∀ _, _
                        intro w' hb
                        exact Rd.dropM (HQL.out w' hb) (by omega)
                    clear HQL
                    have HEND : Hid (∀ (Av : Option Addr) (x : MsI), Has (k + (q - (k + 1))) (joinY L k (fun i => L (k + 1 + i))) x ∨ x = L k ∨ ¬ Has q L x) := Lib.hid (fun _ x => by
                      by_cases h : Has q L x
                      · obtain ⟨i, hi, e⟩ := h
                        by_cases h1 : i = k
                        · subst h1; exact .inr (.inl e.symm)
                        · left
                          by_cases h2 : i < k
                          · exact ⟨i, by omega, by unfold joinY; rw [if_pos h2, e]⟩
                          · exact ⟨i - 1, by omega, by unfold joinY; rw [if_neg (by omega)]; show L (k + 1 + (i - 1 - k)) = x; rw [show k + 1 + (i - 1 - k) = i by omega, e]⟩
                      · exact .inr (.inr h))
                    have HINM : Hid (∀ i, i < k + (q - (k + 1)) → joinY L k (fun i => L (k + 1 + i)) i ∈ M) := Lib.hid (fun i hi => by
                      unfold joinY
                      split
                      · exact HOK.out.1 _ (by omega)
                      · exact HOK.out.1 _ (by omega))
                    rcases hVV with ⟨rfl, hV⟩ | ⟨hc1, hV⟩
                    all_goals
                      refine Go.MemS.wp_head_tail' 0 10 3 [] [1, 2, 3, 5, 6, 7, 8] rfl (fun w' => Below wq.heap.size wq w') (by kernel_rfl) (by kernel_rfl) (Below.refl _ _).drew ?_
                      simp only [Go.MemS.pick, List.filterMap_cons, List.filterMap_nil, List.getElem?_toArray, List.getElem?_cons_succ, List.getElem?_cons_zero]
                      generalize hK : (fun w' => Below wq.heap.size wq w') = K
                      have hKd : ∀ w' L, St wq w' L → K w' := by subst hK; exact fun w' L h => h.bel
                      have hne : Nonempty (Wd K) := ⟨⟨wq, hKd _ [] (St.refl _)⟩⟩
                      clear hK
                      refine wpQuiet_nil ?_
                      change wpQuiet _ _ _ _ (_ :: _ :: _ :: _ :: _ :: _ :: _ :: []) _
                      repeat (go_big_quiet_step ((fail)))
                      refine wpQuiet_nil ?_
                      clear hne
                      have S3 := (St.refl wq).drew
                      refine Go.MemS.headW_all (rs := [0]) (by kernel_rfl) (by decide) (by decide) (List.forall_mem_cons.2 ⟨?_, List.forall_mem_nil _⟩)
                      refine Go.MemS.wpOp_list (o := _) rfl ?_
                      intro Q' hQ'
                      go_wp2_with fail
                      have U1 := S3.row_new (e := 69) (size := 6) (n := 0) #[] (by unfold maxLen; omega) rfl
                      simp only [List.nil_append] at U1
                      refine ⟨hKd _ _ U1, ?_⟩
                      refine Go.MemS.headW_all (rs := [4]) (by kernel_rfl) (by decide) (by decide) (List.forall_mem_cons.2 ⟨?_, List.forall_mem_nil _⟩)
                      refine Go.MemS.wpOp_list (o := _) rfl ?_
                      intro Q' hQ'
                      refine wpList_append_st eltM rfl _ _ rfl rfl U1 (k := 0) rfl rfl (HTK.out _ U1.bel) (one_pcM L k) (by omega) (by omega) ?_
                      intro va0 wa0 U2 _
                      go_wp2_with fail
                      simp only [List.set_cons_zero, Nat.zero_add, List.nil_append] at U2
                      refine ⟨hKd _ _ U2, ?_⟩
                      refine Go.MemS.headW_all (rs := [9]) (by kernel_rfl) (by decide) (by decide) (List.forall_mem_cons.2 ⟨?_, List.forall_mem_nil _⟩)
                      refine Go.MemS.wpOp_list (o := _) rfl ?_
                      intro Q' hQ'
                      refine wpList_append_st eltM rfl _ _ rfl rfl U2 (k := 0) rfl rfl (hV.out _ U2.bel) (one_pcM _ _) (by omega) (by omega) ?_
                      intro va1 wa1 U3 _
                      obtain ⟨A3, c3, rfl, _, _, _⟩ := (U3.row_rd (i := 0) rfl).open_
                      go_wp2_with fail
                      simp only [List.set_cons_zero, pcM_join] at U3
                      refine ⟨hKd _ _ U3, ⟨by kernel_rfl, ?_⟩⟩
                      simp only [List.drop_succ_cons, List.drop_zero]
                      have S4 := HS.out.call U3
                      simp only [List.cons_append, List.nil_append] at S4
                      have S5 := S4.sub (L' := [blk gb 28 #[vc, vm, vh, .slice Ak nk ck, vs, vp], row 69 6 (.slice Al ML cl) ML (pcM MF ML), row 44 3 (.slice Ab BN cb) BN (pcS BF BN), mapI Tryz.prog 9 3 gt c TH, blk gf 71 #[.slice Av n' cv], row 69 6 (.slice Av n' cv) n' (pcM Y' n'), row 69 6 (.slice A3 (k + (q - (k + 1))) c3) (k + (q - (k + 1))) (pcM (joinY L k (fun i => L (k + 1 + i))) (k + (q - (k + 1))))]) (.cons_cons _ (.cons_cons _ (.cons_cons _ (.cons_cons _ (.cons_cons _ (.cons _ (.cons_cons _ (.cons_cons _ .slnil))))))))
                      have S6 := S5.permU (L' := [blk gb 28 #[vc, vm, vh, .slice Ak nk ck, vs, vp], row 69 6 (.slice Al ML cl) ML (pcM MF ML), row 44 3 (.slice Ab BN cb) BN (pcS BF BN), mapI Tryz.prog 9 3 gt c TH, blk gf 71 #[.slice Av n' cv], row 69 6 (.slice A3 (k + (q - (k + 1))) c3) (k + (q - (k + 1))) (pcM (joinY L k (fun i => L (k + 1 + i))) (k + (q - (k + 1)))), row 69 6 (.slice Av n' cv) n' (pcM Y' n')]) (.cons _ (.cons _ (.cons _ (.cons _ (.cons _ (.swap _ _ _))))))
                      have HS6 := Lib.hid S6
                      clear S3 U1 U2 U3 S4 S5 S6 hKd HS HTK hV
                      go_wp2_with fail
                      refine NoPanic.normal ?_
                      go_wp2_with fail
                      go_roundw
                      case rel =>
                        refine ⟨i + 1, n', k + (q - (k + 1)), Y', joinY L k (fun i => L (k + 1 + i)), Av, cv, A3, c3, by omega, by omega, by go_num, (by first | rfl | rw [show k + (q - (k + 1)) = k by omega]), Lib.hid ⟨HJ.out.1, HINM.out, fun x hx => ?_⟩, HS6.out⟩
                        rcases HEND.out none x with h | h | h
                        · exact .inr h
                        · rw [h]; exact .inl HJ.out.2.2
                        · rcases HOK.out.2 x hx with h2 | h2
                          · exact .inl (HJ.out.2.1 x h2)
                          · exact absurd h2 h
                      case measure => simp [intOf]; omega
            · have t1 : decide ((i : Int) < (nd : Int)) = false := decide_eq_false (by omega)
              have t1' : decide (i < nd) = false := decide_eq_false hlt
              have HS := Lib.hid S
              clear S
              have d0 := HS.out.blk_cell (i := 0) rfl 0
              have d1 := HS.out.blk_cell (i := 0) rfl 1
              have d2 := HS.out.blk_cell (i := 0) rfl 2
              have d3 := HS.out.blk_cell (i := 0) rfl 3
              have d4 := HS.out.blk_cell (i := 0) rfl 4
              have d5 := HS.out.blk_cell (i := 0) rfl 5
              have f0 := HS.out.blk_cell (i := 4) rfl 0
              have HFO := Lib.hid (HFOL.out wr _ n Y HS.out.bel hok.out.1 (HS.out.row_rd (i := 6) rfl).now)
              go_wp2_with fail
              go_at_call 14
              refine HFO.out.mono ?_
              rintro e w5 ⟨vS, qS, B, rfl, S5, hB, _⟩
              obtain ⟨As, cS, rfl, _, _, _⟩ := (S5.row_rd (i := 0) rfl).open_
              have S6 := HS.out.call S5
              simp only [List.cons_append, List.nil_append] at S6
              have HS6 := Lib.hid S6
              have hqS : qS ≤ 6 := hB.out.1
              clear S5 S6 HFO HS
              clear d0 d1 d2 d3 d4 d5 f0
              go_wp2_with fail
              go_loopw [159] (fun iv w' => ∃ k : Nat, k ≤ qS ∧ iv = .int .i64 k ∧ St W w' [blk gb 28 #[vc, vm, vh, .slice Ak nk ck, vs, vp], row 69 6 (.slice Al ML cl) ML (pcM MF ML), row 44 3 (.slice Ab BN cb) BN (pcS BF BN), mapI Tryz.prog 9 3 gt c TH, blk gf 71 #[(.slice Af n cf)], row 69 6 (.slice Aq q cq) q (pcM L q), row 69 6 (.slice Af n cf) n (pcM Y n), row 44 3 (.slice As qS cS) qS (pcS B qS)]) (fun iv _ => qS - (intOf iv).toNat)
              case atStart => exact ⟨0, Nat.zero_le _, rfl, HS6.out⟩
              case round =>
                obtain ⟨k, hk, rfl, S⟩ := hrel
                clear HS6
                by_cases hlt : k < qS
                · obtain ⟨g, cap, hv, hrest⟩ := S.row_form (i := 7) rfl (by omega)
                  cases hv
                  clear hrest
                  obtain ⟨⟨c0, c1, c2⟩, _⟩ := row_pcS S (i := 7) rfl hlt
                  obtain ⟨hb1, hb2⟩ := hB.out.2 k hlt
                  generalize B k = x at *
                  obtain ⟨xn, xt, xp⟩ := x
                  simp only at c0 c1 c2 hb1 hb2
                  have t1 : decide (TH xn < xt) = false := decide_eq_false (by omega)
                  have SA := S.blk_new #[.string xn, .int .i64 xt, .int .i64 xp] 44
                  simp only [List.cons_append, List.nil_append] at SA
                  have hl := run_lookupI_st 62 9 3 Tryz.underlying9 Tryz.underlying62 Tryz.underlying3 (fun w => rfl) SA (i := 3) rfl xn hb2
                  generalize TH xn = tv at *
                  have HS := Lib.hid (SA.sub (L' := [_, _, _, _, _, _, _, _]) (List.sublist_append_left [_, _, _, _, _, _, _, _] [_]))
                  clear S SA hb1 hb2
                  go_wp2_with fail
                  go_roundw
                  case rel => exact ⟨k + 1, by omega, by go_num, HS.out⟩
                  case measure => simp [intOf]; omega
                · obtain rfl : qS = k := by omega
                  have HS := Lib.hid (S.sub (L' := [_, _, _, _, _, _, _]) (List.sublist_append_left [_, _, _, _, _, _, _] [_]))
                  have HO5 : Hid (FolOk M n Y ∧ ∀ x, x ∈ M → Has n Y x ∨ ∃ i, 0 ≤ i ∧ i < q ∧ L i = x) := Lib.hid ⟨hok.out.1, fun x hx => by
                    rcases hok.out.2.2 x hx with h | ⟨i, h1, h2⟩
                    · exact .inl h
                    · exact .inr ⟨i, Nat.zero_le _, h1, h2⟩⟩
                  have HLM : Hid (∀ i, i < q → L i ∈ M) := Lib.hid hok.out.2.1
                  clear S hok hB hlt hk
                  go_wp2_with fail
                  go_loopw [173] (fun iv w' => ∃ (j n' : Nat) (Y' : Nat → MsI) (Av : Option Addr) (cv : Nat), j ≤ q ∧ iv = .int .i64 j ∧ Hid (FolOk M n' Y' ∧ ∀ x, x ∈ M → Has n' Y' x ∨ ∃ i, j ≤ i ∧ i < q ∧ L i = x) ∧ St W w' [blk gb 28 #[vc, vm, vh, .slice Ak nk ck, vs, vp], row 69 6 (.slice Al ML cl) ML (pcM MF ML), row 44 3 (.slice Ab BN cb) BN (pcS BF BN), mapI Tryz.prog 9 3 gt c TH, blk gf 71 #[(.slice Av n' cv)], row 69 6 (.slice Aq q cq) q (pcM L q), row 69 6 (.slice Av n' cv) n' (pcM Y' n')]) (fun iv _ => q - (intOf iv).toNat)
                  case atStart => exact ⟨0, n, Y, Af, cf, Nat.zero_le _, rfl, HO5.out, HS.out⟩
                  case round =>
                    obtain ⟨j, n', Y', Av, cv, hj, rfl, hok5, S⟩ := hrel
                    clear HS HO5
                    by_cases hlt : j < q
                    · obtain ⟨gq, capq, hv, hrest⟩ := S.row_form (i := 5) rfl (by omega)
                      cases hv
                      clear hrest
                      obtain ⟨⟨c0, c1, c2, c3, c4, c5⟩, _⟩ := row_pcM S (i := 5) rfl hlt
                      have HRX : Hid (∀ w', Below W.heap.size W w' → Rd w' (· < w'.heap.size) 6 (.slice Av n' cv) n' (pcM Y' n') → Calls Tryz.prog 13 #[.agg #[.slice Av n' cv], (L j).val] w' fun e w2 => RvPost M w' n' Y' (L j) e w2) := Lib.hid (fun w' hb hr => HREC.out w' _ n' Y' (L j) hb hok5.out.1 (HLM.out j hlt) hr)
                      have HNX : Hid (∀ x, x ∈ M → Has n' Y' x ∨ x = L j ∨ ∃ i, j + 1 ≤ i ∧ i < q ∧ L i = x) := Lib.hid (fun x hx => by
                        rcases hok5.out.2 x hx with h | ⟨i, h1, h2, h3⟩
                        · exact .inl h
                        · by_cases e : i = j
                          · subst e; exact .inr (.inl h3.symm)
                          · exact .inr (.inr ⟨i, by omega, h2, h3⟩))
                      clear hok5
                      generalize hx : L j = x at *
                      clear hx
                      obtain ⟨xd, xi, xp, xh, xs, xm⟩ := x
                      unfold MsI.val at HRX
                      simp only at HRX c0 c1 c2 c3 c4 c5
                      have SA := S.blk_new #[.string xd, .int .i64 xi, .string xp, .int .i64 xh, .int .i64 xs, .string xm] 69
                      simp only [List.cons_append, List.nil_append] at SA
                      have HSA := Lib.hid SA
                      have HRC := Lib.hid (HRX.out _ SA.bel (SA.row_rd (i := 6) rfl).now)
                      have f0 := SA.blk_cell (i := 4) rfl 0
                      have x0 := SA.blk_cell (i := 7) rfl 0
                      have x1 := SA.blk_cell (i := 7) rfl 1
                      have x2 := SA.blk_cell (i := 7) rfl 2
                      have x3 := SA.blk_cell (i := 7) rfl 3
                      have x4 := SA.blk_cell (i := 7) rfl 4
                      have x5 := SA.blk_cell (i := 7) rfl 5
                      clear S SA HRX
                      go_wp2_with (first
                        | (go_at_call 13
                           refine HRC.out.mono ?_
                           rintro e w5 ⟨v2, n2, Y2, rfl, S5, hrv⟩
                           obtain ⟨A2, c2', rfl, _, _, _⟩ := (S5.row_rd (i := 0) rfl).open_
                           have S6 := HSA.out.call S5
                           simp only [List.cons_append, List.nil_append] at S6
                           have S7 := S6.blk_new #[.slice A2 n2 c2'] 71
                           simp only [List.cons_append, List.nil_append] at S7
                           have b0 := S7.blk_cell (i := 9) rfl 0
                           have b1 := S7.blk_cell (i := 4) rfl 0
                           have b2 := S7.blk_frozen (i := 4) rfl 0
                           have S8 := S7.blk_set (i := 4) rfl 0 (.slice A2 n2 c2')
                           simp only [List.set_cons_succ, List.set_cons_zero] at S8
                           have HS8 := Lib.hid S8
                           clear S5 S6 S7 S8))
                      go_roundw
                      case rel =>
                        refine ⟨j + 1, n2, Y2, A2, c2', by omega, by go_num, Lib.hid ⟨hrv.out.1, fun x hx => ?_⟩, HS8.out.sub (.cons_cons _ (.cons_cons _ (.cons_cons _ (.cons_cons _ (.cons_cons _ (.cons_cons _ (.cons _ (.cons _ (.cons_cons _ (.cons _ .slnil))))))))))⟩
                        rcases HNX.out x hx with h | h | h
                        · exact .inl (hrv.out.2.1 x h)
                        · rw [h]; exact .inl hrv.out.2.2
                        · exact .inr h
                      case measure => simp [intOf]; omega
                    · obtain rfl : q = j := by omega
                      have HS := Lib.hid S
                      have hall : ∀ x ∈ M, Has n' Y' x := fun x hx => by
                        rcases hok5.out.2 x hx with h | ⟨i, h1, h2, _⟩
                        · exact h
                        · exact absurd h2 (by omega)
                      have HALL := Lib.hid hall
                      have HFO := Lib.hid (HFOL.out wr _ n' Y' S.bel hok5.out.1 (S.row_rd (i := 6) rfl).now)
                      have HFK := Lib.hid hok5.out.1
                      clear S hok5 hall hlt hj
                      have d0 := HS.out.blk_cell (i := 0) rfl 0
                      have d1 := HS.out.blk_cell (i := 0) rfl 1
                      have d2 := HS.out.blk_cell (i := 0) rfl 2
                      have d3 := HS.out.blk_cell (i := 0) rfl 3
                      have d4 := HS.out.blk_cell (i := 0) rfl 4
                      have d5 := HS.out.blk_cell (i := 0) rfl 5
                      have f0 := HS.out.blk_cell (i := 4) rfl 0
                      go_wp2_with fail
                      go_at_call 14
                      refine HFO.out.mono ?_
                      rintro e w5 ⟨vE, qE, BE, rfl, S5, _, hE2⟩
                      obtain ⟨rfl, hpe⟩ := hE2.out HALL.out
                      obtain ⟨Ae, cE, rfl, _, _, _⟩ := (S5.row_rd (i := 0) rfl).open_
                      have S6 := HS.out.call S5
                      simp only [List.cons_append, List.nil_append] at S6
                      rw [hpe] at S6
                      have f0 := S6.blk_cell (i := 4) rfl 0
                      have HS6 := Lib.hid S6
                      have HG1 := Lib.hid (HGAP.out w5 _ n' Y' S6.bel HFK.out HALL.out (S6.row_rd (i := 6) rfl).now)
                      clear S5 S6 HFO hE2 hpe HS
                      clear d0 d1 d2 d3 d4 d5
                      go_wp2_with fail
                      go_at_call 15
                      refine HG1.out.mono ?_
                      rintro e w6 ⟨Ag, cg, rfl, hb⟩
                      have HS7 := Lib.hid (HS6.out.ext hb)
                      clear hb HS6 HG1 f0
                      have f0 := HS7.out.blk_cell (i := 4) rfl 0
                      have HG2 := Lib.hid (HSHN.out w6 _ n' Y' HS7.out.bel HFK.out HALL.out (HS7.out.row_rd (i := 6) rfl).now)
                      go_wp2_with fail
                      go_at_call 16
                      refine HG2.out.mono ?_
                      rintro e w7 ⟨Ah, cq7, rfl, hb⟩
                      have HS8 := Lib.hid (HS7.out.ext hb)
                      clear hb HS7 HG2 f0
                      have HSM := Lib.hid (linksSame_any w7 _ _ _ BF (HS8.out.row_rd (i := 7) rfl).now (HS8.out.row_rd (i := 2) rfl).now)
                      go_wp2_with fail
                      go_at_call 17
                      refine HSM.out.mono ?_
                      rintro e w8 ⟨rfl, hb⟩
                      have HS9 := Lib.hid (HS8.out.ext hb)
                      have HD1 := Lib.hid (HDE.out w8 HS9.out.bel)
                      clear hb HS8 HSM
                      go_wp2_with (go_at_call 7; refine HD1.out.mono ?_; rintro e w' ⟨rfl, hb⟩; have HB := Lib.hid (HS9.out.ext hb).bel; clear hb)
                      go_ret
                      exact ⟨rfl, HB.out⟩
end Go.Proofs.YtnaafefcijgpkaaGreatDoor
