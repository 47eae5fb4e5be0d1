/- Part 17 of the walks of the golf union's program: US24, UF20. -/
import Derived.Test.YtnaafefcijgpkaaGreatDoorB16
set_option linter.unusedVariables false
set_option linter.unusedSimpArgs false
set_option linter.unusedSectionVars false
set_option linter.constructorNameAsVariable false
/- TopLinksScored: the law. -/
namespace Go.Proofs.YtnaafefcijgpkaaGreatDoor
open Go.RowKit Go.Mem Go.Sheet Go.Adj
theorem goodU_own {u : UI} {a b : Nat} {x y z : Value} (h : GoodU { u with vm := x, vk := y, vp := z } a b) : GoodU u a b := ⟨h.len, h.cl, h.cl2, h.mb, h.mb2, h.hs, h.kk, h.kk2, h.sg, h.sg2, h.ps, h.ps2⟩
def allP (f : Nat → Int) : Nat → Bool
  | 0 => true
  | k + 1 => allP f k && decide (0 < f k)
theorem allP_iff (f : Nat → Int) : ∀ n, allP f n = true ↔ ∀ i, i < n → 0 < f i
  | 0 => by simp [allP]
  | n + 1 => by
    rw [allP, Bool.and_eq_true, allP_iff f n, decide_eq_true_eq]
    constructor
    · rintro ⟨h1, h2⟩ i hi
      rcases Nat.lt_or_ge i n with h | h
      · exact h1 i h
      · rw [show i = n by omega]; exact h2
    · exact fun h => ⟨fun i hi => h i (by omega), h n (by omega)⟩
theorem pts_bd {hs : List HI} {es : List EI} {co : Int} {n : Nat} (hg : GoodH hs) (hl : n = hs.length) (hco : -99 ≤ co ∧ co ≤ 99) (he : ∀ i, i < n → GoodE (eAt es i)) (i : Nat) (hi : i < n) : 0 ≤ ptsL hs es co i ∧ ptsL hs es co i ≤ 300 := by
  have h1 := good_bd (he i hi)
  have h2 := giv_bd hg.len hco i
  have h3 := hg.par i (by omega)
  unfold ptsL ptN
  split
  · unfold netF
    split
    · show 0 ≤ max 0 (2 + (hAt hs i).par - 0) ∧ max 0 (2 + (hAt hs i).par - 0) ≤ 300; omega
    · split
      · show 0 ≤ max 0 (2 + (hAt hs i).par - 0) ∧ max 0 (2 + (hAt hs i).par - 0) ≤ 300; omega
      · show 0 ≤ max 0 (2 + (hAt hs i).par - ((eAt es i).s - givF hs co i)) ∧ max 0 (2 + (hAt hs i).par - ((eAt es i).s - givF hs co i)) ≤ 300; omega
  · omega
set_option maxRecDepth 100000 in
set_option maxHeartbeats 16000000 in
theorem topLinksScored_any (W : World) (u : UI) (hbd : u.nm * 40 ≤ 140737488351232 ∧ u.nk * 64 ≤ 140737488351232 ∧ u.np * 64 ≤ 140737488351232) (h : RdU W (· < W.heap.size) u) :
    Calls Tryz.prog 3 #[u.val] W fun e w' => e = .returned (.bool true) ∧ Below W.heap.size W w' := by
  have HU := Lib.hid h
  have HOW := Lib.hid (fun w (hb : Below W.heap.size W w) => linksOwn_any w u hbd (h.later hb))
  obtain ⟨Am, cm, em, _, _, _⟩ := h.m.open_
  obtain ⟨Ah, ch, eh, _, _, _⟩ := h.h.open_
  have hnh0 := h.h.le
  clear h hbd
  have HDE : Hid (∀ w, Below W.heap.size W w → Calls Tryz.prog 7 #[] w fun e w' => e = .returned (.bool true) ∧ Below w.heap.size w w') := Lib.hid (fun w _ => linksBoard_ok w)
  obtain ⟨uu, huu⟩ : ∃ z, z = u := ⟨_, rfl⟩
  have HUU := Lib.hid huu
  clear huu
  obtain ⟨vc, nc, cl, vm, nm, ms, vh, nh, hs, vk, nk, ks, vs, ns, sg, vp, np, ps⟩ := u
  simp only [UI.val] at *
  subst em eh
  have S0 := (St.refl W).blk_new #[vc, .slice Am nm cm, .slice Ah nh ch, vk, vs, vp] 28
  simp only [List.nil_append] at S0
  obtain ⟨gb, hgb⟩ : ∃ g, g = W.heap.size := ⟨_, rfl⟩
  rw [← hgb] at S0
  have HS0 := Lib.hid S0
  clear S0
  have d0 := HS0.out.blk_cell (i := 0) rfl 0
  have d1 := HS0.out.blk_cell (i := 0) rfl 1
  have d2 := HS0.out.blk_cell (i := 0) rfl 2
  have d3 := HS0.out.blk_cell (i := 0) rfl 3
  have d4 := HS0.out.blk_cell (i := 0) rfl 4
  have d5 := HS0.out.blk_cell (i := 0) rfl 5
  go_enter Tryz.func3, Tryz.ntmps3
  go_wp2_with fail
  rw [← hgb]
  generalize W.alloc (.cells #[vc, .slice Am nm cm, .slice Ah nh ch, vk, vs, vp] 28) = w1 at *
  clear hgb
  go_at_call 6
  refine (HOW.out w1 HS0.out.bel).mono ?_
  rintro e w2 ⟨vm', vk', vp', rfl, hr, hb⟩
  have HS := Lib.hid (HS0.out.ext hb)
  have HFW := Lib.hid (u10Few_any w2 _ hr)
  clear hb HS0 hr d0 d1 d2 d3 d4 d5
  simp only [UI.val] at HFW
  go_wp2_with fail
  go_at_call 5
  refine HFW.out.mono ?_
  rintro e w3 ⟨⟨bo, rfl, hgood⟩, hb⟩
  have HS3 := Lib.hid (HS.out.ext hb)
  have HGO := Lib.hid hgood
  clear hb HS hgood HFW
  cases bo
  · have HD := Lib.hid (HDE.out w3 HS3.out.bel)
    go_wp2_with (go_at_call 7; refine HD.out.mono ?_; rintro e w' ⟨rfl, hb⟩; have HB := Lib.hid (HS3.out.ext hb).bel; clear hb)
    go_ret
    exact ⟨rfl, HB.out⟩
  obtain ⟨hsh, hgu⟩ := HGO.out rfl
  have hg : GoodU ⟨vc, nc, cl, .slice Am nm cm, nm, ms, .slice Ah nh ch, nh, hs, vk, nk, ks, vs, ns, sg, vp, np, ps⟩ 256 200 := goodU_own hgu
  have hnm : nm ≤ 6 := by
    have h1 := hsh.2.1
    have h2 := hg.len.2.1
    simp only at h1 h2
    omega
  clear hsh hgu HGO
  have HGU := Lib.hid hg
  have HLM : Hid (nm = ms.length) := Lib.hid (HU.out.m.count (f := MbI.cells) (size := 3) (fun _ => rfl) (by decide))
  have HLH : Hid (nh = hs.length) := Lib.hid (HU.out.h.count (f := HI.cells) (size := 2) (fun _ => rfl) (by decide))
  have HLK : Hid (nk = ks.length) := Lib.hid (HU.out.k.count (f := MkI.cells) (size := 5) (fun _ => rfl) (by decide))
  have hnh : nh ≤ 36 := goodU_nh hg HLH.out
  have HPB : Hid (∀ k, k < nh → 3 ≤ (hAt hs k).par ∧ (hAt hs k).par ≤ 6) := Lib.hid (fun k hk => by
    rcases hg.hs with h0 | h0
    · have h1 : nh = 0 := h0
      omega
    · have h1 : GoodH hs := h0
      exact h1.par k (by rw [← HLH.out]; exact hk))
  have HGH : Hid (0 < nh → GoodH hs) := Lib.hid (fun hk => by
    rcases hg.hs with h0 | h0
    · have h1 : nh = 0 := h0
      omega
    · exact h0)
  have HCO : Hid (∀ k, k < nm → (-99 ≤ (mbAt ms k).co ∧ (mbAt ms k).co ≤ 99) ∧ nameB (mbAt ms k).name = true ∧ (mbAt ms k).name.size ≤ 9223372036854775807) := Lib.hid (fun k hk => by
    have h1 := hg.mb k hk
    refine ⟨⟨h1.2.1, h1.2.2.1⟩, h1.1, (HU.out.so.2.1 (mbAt ms k) ?_).1⟩
    have h2 : k < ms.length := by rw [← HLM.out]; exact hk
    unfold mbAt
    rw [List.getD_eq_getElem?_getD, List.getElem?_eq_getElem h2]
    exact List.getElem_mem _)
  have HGE : Hid (∀ k, ∀ i, i < nh → GoodE (eAt (esU ks (mbAt ms k).name nh) i)) := Lib.hid (fun k i hi => esU_good hg HLK.out _ _ i hi)
  have HBD := Lib.hid (fun w (hb : Below W.heap.size W w) => uBoard_ok w _ hg (by show nm ≤ 19; omega) (HU.out.later hb))
  have HB0 : Hid (∀ a, a < brdN ⟨vc, nc, cl, .slice Am nm cm, nm, ms, .slice Ah nh ch, nh, hs, vk, nk, ks, vs, ns, sg, vp, np, ps⟩ (EU ⟨vc, nc, cl, .slice Am nm cm, nm, ms, .slice Ah nh ch, nh, hs, vk, nk, ks, vs, ns, sg, vp, np, ps⟩) → ∃ k, k < nm ∧ 0 < nh ∧ brdF ⟨vc, nc, cl, .slice Am nm cm, nm, ms, .slice Ah nh ch, nh, hs, vk, nk, ks, vs, ns, sg, vp, np, ps⟩ (EU ⟨vc, nc, cl, .slice Am nm cm, nm, ms, .slice Ah nh ch, nh, hs, vk, nk, ks, vs, ns, sg, vp, np, ps⟩) a = ⟨(mbAt ms k).name, sumTo (thrE (esU ks (mbAt ms k).name nh)) nh, sumTo (parE hs (mbAt ms k).co (esU ks (mbAt ms k).name nh)) nh⟩) := Lib.hid (fun a ha => by
    obtain ⟨k, hk, e, h0⟩ := brd_of ha
    have h1 := (sd_th ⟨vc, nc, cl, .slice Am nm cm, nm, ms, .slice Ah nh ch, nh, hs, vk, nk, ks, vs, ns, sg, vp, np, ps⟩ (EU ⟨vc, nc, cl, .slice Am nm cm, nm, ms, .slice Ah nh ch, nh, hs, vk, nk, ks, vs, ns, sg, vp, np, ps⟩) k).2
    have h2 : (sdE ⟨vc, nc, cl, .slice Am nm cm, nm, ms, .slice Ah nh ch, nh, hs, vk, nk, ks, vs, ns, sg, vp, np, ps⟩ (EU ⟨vc, nc, cl, .slice Am nm cm, nm, ms, .slice Ah nh ch, nh, hs, vk, nk, ks, vs, ns, sg, vp, np, ps⟩) k).th ≤ (nh : Int) := h1
    exact ⟨k, hk, by omega, e⟩)
  have HB1 : Hid (∀ a, a < brdN ⟨vc, nc, cl, .slice Am nm cm, nm, ms, .slice Ah nh ch, nh, hs, vk, nk, ks, vs, ns, sg, vp, np, ps⟩ (EU ⟨vc, nc, cl, .slice Am nm cm, nm, ms, .slice Ah nh ch, nh, hs, vk, nk, ks, vs, ns, sg, vp, np, ps⟩) → (brdF ⟨vc, nc, cl, .slice Am nm cm, nm, ms, .slice Ah nh ch, nh, hs, vk, nk, ks, vs, ns, sg, vp, np, ps⟩ (EU ⟨vc, nc, cl, .slice Am nm cm, nm, ms, .slice Ah nh ch, nh, hs, vk, nk, ks, vs, ns, sg, vp, np, ps⟩) 0).par ≤ (brdF ⟨vc, nc, cl, .slice Am nm cm, nm, ms, .slice Ah nh ch, nh, hs, vk, nk, ks, vs, ns, sg, vp, np, ps⟩ (EU ⟨vc, nc, cl, .slice Am nm cm, nm, ms, .slice Ah nh ch, nh, hs, vk, nk, ks, vs, ns, sg, vp, np, ps⟩) a).par) := Lib.hid (fun a ha => brd_least (by show nh ≤ 36; exact hnh) ha)
  have HB2 : Hid (∀ a, a + 1 < brdN ⟨vc, nc, cl, .slice Am nm cm, nm, ms, .slice Ah nh ch, nh, hs, vk, nk, ks, vs, ns, sg, vp, np, ps⟩ (EU ⟨vc, nc, cl, .slice Am nm cm, nm, ms, .slice Ah nh ch, nh, hs, vk, nk, ks, vs, ns, sg, vp, np, ps⟩) → (brdF ⟨vc, nc, cl, .slice Am nm cm, nm, ms, .slice Ah nh ch, nh, hs, vk, nk, ks, vs, ns, sg, vp, np, ps⟩ (EU ⟨vc, nc, cl, .slice Am nm cm, nm, ms, .slice Ah nh ch, nh, hs, vk, nk, ks, vs, ns, sg, vp, np, ps⟩) a).name ≠ (brdF ⟨vc, nc, cl, .slice Am nm cm, nm, ms, .slice Ah nh ch, nh, hs, vk, nk, ks, vs, ns, sg, vp, np, ps⟩ (EU ⟨vc, nc, cl, .slice Am nm cm, nm, ms, .slice Ah nh ch, nh, hs, vk, nk, ks, vs, ns, sg, vp, np, ps⟩) (a + 1)).name) := Lib.hid (fun a ha => brd_two hg.mb2 (by omega) ha (by omega))
  have HBN : Hid (brdN ⟨vc, nc, cl, .slice Am nm cm, nm, ms, .slice Ah nh ch, nh, hs, vk, nk, ks, vs, ns, sg, vp, np, ps⟩ (EU ⟨vc, nc, cl, .slice Am nm cm, nm, ms, .slice Ah nh ch, nh, hs, vk, nk, ks, vs, ns, sg, vp, np, ps⟩) ≤ 6) := Lib.hid (by
    have h1 := onE_len ⟨vc, nc, cl, .slice Am nm cm, nm, ms, .slice Ah nh ch, nh, hs, vk, nk, ks, vs, ns, sg, vp, np, ps⟩ (EU ⟨vc, nc, cl, .slice Am nm cm, nm, ms, .slice Ah nh ch, nh, hs, vk, nk, ks, vs, ns, sg, vp, np, ps⟩) nm
    unfold brdN
    show (onE ⟨vc, nc, cl, .slice Am nm cm, nm, ms, .slice Ah nh ch, nh, hs, vk, nk, ks, vs, ns, sg, vp, np, ps⟩ (EU ⟨vc, nc, cl, .slice Am nm cm, nm, ms, .slice Ah nh ch, nh, hs, vk, nk, ks, vs, ns, sg, vp, np, ps⟩) nm).length ≤ 6
    omega)
  have HCD : Hid (∀ k w, k < nm → Below W.heap.size W w → Calls Tryz.prog 9 #[.agg #[vc, .slice Am nm cm, .slice Ah nh ch, vk, vs, vp], .string (mbAt ms k).name] w fun e w' => ∃ v, e = .returned (.tuple #[.agg #[.string (mbAt ms k).name, v], .int .i64 0]) ∧ St w w' [row 65 2 v nh ((esU ks (mbAt ms k).name nh).flatMap EI.cells)]) := Lib.hid (fun k w hk hb => uCardE_ok w ⟨vc, nc, cl, .slice Am nm cm, nm, ms, .slice Ah nh ch, nh, hs, vk, nk, ks, vs, ns, sg, vp, np, ps⟩ _ hnh hg ⟨k, hk, rfl⟩ (HU.out.later hb))
  have HMB : Hid (∀ k w vm' vk' vp', k < nm → RdU w (· < w.heap.size) { vc := vc, nc := nc, cl := cl, vm := vm', nm := nm, ms := ms, vh := .slice Ah nh ch, nh := nh, hs := hs, vk := vk', nk := nk, ks := ks, vs := vs, ns := ns, sg := sg, vp := vp', np := np, ps := ps } → Calls Tryz.prog 10 #[.agg #[vc, vm', .slice Ah nh ch, vk', vs, vp'], .string (mbAt ms k).name] w fun e w' => e = .returned (.int .i64 k) ∧ Below w.heap.size w w') := Lib.hid (fun k w vm' vk' vp' hk hr => by
    have h1 := refMember_any w _ (mbAt ms k).name hr
    have h2 := mem_self hg HLM.out hk
    simp only at h1 h2
    rw [h2] at h1
    exact h1)
  have HSC : Hid (∀ k w v, k < nm → 0 < nh → Below W.heap.size W w → Rd w (· < w.heap.size) 2 v nh ((esU ks (mbAt ms k).name nh).flatMap EI.cells) → Calls Tryz.prog 11 #[.slice Ah nh ch, .agg #[.string (mbAt ms k).name, v, .int .i64 (mbAt ms k).co]] w fun e w' => e = .returned (.tuple #[.int .i64 (if allO (netF hs (esU ks (mbAt ms k).name nh) (mbAt ms k).co) nh then sumTo (fun i => (netF hs (esU ks (mbAt ms k).name nh) (mbAt ms k).co i).s) nh else 0), .int .i64 (whenE (!allO (netF hs (esU ks (mbAt ms k).name nh) (mbAt ms k).co) nh) 7)]) ∧ Below w.heap.size w w') := Lib.hid (fun k w v hk h0 hb hv =>
    score_any w _ v nh hs _ _ _ (HCO.out k hk).1 ⟨(HU.out.later hb).h, hv, HGH.out h0, (HCO.out k hk).2.1, (HCO.out k hk).2.2, HGE.out k⟩)
  have HPT : Hid (∀ k w v, k < nm → 0 < nh → Below W.heap.size W w → Rd w (· < w.heap.size) 2 v nh ((esU ks (mbAt ms k).name nh).flatMap EI.cells) → Calls Tryz.prog 12 #[.slice Ah nh ch, .agg #[.string (mbAt ms k).name, v, .int .i64 (mbAt ms k).co]] w fun e w' => ∃ v', e = .returned (.tuple #[v', .int .i64 0]) ∧ St w w' [row 3 1 v' nh (intsI (gl (ptsL hs (esU ks (mbAt ms k).name nh) (mbAt ms k).co) nh))]) := Lib.hid (fun k w v hk h0 hb hv =>
    points_ok w _ v nh hs _ _ _ (HCO.out k hk).1 ⟨(HU.out.later hb).h, hv, HGH.out h0, (HCO.out k hk).2.1, (HCO.out k hk).2.2, HGE.out k⟩)
  have HPTB : Hid (∀ k, k < nm → 0 < nh → ∀ i, i < nh → 0 ≤ ptsL hs (esU ks (mbAt ms k).name nh) (mbAt ms k).co i ∧ ptsL hs (esU ks (mbAt ms k).name nh) (mbAt ms k).co i ≤ 300) := Lib.hid (fun k hk h0 i hi => pts_bd (HGH.out h0) HLH.out (HCO.out k hk).1 (HGE.out k) i hi)
  have HPAB : Hid (∀ k, k < nm → 0 < nh → -10800 ≤ sumTo (parE hs (mbAt ms k).co (esU ks (mbAt ms k).name nh)) nh ∧ sumTo (parE hs (mbAt ms k).co (esU ks (mbAt ms k).name nh)) nh ≤ 10800) := Lib.hid (fun k hk h0 => by
    have h1 := sumTo_bd (f := parE hs (mbAt ms k).co (esU ks (mbAt ms k).name nh)) (a := -300) (b := 300) (n := nh) (fun i hi => par_bd (HGH.out h0) HLH.out (HCO.out k hk).1 hi (HGE.out k i hi))
    omega)
  have HNTB : Hid (∀ k, k < nm → 0 < nh → -7200 ≤ sumTo (fun i => (netF hs (esU ks (mbAt ms k).name nh) (mbAt ms k).co i).s) nh ∧ sumTo (fun i => (netF hs (esU ks (mbAt ms k).name nh) (mbAt ms k).co i).s) nh ≤ 7200) := Lib.hid (fun k hk h0 => by
    have h1 := sumTo_bd (f := fun i => (netF hs (esU ks (mbAt ms k).name nh) (mbAt ms k).co i).s) (a := -200) (b := 200) (n := nh) (fun i hi => by
      have h1 := good_bd (HGE.out k i hi)
      have h2 := giv_bd (HGH.out h0).len (HCO.out k hk).1 i
      unfold netF
      split
      · show -200 ≤ (0 : Int) ∧ (0 : Int) ≤ 200; omega
      · split
        · show -200 ≤ (0 : Int) ∧ (0 : Int) ≤ 200; omega
        · show -200 ≤ _ - _ ∧ _ - _ ≤ 200
          omega)
    omega)
  have HAL : Hid (∀ k, allO (netF hs (esU ks (mbAt ms k).name nh) (mbAt ms k).co) nh = true → sumTo (parE hs (mbAt ms k).co (esU ks (mbAt ms k).name nh)) nh = sumTo (fun i => (netF hs (esU ks (mbAt ms k).name nh) (mbAt ms k).co i).s) nh - sumTo (fun i => (hAt hs i).par) nh ∧ sumTo (thrE (esU ks (mbAt ms k).name nh)) nh = nh) := Lib.hid (fun k h => std_all hs _ _ nh h)
  have HPS : Hid (∀ k, allO (netF hs (esU ks (mbAt ms k).name nh) (mbAt ms k).co) nh = true → allP (ptsL hs (esU ks (mbAt ms k).name nh) (mbAt ms k).co) nh = true → sumTo (ptsL hs (esU ks (mbAt ms k).name nh) (mbAt ms k).co) nh = 2 * nh - sumTo (parE hs (mbAt ms k).co (esU ks (mbAt ms k).name nh)) nh) := Lib.hid (fun k h h2 => std_pts hs _ _ nh h ((allP_iff _ nh).1 h2))
  generalize brdN ⟨vc, nc, cl, .slice Am nm cm, nm, ms, .slice Ah nh ch, nh, hs, vk, nk, ks, vs, ns, sg, vp, np, ps⟩ (EU ⟨vc, nc, cl, .slice Am nm cm, nm, ms, .slice Ah nh ch, nh, hs, vk, nk, ks, vs, ns, sg, vp, np, ps⟩) = BN at *
  generalize brdF ⟨vc, nc, cl, .slice Am nm cm, nm, ms, .slice Ah nh ch, nh, hs, vk, nk, ks, vs, ns, sg, vp, np, ps⟩ (EU ⟨vc, nc, cl, .slice Am nm cm, nm, ms, .slice Ah nh ch, nh, hs, vk, nk, ks, vs, ns, sg, vp, np, ps⟩) = BF at *
  clear hg
  simp only [UI.val] at HBD
  have hbn := HBN.out
  have d0 := HS3.out.blk_cell (i := 0) rfl 0
  have d1 := HS3.out.blk_cell (i := 0) rfl 1
  have d2 := HS3.out.blk_cell (i := 0) rfl 2
  have d3 := HS3.out.blk_cell (i := 0) rfl 3
  have d4 := HS3.out.blk_cell (i := 0) rfl 4
  have d5 := HS3.out.blk_cell (i := 0) rfl 5
  go_wp2_with fail
  go_at_call 8
  refine (HBD.out w3 HS3.out.bel).mono ?_
  rintro e w4 ⟨vb, rfl, S4⟩
  have S5 := HS3.out.call S4
  simp only [List.cons_append, List.nil_append] at S5
  obtain ⟨Ab, cb, rfl, _, _, _⟩ := (S5.row_rd (i := 1) rfl).open_
  have HS := Lib.hid S5
  clear S4 S5 HS3 d0 d1 d2 d3 d4 d5 HBD
  have d2 := HS.out.blk_cell (i := 0) rfl 2
  go_wp2_with fail
  go_loopw [37, 5] (fun iv pv w' => ∃ k : Nat, k ≤ nh ∧ iv = .int .i64 k ∧ pv = .int .i64 (sumTo (fun i => (hAt hs i).par) k) ∧ St W w' [blk gb 28 #[vc, .slice Am nm cm, .slice Ah nh ch, vk, vs, vp], row 44 3 (.slice Ab BN cb) BN (pcS BF BN)]) (fun iv _ _ => nh - (intOf iv).toNat)
  case atStart => exact ⟨0, Nat.zero_le _, rfl, rfl, HS.out⟩
  case round =>
    obtain ⟨k, hk, rfl, rfl, S⟩ := hrel
    clear HS d2
    by_cases hlt : k < nh
    · obtain ⟨b, o, xh, rfl, hxh, c0, c1⟩ := ((HU.out.later S.bel).h).elem2 (k := k) (fun s : HI => .int .i64 s.par) (fun s : HI => .int .i64 s.idx) (fun _ => rfl) hlt
      have hpb := HPB.out k hlt
      have hsb := sumTo_bd (f := fun i => (hAt hs i).par) (a := 3) (b := 6) (n := k) (fun i hi => HPB.out i (by omega))
      have HT : Hid (sumTo (fun i => (hAt hs i).par) (k + 1) = sumTo (fun i => (hAt hs i).par) k + (hAt hs k).par) := Lib.hid rfl
      have hxe := hAt_eq hxh
      rw [← hxe] at c0 c1
      clear hxh hxe
      generalize hAt hs k = x at *
      generalize sumTo (fun i => (hAt hs i).par) k = sp at *
      obtain ⟨xp, xi⟩ := x
      simp only at c0 c1 hpb HT
      have HSA := Lib.hid (S.alloc (.cells #[.int .i64 xp, .int .i64 xi] 42))
      clear S
      go_wp2_with fail
      go_roundw
      case rel => exact ⟨k + 1, by omega, by go_num, by rw [HT.out], HSA.out⟩
      case measure => simp [intOf]; omega
    · obtain rfl : nh = k := by omega
      have hprb := sumTo_bd (f := fun i => (hAt hs i).par) (a := 3) (b := 6) (n := nh) (fun i hi => HPB.out i hi)
      generalize sumTo (fun i => (hAt hs i).par) nh = pr at *
      have HS := Lib.hid S
      clear S hlt hk
      go_wp2_with fail
      go_loopw [48] (fun iv w' => ∃ k : Nat, k ≤ BN ∧ iv = .int .i64 k ∧ St W w' [blk gb 28 #[vc, .slice Am nm cm, .slice Ah nh ch, vk, vs, vp], row 44 3 (.slice Ab BN cb) BN (pcS BF BN)]) (fun iv _ => BN - (intOf iv).toNat)
      case atStart => exact ⟨0, Nat.zero_le _, rfl, HS.out⟩
      case round =>
        obtain ⟨k, hk, rfl, S⟩ := hrel
        clear HS
        by_cases hlt : k < BN
        · obtain ⟨g, cap, hv, hrest⟩ := S.row_form (i := 1) rfl (by omega)
          cases hv
          clear hrest
          obtain ⟨kk, hkk, hn0, hbf⟩ := HB0.out k hlt
          have hle := HB1.out k hlt
          have HNE := Lib.hid (HB2.out (k - 1))
          obtain ⟨⟨c0, c1, c2⟩, _⟩ := row_pcS S (i := 1) rfl hlt
          have hPV : Hid (0 < k → wr.cell? ⟨g, (k - 1) * 3, none⟩ = some (.string (BF (k - 1)).name)) := Lib.hid (fun h0 => (row_pcS S (i := 1) rfl (show k - 1 < BN by omega)).1.1)
          have b2 := (row_pcS S (i := 1) rfl (show 0 < BN by omega)).1.2.2
          have HNE2 : Hid (0 < k → (BF (k - 1)).name ≠ (mbAt ms kk).name) := Lib.hid (fun h0 => by
            have h1 := HNE.out (by omega)
            rw [show k - 1 + 1 = k by omega, hbf] at h1
            exact h1)
          have HCM : Hid (∀ w', Below W.heap.size W w' → ∃ b o, Am = some ⟨b, o, none⟩ ∧ w'.cell? ⟨b, o + kk * 3 + 2, none⟩ = some (.int .i64 (mbAt ms kk).co)) := Lib.hid (fun w' hb => by
            obtain ⟨b, o, e, _, _, _, h2⟩ := rd_mb (HU.out.later hb).m hkk
            exact ⟨b, o, e, h2⟩)
          obtain ⟨bm, om, hAm, _⟩ := HCM.out _ S.bel
          subst hAm
          have HCM : Hid (∀ w', Below W.heap.size W w' → w'.cell? ⟨bm, om + kk * 3 + 2, none⟩ = some (.int .i64 (mbAt ms kk).co)) := Lib.hid (fun w' hb => by
            obtain ⟨b, o, e, h2⟩ := HCM.out w' hb
            cases e
            exact h2)
          have HCD1 := Lib.hid (fun w hb => HCD.out kk w hkk hb)
          have HMB1 := Lib.hid (fun w a b c hr => HMB.out kk w a b c hkk hr)
          have HSC1 := Lib.hid (fun w v hb hv => HSC.out kk w v hkk hn0 hb hv)
          have HPT1 := Lib.hid (fun w v hb hv => HPT.out kk w v hkk hn0 hb hv)
          have HPTB1 := Lib.hid (HPTB.out kk hkk hn0)
          obtain ⟨hpa1, hpa2⟩ := HPAB.out kk hkk hn0
          obtain ⟨hsc1, hsc2⟩ := HNTB.out kk hkk hn0
          have HAL1 := Lib.hid (HAL.out kk)
          have HPS1 := Lib.hid (HPS.out kk)
          rw [hbf] at c0 c1 c2 hle
          clear hbf HNE
          simp only at c0 c1 c2 hle
          generalize esU ks (mbAt ms kk).name nh = en at *
          generalize (mbAt ms kk).name = sn at *
          generalize (mbAt ms kk).co = co at *
          generalize ptsL hs en co = PF at *
          generalize allO (netF hs en co) nh = ao at *
          generalize sumTo (fun i => (netF hs en co i).s) nh = sc at *
          generalize sumTo (parE hs co en) nh = pa at *
          generalize sumTo (thrE en) nh = th at *
          generalize (BF 0).par = pz at *
          have t1 : decide (pa < pz) = false := decide_eq_false (by omega)
          have SA := S.blk_new #[.string sn, .int .i64 th, .int .i64 pa] 44
          simp only [List.cons_append, List.nil_append] at SA
          have HS := Lib.hid SA
          have b2' := ((Below.refl wr.heap.size wr).alloc (Nat.le_refl _) (.cells #[.string sn, .int .i64 th, .int .i64 pa] 44)).cell (p := ⟨g, 2, none⟩) (World.block_lt_of_cell? _ _ b2)
          rw [b2] at b2'
          have hPV : Hid (0 < k → (wr.alloc (.cells #[.string sn, .int .i64 th, .int .i64 pa] 44)).cell? ⟨g, (k - 1) * 3, none⟩ = some (.string (BF (k - 1)).name)) := Lib.hid (fun h0 => by
            have h1 := hPV.out h0
            rw [((Below.refl wr.heap.size wr).alloc (Nat.le_refl _) (.cells #[.string sn, .int .i64 th, .int .i64 pa] 44)).cell (p := ⟨g, (k - 1) * 3, none⟩) (World.block_lt_of_cell? _ _ h1)]
            exact h1)
          clear S SA
          go_wp2_with fail
          clear c0 c1 c2 b2
          have b2 := b2'
          clear b2'
          generalize wr.heap.size = gx at *
          generalize World.alloc wr _ = wq at *
          rcases Nat.eq_zero_or_pos k with hk0 | hk0
          · have t0 : decide ((0 : Int) < (k : Int)) = false := decide_eq_false (by omega)
            have t0' : decide (0 < k) = false := decide_eq_false (by omega)
            clear hPV HNE2 hk0
            have x0 := HS.out.blk_cell (i := 2) rfl 0
            have x2 := HS.out.blk_cell (i := 2) rfl 2
            go_wp2_with fail
            refine wp_cls 21 (fun w' => ∃ n, w' = wq.drewN n) (by kernel_rfl) (by kernel_rfl) ⟨1, rfl⟩ ?_
            simp only [List.take_succ_cons, List.take_zero, List.drop_succ_cons, List.drop_zero]
            generalize hK : (fun w' => ∃ n, w' = wq.drewN n) = K
            intro hne
            have kw : ∀ y : Wd K, ∃ n, y.w = wq.drewN n := by subst hK; exact fun y => y.h
            have k0 : ∀ y : Wd K, y.w.cell? ⟨gx, 0, none⟩ = some (.string sn) := fun y => by obtain ⟨n, e⟩ := kw y; rw [e]; exact x0
            have k1 : ∀ y : Wd K, y.w.cell? ⟨gx, 2, none⟩ = some (.int .i64 pa) := fun y => by obtain ⟨n, e⟩ := kw y; rw [e]; exact x2
            have k2 : ∀ y : Wd K, y.w.cell? ⟨g, 2, none⟩ = some (.int .i64 pz) := fun y => by obtain ⟨n, e⟩ := kw y; rw [e]; exact b2
            clear hK x0 x2 b2
            repeat (go_big_quiet_step ((fail)))
            refine wpQuiet_nil ?_
            intro y
            obtain ⟨nn, hyn⟩ := kw y
            have HSY := Lib.hid (HS.out.drewN nn)
            rw [← hyn] at HSY
            clear kw k0 k1 k2 hyn hne HS
            generalize y.w = wq at *
            have HS := HSY
            clear HSY
            have d0 := HS.out.blk_cell (i := 0) rfl 0
            have d1 := HS.out.blk_cell (i := 0) rfl 1
            have d2 := HS.out.blk_cell (i := 0) rfl 2
            have d3 := HS.out.blk_cell (i := 0) rfl 3
            have d4 := HS.out.blk_cell (i := 0) rfl 4
            have d5 := HS.out.blk_cell (i := 0) rfl 5
            have x0 := HS.out.blk_cell (i := 2) rfl 0
            go_wp2_with fail
            go_at_call 9
            refine (HCD1.out wq HS.out.bel).mono ?_
            rintro e w5 ⟨vcd, rfl, S5⟩
            have S6 := HS.out.call S5
            simp only [List.cons_append, List.nil_append] at S6
            obtain ⟨ge, ce, hv5, hrest5⟩ := S6.row_form (i := 3) rfl hn0
            cases hv5
            clear hrest5
            have S7 := S6.blk_new #[.string sn, .slice (some ⟨ge, 0, none⟩) nh ce] 47
            simp only [List.cons_append, List.nil_append] at S7
            have HS7 := Lib.hid S7
            clear S5 S6 S7 HS HCD1 d0 d1 d2 d3 d4 d5 x0
            go_wp2_with fail
            generalize w5.heap.size = gc at *
            generalize World.alloc w5 _ = w6 at *
            refine wp_head_tail3 0 5 2 [] [0, 2, 3] rfl (fun w' => St W w' [blk gb 28 #[vc, .slice (some ⟨bm, om, none⟩) nm cm, .slice Ah nh ch, vk, vs, vp], row 44 3 (.slice (some ⟨g, 0, none⟩) BN cb) BN (pcS BF BN), blk gx 44 #[.string sn, .int .i64 th, .int .i64 pa], row 65 2 (.slice (some ⟨ge, 0, none⟩) nh ce) nh (en.flatMap EI.cells), blk gc 47 #[.string sn, .slice (some ⟨ge, 0, none⟩) nh ce]])
              (fun a a' w' => ∃ v : Value, a' = (a.put (some 83) v).put (some 86) (.int .i64 kk) ∧ St W w' [blk gb 28 #[vc, .slice (some ⟨bm, om, none⟩) nm cm, .slice Ah nh ch, vk, vs, vp], row 44 3 (.slice (some ⟨g, 0, none⟩) BN cb) BN (pcS BF BN), blk gx 44 #[.string sn, .int .i64 th, .int .i64 pa], row 65 2 (.slice (some ⟨ge, 0, none⟩) nh ce) nh (en.flatMap EI.cells), blk gc 47 #[.string sn, .slice (some ⟨ge, 0, none⟩) nh ce]]) (by kernel_rfl) (by kernel_rfl) HS7.out.drew ?_
            simp only [pick, List.filterMap_cons, List.filterMap_nil, List.getElem?_toArray, List.getElem?_cons_succ, List.getElem?_cons_zero]
            have HSD := Lib.hid HS7.out.drew
            generalize hK : (fun w' : World => St W w' [blk gb 28 #[vc, .slice (some ⟨bm, om, none⟩) nm cm, .slice Ah nh ch, vk, vs, vp], row 44 3 (.slice (some ⟨g, 0, none⟩) BN cb) BN (pcS BF BN), blk gx 44 #[.string sn, .int .i64 th, .int .i64 pa], row 65 2 (.slice (some ⟨ge, 0, none⟩) nh ce) nh (en.flatMap EI.cells), blk gc 47 #[.string sn, .slice (some ⟨ge, 0, none⟩) nh ce]]) = K
            have kS : ∀ y : Wd K, St W y.w [blk gb 28 #[vc, .slice (some ⟨bm, om, none⟩) nm cm, .slice Ah nh ch, vk, vs, vp], row 44 3 (.slice (some ⟨g, 0, none⟩) BN cb) BN (pcS BF BN), blk gx 44 #[.string sn, .int .i64 th, .int .i64 pa], row 65 2 (.slice (some ⟨ge, 0, none⟩) nh ce) nh (en.flatMap EI.cells), blk gc 47 #[.string sn, .slice (some ⟨ge, 0, none⟩) nh ce]] := by subst hK; exact fun y => y.h
            have hne : Nonempty (Wd K) := ⟨⟨_, by subst hK; exact HSD.out⟩⟩
            have hKd : ∀ w' : World, St W w' [blk gb 28 #[vc, .slice (some ⟨bm, om, none⟩) nm cm, .slice Ah nh ch, vk, vs, vp], row 44 3 (.slice (some ⟨g, 0, none⟩) BN cb) BN (pcS BF BN), blk gx 44 #[.string sn, .int .i64 th, .int .i64 pa], row 65 2 (.slice (some ⟨ge, 0, none⟩) nh ce) nh (en.flatMap EI.cells), blk gc 47 #[.string sn, .slice (some ⟨ge, 0, none⟩) nh ce]] → K w' := by subst hK; exact fun w' h => h
            have k0 : ∀ y : Wd K, y.w.cell? ⟨gb, 0, none⟩ = some (vc) := fun y => (kS y).blk_cell (i := 0) rfl 0
            have k1 : ∀ y : Wd K, y.w.cell? ⟨gb, 1, none⟩ = some (Value.slice (some ⟨bm, om, none⟩) nm cm) := fun y => (kS y).blk_cell (i := 0) rfl 1
            have k2 : ∀ y : Wd K, y.w.cell? ⟨gb, 2, none⟩ = some (Value.slice Ah nh ch) := fun y => (kS y).blk_cell (i := 0) rfl 2
            have k3 : ∀ y : Wd K, y.w.cell? ⟨gb, 3, none⟩ = some (vk) := fun y => (kS y).blk_cell (i := 0) rfl 3
            have k4 : ∀ y : Wd K, y.w.cell? ⟨gb, 4, none⟩ = some (vs) := fun y => (kS y).blk_cell (i := 0) rfl 4
            have k5 : ∀ y : Wd K, y.w.cell? ⟨gb, 5, none⟩ = some (vp) := fun y => (kS y).blk_cell (i := 0) rfl 5
            have k6 : ∀ y : Wd K, y.w.cell? ⟨gx, 0, none⟩ = some (.string sn) := fun y => (kS y).blk_cell (i := 2) rfl 0
            clear hK
            generalize w6.drew = w0 at *
            refine wpQuiet_nil ?_
            change wpQuiet _ _ _ _ (_ :: _ :: _ :: []) _
            repeat (go_big_quiet_step ((fail)))
            refine wpQuiet_nil ?_
            clear kS k0 k1 k2 k3 k4 k5 k6
            refine ⟨?_, ?_⟩
            · as_aux_lemma =>
              refine headW_all (rs := [1]) (by kernel_rfl) (by decide) (by decide) (List.forall_mem_cons.2 ⟨?_, List.forall_mem_nil _⟩)
              refine wpOp_list (o := _) rfl ?_
              intro Q' hQ'
              go_wp2_with (go_at_call 6; refine (HOW.out _ HSD.out.bel).mono ?_; rintro e w7 ⟨vm', vk', vp', rfl, hr, hb⟩)
              have HS8 := Lib.hid (HSD.out.ext hb)
              have HME := Lib.hid (HMB1.out w7 vm' vk' vp' hr)
              clear hr hb HSD HS7
              refine ⟨hKd _ HS8.out, ?_⟩
              refine headW_all (rs := [4]) (by kernel_rfl) (by decide) (by decide) (List.forall_mem_cons.2 ⟨?_, List.forall_mem_nil _⟩)
              refine wpOp_list (o := _) rfl ?_
              intro Q' hQ'
              try simp only [UI.val] at HME
              go_wp2_with (go_at_call 10; refine HME.out.mono ?_; rintro e w8 ⟨rfl, hb⟩; have S9 := HS8.out.ext hb)
              refine ⟨hKd _ S9, ?_⟩
              exact ⟨by kernel_rfl, .agg #[vc, vm', .slice Ah nh ch, vk', vs, vp'], by kernel_rfl, S9⟩
            rintro a' w9 ⟨v9, rfl, S9⟩
            have HS := Lib.hid S9
            clear S9 hKd hne HSD HS7 HMB1
            go_wp2_with fail
            refine NoPanic.normal ?_
            go_wp2_with fail
            generalize w9 = wq at *
            have d0 := HS.out.blk_cell (i := 0) rfl 0
            have d1 := HS.out.blk_cell (i := 0) rfl 1
            have d2 := HS.out.blk_cell (i := 0) rfl 2
            have d3 := HS.out.blk_cell (i := 0) rfl 3
            have d4 := HS.out.blk_cell (i := 0) rfl 4
            have d5 := HS.out.blk_cell (i := 0) rfl 5
            have x1 := HS.out.blk_cell (i := 4) rfl 0
            have x2 := HS.out.blk_cell (i := 4) rfl 1
            have hcm := HCM.out _ HS.out.bel
            refine wp_head_tail3 0 9 2 [] [0, 1, 2, 3, 4, 5, 6] rfl (fun w' => St W w' [blk gb 28 #[vc, .slice (some ⟨bm, om, none⟩) nm cm, .slice Ah nh ch, vk, vs, vp], row 44 3 (.slice (some ⟨g, 0, none⟩) BN cb) BN (pcS BF BN), blk gx 44 #[.string sn, .int .i64 th, .int .i64 pa], row 65 2 (.slice (some ⟨ge, 0, none⟩) nh ce) nh (en.flatMap EI.cells), blk gc 47 #[.string sn, .slice (some ⟨ge, 0, none⟩) nh ce]])
              (fun a a' w' => ∃ gk : Nat, a' = (a.put (some 100) (.agg #[.string sn, .slice (some ⟨ge, 0, none⟩) nh ce, .int .i64 co])).put (some 13) (.pointer (some ⟨gk, 0, none⟩)) ∧ St W w' [blk gb 28 #[vc, .slice (some ⟨bm, om, none⟩) nm cm, .slice Ah nh ch, vk, vs, vp], row 44 3 (.slice (some ⟨g, 0, none⟩) BN cb) BN (pcS BF BN), blk gx 44 #[.string sn, .int .i64 th, .int .i64 pa], row 65 2 (.slice (some ⟨ge, 0, none⟩) nh ce) nh (en.flatMap EI.cells), blk gc 47 #[.string sn, .slice (some ⟨ge, 0, none⟩) nh ce], blk gk 54 #[.string ⟨#[]⟩, .slice none 0 0, .int .i64 0]]) (by kernel_rfl) (by kernel_rfl) HS.out.drew ?_
            simp only [pick, List.filterMap_cons, List.filterMap_nil, List.getElem?_toArray, List.getElem?_cons_succ, List.getElem?_cons_zero]
            have HSD := Lib.hid HS.out.drew
            generalize hK : (fun w' : World => St W w' [blk gb 28 #[vc, .slice (some ⟨bm, om, none⟩) nm cm, .slice Ah nh ch, vk, vs, vp], row 44 3 (.slice (some ⟨g, 0, none⟩) BN cb) BN (pcS BF BN), blk gx 44 #[.string sn, .int .i64 th, .int .i64 pa], row 65 2 (.slice (some ⟨ge, 0, none⟩) nh ce) nh (en.flatMap EI.cells), blk gc 47 #[.string sn, .slice (some ⟨ge, 0, none⟩) nh ce]]) = K
            have kS : ∀ y : Wd K, St W y.w [blk gb 28 #[vc, .slice (some ⟨bm, om, none⟩) nm cm, .slice Ah nh ch, vk, vs, vp], row 44 3 (.slice (some ⟨g, 0, none⟩) BN cb) BN (pcS BF BN), blk gx 44 #[.string sn, .int .i64 th, .int .i64 pa], row 65 2 (.slice (some ⟨ge, 0, none⟩) nh ce) nh (en.flatMap EI.cells), blk gc 47 #[.string sn, .slice (some ⟨ge, 0, none⟩) nh ce]] := by subst hK; exact fun y => y.h
            have hne : Nonempty (Wd K) := ⟨⟨_, by subst hK; exact HSD.out⟩⟩
            have hKd : ∀ (w' : World) (M : List Asr), St W w' ([blk gb 28 #[vc, .slice (some ⟨bm, om, none⟩) nm cm, .slice Ah nh ch, vk, vs, vp], row 44 3 (.slice (some ⟨g, 0, none⟩) BN cb) BN (pcS BF BN), blk gx 44 #[.string sn, .int .i64 th, .int .i64 pa], row 65 2 (.slice (some ⟨ge, 0, none⟩) nh ce) nh (en.flatMap EI.cells), blk gc 47 #[.string sn, .slice (some ⟨ge, 0, none⟩) nh ce]] ++ M) → K w' := by
              intro w' M h
              subst hK
              exact h.sub (List.sublist_append_left _ _)
            have k0 : ∀ y : Wd K, y.w.cell? ⟨gb, 1, none⟩ = some (.slice (some ⟨bm, om, none⟩) nm cm) := fun y => (kS y).blk_cell (i := 0) rfl 1
            have k1 : ∀ y : Wd K, y.w.cell? ⟨gc, 0, none⟩ = some (.string sn) := fun y => (kS y).blk_cell (i := 4) rfl 0
            have k2 : ∀ y : Wd K, y.w.cell? ⟨gc, 1, none⟩ = some (.slice (some ⟨ge, 0, none⟩) nh ce) := fun y => (kS y).blk_cell (i := 4) rfl 1
            have k3 : ∀ y : Wd K, y.w.cell? ⟨bm, om + kk * 3 + 2, none⟩ = some (.int .i64 co) := fun y => HCM.out _ (kS y).bel
            clear hK hcm
            generalize wq.drew = w0 at *
            refine wpQuiet_nil ?_
            change wpQuiet _ _ _ _ (_ :: _ :: _ :: _ :: _ :: _ :: _ :: []) _
            repeat (go_big_quiet_step ((fail)))
            refine wpQuiet_nil ?_
            clear kS k0 k1 k2 k3
            refine ⟨?_, ?_⟩
            · as_aux_lemma =>
              refine headW_all (rs := [7, 8]) (by kernel_rfl) (by decide) (by decide) (List.forall_mem_cons.2 ⟨?_, List.forall_mem_cons.2 ⟨?_, List.forall_mem_nil _⟩⟩)
              · refine wpOp_list (o := _) rfl ?_
                intro Q' hQ'
                go_wp2_with fail
                refine ⟨hKd _ [] HSD.out, ?_⟩
                refine headW_all (rs := [8]) (by kernel_rfl) (by decide) (by decide) (List.forall_mem_cons.2 ⟨?_, List.forall_mem_nil _⟩)
                refine wpOp_list (o := _) rfl ?_
                intro Q' hQ'
                have SA := HSD.out.blk_new #[.string ⟨#[]⟩, .slice none 0 0, .int .i64 0] 54
                simp only [List.cons_append, List.nil_append] at SA
                go_wp2_with fail
                refine ⟨hKd _ _ SA, ?_⟩
                exact ⟨by kernel_rfl, w0.heap.size, by kernel_rfl, SA⟩
              · refine wpOp_list (o := _) rfl ?_
                intro Q' hQ'
                have SA := HSD.out.blk_new #[.string ⟨#[]⟩, .slice none 0 0, .int .i64 0] 54
                simp only [List.cons_append, List.nil_append] at SA
                go_wp2_with fail
                refine ⟨hKd _ _ SA, ?_⟩
                refine headW_all (rs := [7]) (by kernel_rfl) (by decide) (by decide) (List.forall_mem_cons.2 ⟨?_, List.forall_mem_nil _⟩)
                refine wpOp_list (o := _) rfl ?_
                intro Q' hQ'
                go_wp2_with fail
                refine ⟨hKd _ _ SA, ?_⟩
                exact ⟨by kernel_rfl, w0.heap.size, by kernel_rfl, SA⟩
            rintro a' w9 ⟨gk, rfl, S9⟩
            have S4 := S9.blk_row (i := 5) rfl #[.string sn, .slice (some ⟨ge, 0, none⟩) nh ce, .int .i64 co]
            simp only [List.set_cons_zero, List.set_cons_succ] at S4
            have HS4 := Lib.hid S4
            refine wpList_store_row rfl 54 (.tmp 13) (.tmp 100) rfl gk #[.string sn, .slice (some ⟨ge, 0, none⟩) nh ce, .int .i64 co] rfl rfl 54 _ (S9.blk_at (i := 5) rfl).2.2 (by kernel_rfl) rfl (by simp [Value.oneCell']) ?_
            clear S4 S9 HS HSD hKd hne d0 d1 d2 d3 d4 d5 x1 x2
            generalize World.setRow _ _ _ = w7 at *
            go_wp2_with fail
            refine NoPanic.normal ?_
            have d2 := HS4.out.blk_cell (i := 0) rfl 2
            have p0 := HS4.out.blk_cell (i := 5) rfl 0
            have p1 := HS4.out.blk_cell (i := 5) rfl 1
            have p2 := HS4.out.blk_cell (i := 5) rfl 2
            have HSC2 := Lib.hid (HSC1.out w7 _ HS4.out.bel (HS4.out.row_rd (i := 3) rfl).now)
            have HPT2 := Lib.hid (fun w hb hv => HPT1.out w (.slice (some ⟨ge, 0, none⟩) nh ce) hb hv)
            clear HSC1 HPT1
            cases ao with
            | false =>
              simp only [whenE, Bool.not_false, if_true, Bool.false_eq_true, if_false] at HSC2
              go_wp2_with fail
              go_at_call 11
              refine HSC2.out.mono ?_
              rintro e w8 ⟨rfl, hb⟩
              have HS8 := Lib.hid (HS4.out.ext hb)
              clear hb HS4 d2 p0 p1 p2 HSC2
              have d2 := HS8.out.blk_cell (i := 0) rfl 2
              have p0 := HS8.out.blk_cell (i := 5) rfl 0
              have p1 := HS8.out.blk_cell (i := 5) rfl 1
              have p2 := HS8.out.blk_cell (i := 5) rfl 2
              have HPT3 := Lib.hid (HPT2.out w8 HS8.out.bel (HS8.out.row_rd (i := 3) rfl).now)
              clear HPT2
              go_wp2_with fail
              go_at_call 12
              refine HPT3.out.mono ?_
              rintro e w10 ⟨vp9, rfl, S10⟩
              have S11 := HS8.out.call S10
              simp only [List.cons_append, List.nil_append] at S11
              obtain ⟨gp, cp9, hv5, hrest5⟩ := S11.row_form (i := 6) rfl hn0
              cases hv5
              clear hrest5
              have HSB := Lib.hid S11
              clear S10 S11 HS8 HPT3 d2 p0 p1 p2
              have d2 := HSB.out.blk_cell (i := 0) rfl 2
              have HSE := Lib.hid (HSB.out.sub (L' := [_, _]) (List.sublist_append_left [_, _] [_, _, _, _, _]))
              clear HSB
              go_wp2_with fail
              go_roundw
              case rel => exact ⟨k + 1, by omega, by go_num, HSE.out⟩
              case measure => simp [intOf]; omega
            | true =>
              simp only [whenE, Bool.not_true, if_true, Bool.false_eq_true, if_false] at HSC2
              go_wp2_with fail
              go_at_call 11
              refine HSC2.out.mono ?_
              rintro e w8 ⟨rfl, hb⟩
              have HS8 := Lib.hid (HS4.out.ext hb)
              clear hb HS4 d2 p0 p1 p2 HSC2
              have d2 := HS8.out.blk_cell (i := 0) rfl 2
              have p0 := HS8.out.blk_cell (i := 5) rfl 0
              have p1 := HS8.out.blk_cell (i := 5) rfl 1
              have p2 := HS8.out.blk_cell (i := 5) rfl 2
              have HPT3 := Lib.hid (HPT2.out w8 HS8.out.bel (HS8.out.row_rd (i := 3) rfl).now)
              clear HPT2
              go_wp2_with fail
              go_at_call 12
              refine HPT3.out.mono ?_
              rintro e w10 ⟨vp9, rfl, S10⟩
              have S11 := HS8.out.call S10
              simp only [List.cons_append, List.nil_append] at S11
              obtain ⟨gp, cp9, hv5, hrest5⟩ := S11.row_form (i := 6) rfl hn0
              cases hv5
              clear hrest5
              have HSB := Lib.hid S11
              clear S10 S11 HS8 HPT3 d2 p0 p1 p2
              have d2 := HSB.out.blk_cell (i := 0) rfl 2
              obtain ⟨hpa, hth⟩ := HAL1.out (by trivial)
              have HPS2 := Lib.hid (HPS1.out (by trivial))
              have hjm : sc - pr = pa := hpa.symm
              have hjw : IntKind.i64.wrap (sc - pr) = pa := by rw [hjm]; exact IntWalk.i64_in _ (by omega)
              have ht0 : (th != (nh : Int)) = false := by simp [hth]
              have HTHE := Lib.hid hth
              clear hpa HAL1 HPS1
              go_wp2_with fail
              go_loopw [137, 18, 19] (fun iv sv av w' => ∃ j : Nat, j ≤ nh ∧ iv = .int .i64 j ∧ sv = .int .i64 (sumTo PF j) ∧ av = .bool (allP PF j) ∧ w' = w10) (fun iv _ _ _ => nh - (intOf iv).toNat)
              case atStart => exact ⟨0, Nat.zero_le _, rfl, rfl, rfl, rfl⟩
              case round =>
                obtain ⟨j, hj, rfl, rfl, rfl, rfl⟩ := hrel
                by_cases hlj : j < nh
                · obtain ⟨bp, op, xp, hbp, hxp, ec⟩ := (HSB.out.row_rd (i := 6) rfl).int hlj
                  cases hbp
                  simp only [Nat.zero_add] at ec
                  have hxe : xp = PF j := by
                    rw [gl_at _ hlj] at hxp
                    exact (Option.some.inj hxp).symm
                  subst hxe
                  have hpb := HPTB1.out j hlj
                  have hsb := sumTo_bd (f := PF) (a := 0) (b := 300) (n := j) (fun i hi => HPTB1.out i (by omega))
                  have HT1 : Hid (sumTo PF (j + 1) = sumTo PF j + PF j) := Lib.hid rfl
                  have HT2 : Hid (allP PF (j + 1) = (allP PF j && decide (0 < PF j))) := Lib.hid rfl
                  generalize sumTo PF j = sp at *
                  generalize PF j = y at *
                  generalize allP PF j = ab at *
                  clear hxp
                  cases ab with
                  | false =>
                    go_wp2_with fail
                    go_roundw
                    case rel => exact ⟨j + 1, by omega, by go_num, by rw [HT1.out], by rw [HT2.out]; rfl, by first | rfl | trivial⟩
                    case measure => simp [intOf]; omega
                  | true =>
                    have HDY : Hid (allP PF (j + 1) = decide (0 < y)) := Lib.hid (by rw [HT2.out]; simp)
                    go_wp2_with fail
                    go_roundw
                    case rel => exact ⟨j + 1, by omega, by go_num, by rw [HT1.out], by rw [HDY.out], by first | rfl | trivial⟩
                    case measure => simp [intOf]; omega
                · obtain rfl : nh = j := by omega
                  have HSE := Lib.hid (HSB.out.sub (L' := [_, _]) (List.sublist_append_left [_, _] [_, _, _, _, _]))
                  have x1 := HSB.out.blk_cell (i := 2) rfl 1
                  have x2 := HSB.out.blk_cell (i := 2) rfl 2
                  generalize allP PF nh = ab at *
                  cases ab with
                  | false =>
                    clear HPS2
                    go_wp2_with fail
                    go_roundw
                    case rel => exact ⟨k + 1, by omega, by go_num, HSE.out⟩
                    case measure => simp [intOf]; omega
                  | true =>
                    have hsm := HPS2.out (by trivial)
                    have hs1 : (sumTo PF nh != 2 * (nh : Int) - pa) = false := by simp [hsm]
                    have HSM := Lib.hid hsm
                    clear HPS2 hsm
                    generalize sumTo PF nh = sm at *
                    go_wp2_with fail
                    go_roundw
                    case rel => exact ⟨k + 1, by omega, by go_num, HSE.out⟩
                    case measure => simp [intOf]; omega
          · obtain ⟨kp, hkp⟩ : ∃ kp, kp = k - 1 := ⟨_, rfl⟩
            have e0 := hPV.out hk0
            have hne := HNE2.out hk0
            rw [← hkp] at e0 hne
            have q0 := bytes_neU hne
            generalize (BF kp).name = pn at *
            have hjm0 : (k : Int) - 1 = (kp : Int) := by omega
            have hjw0 : IntKind.i64.wrap ((k : Int) - 1) = (kp : Int) := by rw [hjm0]; exact IntWalk.i64_in _ (by omega)
            have hkpq : kp < BN := by omega
            have t0 : decide ((0 : Int) < (k : Int)) = true := by simp; omega
            have t0' : decide (0 < k) = true := by simp; omega
            clear hkp hPV HNE2 hne
            have x0 := HS.out.blk_cell (i := 2) rfl 0
            have x2 := HS.out.blk_cell (i := 2) rfl 2
            go_wp2_with fail
            refine wp_cls 21 (fun w' => ∃ n, w' = wq.drewN n) (by kernel_rfl) (by kernel_rfl) ⟨1, rfl⟩ ?_
            simp only [List.take_succ_cons, List.take_zero, List.drop_succ_cons, List.drop_zero]
            generalize hK : (fun w' => ∃ n, w' = wq.drewN n) = K
            intro hne
            have kw : ∀ y : Wd K, ∃ n, y.w = wq.drewN n := by subst hK; exact fun y => y.h
            have k0 : ∀ y : Wd K, y.w.cell? ⟨gx, 0, none⟩ = some (.string sn) := fun y => by obtain ⟨n, e⟩ := kw y; rw [e]; exact x0
            have k1 : ∀ y : Wd K, y.w.cell? ⟨gx, 2, none⟩ = some (.int .i64 pa) := fun y => by obtain ⟨n, e⟩ := kw y; rw [e]; exact x2
            have k2 : ∀ y : Wd K, y.w.cell? ⟨g, 2, none⟩ = some (.int .i64 pz) := fun y => by obtain ⟨n, e⟩ := kw y; rw [e]; exact b2
            have k3 : ∀ y : Wd K, y.w.cell? ⟨g, kp * 3, none⟩ = some (.string pn) := fun y => by obtain ⟨n, e⟩ := kw y; rw [e]; exact e0
            clear hK x0 x2 b2 e0
            repeat (go_big_quiet_step ((fail)))
            refine wpQuiet_nil ?_
            intro y
            obtain ⟨nn, hyn⟩ := kw y
            have HSY := Lib.hid (HS.out.drewN nn)
            rw [← hyn] at HSY
            clear kw k0 k1 k2 k3 hyn hne HS
            generalize y.w = wq at *
            have HS := HSY
            clear HSY
            have d0 := HS.out.blk_cell (i := 0) rfl 0
            have d1 := HS.out.blk_cell (i := 0) rfl 1
            have d2 := HS.out.blk_cell (i := 0) rfl 2
            have d3 := HS.out.blk_cell (i := 0) rfl 3
            have d4 := HS.out.blk_cell (i := 0) rfl 4
            have d5 := HS.out.blk_cell (i := 0) rfl 5
            have x0 := HS.out.blk_cell (i := 2) rfl 0
            go_wp2_with fail
            go_at_call 9
            refine (HCD1.out wq HS.out.bel).mono ?_
            rintro e w5 ⟨vcd, rfl, S5⟩
            have S6 := HS.out.call S5
            simp only [List.cons_append, List.nil_append] at S6
            obtain ⟨ge, ce, hv5, hrest5⟩ := S6.row_form (i := 3) rfl hn0
            cases hv5
            clear hrest5
            have S7 := S6.blk_new #[.string sn, .slice (some ⟨ge, 0, none⟩) nh ce] 47
            simp only [List.cons_append, List.nil_append] at S7
            have HS7 := Lib.hid S7
            clear S5 S6 S7 HS HCD1 d0 d1 d2 d3 d4 d5 x0
            go_wp2_with fail
            generalize w5.heap.size = gc at *
            generalize World.alloc w5 _ = w6 at *
            refine wp_head_tail3 0 5 2 [] [0, 2, 3] rfl (fun w' => St W w' [blk gb 28 #[vc, .slice (some ⟨bm, om, none⟩) nm cm, .slice Ah nh ch, vk, vs, vp], row 44 3 (.slice (some ⟨g, 0, none⟩) BN cb) BN (pcS BF BN), blk gx 44 #[.string sn, .int .i64 th, .int .i64 pa], row 65 2 (.slice (some ⟨ge, 0, none⟩) nh ce) nh (en.flatMap EI.cells), blk gc 47 #[.string sn, .slice (some ⟨ge, 0, none⟩) nh ce]])
              (fun a a' w' => ∃ v : Value, a' = (a.put (some 83) v).put (some 86) (.int .i64 kk) ∧ St W w' [blk gb 28 #[vc, .slice (some ⟨bm, om, none⟩) nm cm, .slice Ah nh ch, vk, vs, vp], row 44 3 (.slice (some ⟨g, 0, none⟩) BN cb) BN (pcS BF BN), blk gx 44 #[.string sn, .int .i64 th, .int .i64 pa], row 65 2 (.slice (some ⟨ge, 0, none⟩) nh ce) nh (en.flatMap EI.cells), blk gc 47 #[.string sn, .slice (some ⟨ge, 0, none⟩) nh ce]]) (by kernel_rfl) (by kernel_rfl) HS7.out.drew ?_
            simp only [pick, List.filterMap_cons, List.filterMap_nil, List.getElem?_toArray, List.getElem?_cons_succ, List.getElem?_cons_zero]
            have HSD := Lib.hid HS7.out.drew
            generalize hK : (fun w' : World => St W w' [blk gb 28 #[vc, .slice (some ⟨bm, om, none⟩) nm cm, .slice Ah nh ch, vk, vs, vp], row 44 3 (.slice (some ⟨g, 0, none⟩) BN cb) BN (pcS BF BN), blk gx 44 #[.string sn, .int .i64 th, .int .i64 pa], row 65 2 (.slice (some ⟨ge, 0, none⟩) nh ce) nh (en.flatMap EI.cells), blk gc 47 #[.string sn, .slice (some ⟨ge, 0, none⟩) nh ce]]) = K
            have kS : ∀ y : Wd K, St W y.w [blk gb 28 #[vc, .slice (some ⟨bm, om, none⟩) nm cm, .slice Ah nh ch, vk, vs, vp], row 44 3 (.slice (some ⟨g, 0, none⟩) BN cb) BN (pcS BF BN), blk gx 44 #[.string sn, .int .i64 th, .int .i64 pa], row 65 2 (.slice (some ⟨ge, 0, none⟩) nh ce) nh (en.flatMap EI.cells), blk gc 47 #[.string sn, .slice (some ⟨ge, 0, none⟩) nh ce]] := by subst hK; exact fun y => y.h
            have hne : Nonempty (Wd K) := ⟨⟨_, by subst hK; exact HSD.out⟩⟩
            have hKd : ∀ w' : World, St W w' [blk gb 28 #[vc, .slice (some ⟨bm, om, none⟩) nm cm, .slice Ah nh ch, vk, vs, vp], row 44 3 (.slice (some ⟨g, 0, none⟩) BN cb) BN (pcS BF BN), blk gx 44 #[.string sn, .int .i64 th, .int .i64 pa], row 65 2 (.slice (some ⟨ge, 0, none⟩) nh ce) nh (en.flatMap EI.cells), blk gc 47 #[.string sn, .slice (some ⟨ge, 0, none⟩) nh ce]] → K w' := by subst hK; exact fun w' h => h
            have k0 : ∀ y : Wd K, y.w.cell? ⟨gb, 0, none⟩ = some (vc) := fun y => (kS y).blk_cell (i := 0) rfl 0
            have k1 : ∀ y : Wd K, y.w.cell? ⟨gb, 1, none⟩ = some (Value.slice (some ⟨bm, om, none⟩) nm cm) := fun y => (kS y).blk_cell (i := 0) rfl 1
            have k2 : ∀ y : Wd K, y.w.cell? ⟨gb, 2, none⟩ = some (Value.slice Ah nh ch) := fun y => (kS y).blk_cell (i := 0) rfl 2
            have k3 : ∀ y : Wd K, y.w.cell? ⟨gb, 3, none⟩ = some (vk) := fun y => (kS y).blk_cell (i := 0) rfl 3
            have k4 : ∀ y : Wd K, y.w.cell? ⟨gb, 4, none⟩ = some (vs) := fun y => (kS y).blk_cell (i := 0) rfl 4
            have k5 : ∀ y : Wd K, y.w.cell? ⟨gb, 5, none⟩ = some (vp) := fun y => (kS y).blk_cell (i := 0) rfl 5
            have k6 : ∀ y : Wd K, y.w.cell? ⟨gx, 0, none⟩ = some (.string sn) := fun y => (kS y).blk_cell (i := 2) rfl 0
            clear hK
            generalize w6.drew = w0 at *
            refine wpQuiet_nil ?_
            change wpQuiet _ _ _ _ (_ :: _ :: _ :: []) _
            repeat (go_big_quiet_step ((fail)))
            refine wpQuiet_nil ?_
            clear kS k0 k1 k2 k3 k4 k5 k6
            refine ⟨?_, ?_⟩
            · as_aux_lemma =>
              refine headW_all (rs := [1]) (by kernel_rfl) (by decide) (by decide) (List.forall_mem_cons.2 ⟨?_, List.forall_mem_nil _⟩)
              refine wpOp_list (o := _) rfl ?_
              intro Q' hQ'
              go_wp2_with (go_at_call 6; refine (HOW.out _ HSD.out.bel).mono ?_; rintro e w7 ⟨vm', vk', vp', rfl, hr, hb⟩)
              have HS8 := Lib.hid (HSD.out.ext hb)
              have HME := Lib.hid (HMB1.out w7 vm' vk' vp' hr)
              clear hr hb HSD HS7
              refine ⟨hKd _ HS8.out, ?_⟩
              refine headW_all (rs := [4]) (by kernel_rfl) (by decide) (by decide) (List.forall_mem_cons.2 ⟨?_, List.forall_mem_nil _⟩)
              refine wpOp_list (o := _) rfl ?_
              intro Q' hQ'
              try simp only [UI.val] at HME
              go_wp2_with (go_at_call 10; refine HME.out.mono ?_; rintro e w8 ⟨rfl, hb⟩; have S9 := HS8.out.ext hb)
              refine ⟨hKd _ S9, ?_⟩
              exact ⟨by kernel_rfl, .agg #[vc, vm', .slice Ah nh ch, vk', vs, vp'], by kernel_rfl, S9⟩
            rintro a' w9 ⟨v9, rfl, S9⟩
            have HS := Lib.hid S9
            clear S9 hKd hne HSD HS7 HMB1
            go_wp2_with fail
            refine NoPanic.normal ?_
            go_wp2_with fail
            generalize w9 = wq at *
            have d0 := HS.out.blk_cell (i := 0) rfl 0
            have d1 := HS.out.blk_cell (i := 0) rfl 1
            have d2 := HS.out.blk_cell (i := 0) rfl 2
            have d3 := HS.out.blk_cell (i := 0) rfl 3
            have d4 := HS.out.blk_cell (i := 0) rfl 4
            have d5 := HS.out.blk_cell (i := 0) rfl 5
            have x1 := HS.out.blk_cell (i := 4) rfl 0
            have x2 := HS.out.blk_cell (i := 4) rfl 1
            have hcm := HCM.out _ HS.out.bel
            refine wp_head_tail3 0 9 2 [] [0, 1, 2, 3, 4, 5, 6] rfl (fun w' => St W w' [blk gb 28 #[vc, .slice (some ⟨bm, om, none⟩) nm cm, .slice Ah nh ch, vk, vs, vp], row 44 3 (.slice (some ⟨g, 0, none⟩) BN cb) BN (pcS BF BN), blk gx 44 #[.string sn, .int .i64 th, .int .i64 pa], row 65 2 (.slice (some ⟨ge, 0, none⟩) nh ce) nh (en.flatMap EI.cells), blk gc 47 #[.string sn, .slice (some ⟨ge, 0, none⟩) nh ce]])
              (fun a a' w' => ∃ gk : Nat, a' = (a.put (some 100) (.agg #[.string sn, .slice (some ⟨ge, 0, none⟩) nh ce, .int .i64 co])).put (some 13) (.pointer (some ⟨gk, 0, none⟩)) ∧ St W w' [blk gb 28 #[vc, .slice (some ⟨bm, om, none⟩) nm cm, .slice Ah nh ch, vk, vs, vp], row 44 3 (.slice (some ⟨g, 0, none⟩) BN cb) BN (pcS BF BN), blk gx 44 #[.string sn, .int .i64 th, .int .i64 pa], row 65 2 (.slice (some ⟨ge, 0, none⟩) nh ce) nh (en.flatMap EI.cells), blk gc 47 #[.string sn, .slice (some ⟨ge, 0, none⟩) nh ce], blk gk 54 #[.string ⟨#[]⟩, .slice none 0 0, .int .i64 0]]) (by kernel_rfl) (by kernel_rfl) HS.out.drew ?_
            simp only [pick, List.filterMap_cons, List.filterMap_nil, List.getElem?_toArray, List.getElem?_cons_succ, List.getElem?_cons_zero]
            have HSD := Lib.hid HS.out.drew
            generalize hK : (fun w' : World => St W w' [blk gb 28 #[vc, .slice (some ⟨bm, om, none⟩) nm cm, .slice Ah nh ch, vk, vs, vp], row 44 3 (.slice (some ⟨g, 0, none⟩) BN cb) BN (pcS BF BN), blk gx 44 #[.string sn, .int .i64 th, .int .i64 pa], row 65 2 (.slice (some ⟨ge, 0, none⟩) nh ce) nh (en.flatMap EI.cells), blk gc 47 #[.string sn, .slice (some ⟨ge, 0, none⟩) nh ce]]) = K
            have kS : ∀ y : Wd K, St W y.w [blk gb 28 #[vc, .slice (some ⟨bm, om, none⟩) nm cm, .slice Ah nh ch, vk, vs, vp], row 44 3 (.slice (some ⟨g, 0, none⟩) BN cb) BN (pcS BF BN), blk gx 44 #[.string sn, .int .i64 th, .int .i64 pa], row 65 2 (.slice (some ⟨ge, 0, none⟩) nh ce) nh (en.flatMap EI.cells), blk gc 47 #[.string sn, .slice (some ⟨ge, 0, none⟩) nh ce]] := by subst hK; exact fun y => y.h
            have hne : Nonempty (Wd K) := ⟨⟨_, by subst hK; exact HSD.out⟩⟩
            have hKd : ∀ (w' : World) (M : List Asr), St W w' ([blk gb 28 #[vc, .slice (some ⟨bm, om, none⟩) nm cm, .slice Ah nh ch, vk, vs, vp], row 44 3 (.slice (some ⟨g, 0, none⟩) BN cb) BN (pcS BF BN), blk gx 44 #[.string sn, .int .i64 th, .int .i64 pa], row 65 2 (.slice (some ⟨ge, 0, none⟩) nh ce) nh (en.flatMap EI.cells), blk gc 47 #[.string sn, .slice (some ⟨ge, 0, none⟩) nh ce]] ++ M) → K w' := by
              intro w' M h
              subst hK
              exact h.sub (List.sublist_append_left _ _)
            have k0 : ∀ y : Wd K, y.w.cell? ⟨gb, 1, none⟩ = some (.slice (some ⟨bm, om, none⟩) nm cm) := fun y => (kS y).blk_cell (i := 0) rfl 1
            have k1 : ∀ y : Wd K, y.w.cell? ⟨gc, 0, none⟩ = some (.string sn) := fun y => (kS y).blk_cell (i := 4) rfl 0
            have k2 : ∀ y : Wd K, y.w.cell? ⟨gc, 1, none⟩ = some (.slice (some ⟨ge, 0, none⟩) nh ce) := fun y => (kS y).blk_cell (i := 4) rfl 1
            have k3 : ∀ y : Wd K, y.w.cell? ⟨bm, om + kk * 3 + 2, none⟩ = some (.int .i64 co) := fun y => HCM.out _ (kS y).bel
            clear hK hcm
            generalize wq.drew = w0 at *
            refine wpQuiet_nil ?_
            change wpQuiet _ _ _ _ (_ :: _ :: _ :: _ :: _ :: _ :: _ :: []) _
            repeat (go_big_quiet_step ((fail)))
            refine wpQuiet_nil ?_
            clear kS k0 k1 k2 k3
            refine ⟨?_, ?_⟩
            · as_aux_lemma =>
              refine headW_all (rs := [7, 8]) (by kernel_rfl) (by decide) (by decide) (List.forall_mem_cons.2 ⟨?_, List.forall_mem_cons.2 ⟨?_, List.forall_mem_nil _⟩⟩)
              · refine wpOp_list (o := _) rfl ?_
                intro Q' hQ'
                go_wp2_with fail
                refine ⟨hKd _ [] HSD.out, ?_⟩
                refine headW_all (rs := [8]) (by kernel_rfl) (by decide) (by decide) (List.forall_mem_cons.2 ⟨?_, List.forall_mem_nil _⟩)
                refine wpOp_list (o := _) rfl ?_
                intro Q' hQ'
                have SA := HSD.out.blk_new #[.string ⟨#[]⟩, .slice none 0 0, .int .i64 0] 54
                simp only [List.cons_append, List.nil_append] at SA
                go_wp2_with fail
                refine ⟨hKd _ _ SA, ?_⟩
                exact ⟨by kernel_rfl, w0.heap.size, by kernel_rfl, SA⟩
              · refine wpOp_list (o := _) rfl ?_
                intro Q' hQ'
                have SA := HSD.out.blk_new #[.string ⟨#[]⟩, .slice none 0 0, .int .i64 0] 54
                simp only [List.cons_append, List.nil_append] at SA
                go_wp2_with fail
                refine ⟨hKd _ _ SA, ?_⟩
                refine headW_all (rs := [7]) (by kernel_rfl) (by decide) (by decide) (List.forall_mem_cons.2 ⟨?_, List.forall_mem_nil _⟩)
                refine wpOp_list (o := _) rfl ?_
                intro Q' hQ'
                go_wp2_with fail
                refine ⟨hKd _ _ SA, ?_⟩
                exact ⟨by kernel_rfl, w0.heap.size, by kernel_rfl, SA⟩
            rintro a' w9 ⟨gk, rfl, S9⟩
            have S4 := S9.blk_row (i := 5) rfl #[.string sn, .slice (some ⟨ge, 0, none⟩) nh ce, .int .i64 co]
            simp only [List.set_cons_zero, List.set_cons_succ] at S4
            have HS4 := Lib.hid S4
            refine wpList_store_row rfl 54 (.tmp 13) (.tmp 100) rfl gk #[.string sn, .slice (some ⟨ge, 0, none⟩) nh ce, .int .i64 co] rfl rfl 54 _ (S9.blk_at (i := 5) rfl).2.2 (by kernel_rfl) rfl (by simp [Value.oneCell']) ?_
            clear S4 S9 HS HSD hKd hne d0 d1 d2 d3 d4 d5 x1 x2
            generalize World.setRow _ _ _ = w7 at *
            go_wp2_with fail
            refine NoPanic.normal ?_
            have d2 := HS4.out.blk_cell (i := 0) rfl 2
            have p0 := HS4.out.blk_cell (i := 5) rfl 0
            have p1 := HS4.out.blk_cell (i := 5) rfl 1
            have p2 := HS4.out.blk_cell (i := 5) rfl 2
            have HSC2 := Lib.hid (HSC1.out w7 _ HS4.out.bel (HS4.out.row_rd (i := 3) rfl).now)
            have HPT2 := Lib.hid (fun w hb hv => HPT1.out w (.slice (some ⟨ge, 0, none⟩) nh ce) hb hv)
            clear HSC1 HPT1
            cases ao with
            | false =>
              simp only [whenE, Bool.not_false, if_true, Bool.false_eq_true, if_false] at HSC2
              go_wp2_with fail
              go_at_call 11
              refine HSC2.out.mono ?_
              rintro e w8 ⟨rfl, hb⟩
              have HS8 := Lib.hid (HS4.out.ext hb)
              clear hb HS4 d2 p0 p1 p2 HSC2
              have d2 := HS8.out.blk_cell (i := 0) rfl 2
              have p0 := HS8.out.blk_cell (i := 5) rfl 0
              have p1 := HS8.out.blk_cell (i := 5) rfl 1
              have p2 := HS8.out.blk_cell (i := 5) rfl 2
              have HPT3 := Lib.hid (HPT2.out w8 HS8.out.bel (HS8.out.row_rd (i := 3) rfl).now)
              clear HPT2
              go_wp2_with fail
              go_at_call 12
              refine HPT3.out.mono ?_
              rintro e w10 ⟨vp9, rfl, S10⟩
              have S11 := HS8.out.call S10
              simp only [List.cons_append, List.nil_append] at S11
              obtain ⟨gp, cp9, hv5, hrest5⟩ := S11.row_form (i := 6) rfl hn0
              cases hv5
              clear hrest5
              have HSB := Lib.hid S11
              clear S10 S11 HS8 HPT3 d2 p0 p1 p2
              have d2 := HSB.out.blk_cell (i := 0) rfl 2
              have HSE := Lib.hid (HSB.out.sub (L' := [_, _]) (List.sublist_append_left [_, _] [_, _, _, _, _]))
              clear HSB
              go_wp2_with fail
              go_roundw
              case rel => exact ⟨k + 1, by omega, by go_num, HSE.out⟩
              case measure => simp [intOf]; omega
            | true =>
              simp only [whenE, Bool.not_true, if_true, Bool.false_eq_true, if_false] at HSC2
              go_wp2_with fail
              go_at_call 11
              refine HSC2.out.mono ?_
              rintro e w8 ⟨rfl, hb⟩
              have HS8 := Lib.hid (HS4.out.ext hb)
              clear hb HS4 d2 p0 p1 p2 HSC2
              have d2 := HS8.out.blk_cell (i := 0) rfl 2
              have p0 := HS8.out.blk_cell (i := 5) rfl 0
              have p1 := HS8.out.blk_cell (i := 5) rfl 1
              have p2 := HS8.out.blk_cell (i := 5) rfl 2
              have HPT3 := Lib.hid (HPT2.out w8 HS8.out.bel (HS8.out.row_rd (i := 3) rfl).now)
              clear HPT2
              go_wp2_with fail
              go_at_call 12
              refine HPT3.out.mono ?_
              rintro e w10 ⟨vp9, rfl, S10⟩
              have S11 := HS8.out.call S10
              simp only [List.cons_append, List.nil_append] at S11
              obtain ⟨gp, cp9, hv5, hrest5⟩ := S11.row_form (i := 6) rfl hn0
              cases hv5
              clear hrest5
              have HSB := Lib.hid S11
              clear S10 S11 HS8 HPT3 d2 p0 p1 p2
              have d2 := HSB.out.blk_cell (i := 0) rfl 2
              obtain ⟨hpa, hth⟩ := HAL1.out (by trivial)
              have HPS2 := Lib.hid (HPS1.out (by trivial))
              have hjm : sc - pr = pa := hpa.symm
              have hjw : IntKind.i64.wrap (sc - pr) = pa := by rw [hjm]; exact IntWalk.i64_in _ (by omega)
              have ht0 : (th != (nh : Int)) = false := by simp [hth]
              have HTHE := Lib.hid hth
              clear hpa HAL1 HPS1
              go_wp2_with fail
              go_loopw [137, 18, 19] (fun iv sv av w' => ∃ j : Nat, j ≤ nh ∧ iv = .int .i64 j ∧ sv = .int .i64 (sumTo PF j) ∧ av = .bool (allP PF j) ∧ w' = w10) (fun iv _ _ _ => nh - (intOf iv).toNat)
              case atStart => exact ⟨0, Nat.zero_le _, rfl, rfl, rfl, rfl⟩
              case round =>
                obtain ⟨j, hj, rfl, rfl, rfl, rfl⟩ := hrel
                by_cases hlj : j < nh
                · obtain ⟨bp, op, xp, hbp, hxp, ec⟩ := (HSB.out.row_rd (i := 6) rfl).int hlj
                  cases hbp
                  simp only [Nat.zero_add] at ec
                  have hxe : xp = PF j := by
                    rw [gl_at _ hlj] at hxp
                    exact (Option.some.inj hxp).symm
                  subst hxe
                  have hpb := HPTB1.out j hlj
                  have hsb := sumTo_bd (f := PF) (a := 0) (b := 300) (n := j) (fun i hi => HPTB1.out i (by omega))
                  have HT1 : Hid (sumTo PF (j + 1) = sumTo PF j + PF j) := Lib.hid rfl
                  have HT2 : Hid (allP PF (j + 1) = (allP PF j && decide (0 < PF j))) := Lib.hid rfl
                  generalize sumTo PF j = sp at *
                  generalize PF j = y at *
                  generalize allP PF j = ab at *
                  clear hxp
                  cases ab with
                  | false =>
                    go_wp2_with fail
                    go_roundw
                    case rel => exact ⟨j + 1, by omega, by go_num, by rw [HT1.out], by rw [HT2.out]; rfl, by first | rfl | trivial⟩
                    case measure => simp [intOf]; omega
                  | true =>
                    have HDY : Hid (allP PF (j + 1) = decide (0 < y)) := Lib.hid (by rw [HT2.out]; simp)
                    go_wp2_with fail
                    go_roundw
                    case rel => exact ⟨j + 1, by omega, by go_num, by rw [HT1.out], by rw [HDY.out], by first | rfl | trivial⟩
                    case measure => simp [intOf]; omega
                · obtain rfl : nh = j := by omega
                  have HSE := Lib.hid (HSB.out.sub (L' := [_, _]) (List.sublist_append_left [_, _] [_, _, _, _, _]))
                  have x1 := HSB.out.blk_cell (i := 2) rfl 1
                  have x2 := HSB.out.blk_cell (i := 2) rfl 2
                  generalize allP PF nh = ab at *
                  cases ab with
                  | false =>
                    clear HPS2
                    go_wp2_with fail
                    go_roundw
                    case rel => exact ⟨k + 1, by omega, by go_num, HSE.out⟩
                    case measure => simp [intOf]; omega
                  | true =>
                    have hsm := HPS2.out (by trivial)
                    have hs1 : (sumTo PF nh != 2 * (nh : Int) - pa) = false := by simp [hsm]
                    have HSM := Lib.hid hsm
                    clear HPS2 hsm
                    generalize sumTo PF nh = sm at *
                    go_wp2_with fail
                    go_roundw
                    case rel => exact ⟨k + 1, by omega, by go_num, HSE.out⟩
                    case measure => simp [intOf]; omega
        · have HB := Lib.hid (HDE.out wr S.bel)
          have HS := Lib.hid S
          clear S
          go_wp2_with (go_at_call 7; refine HB.out.mono ?_; rintro e w' ⟨rfl, hb⟩; have HBE := Lib.hid (HS.out.ext hb).bel; clear hb)
          go_ret
          exact ⟨rfl, HBE.out⟩
end Go.Proofs.YtnaafefcijgpkaaGreatDoor
/- linksSame, of two equal boards. -/
namespace Go.Proofs.YtnaafefcijgpkaaGreatDoor
open Go.RowKit Go.Mem Go.Sheet Go.Adj
theorem neq_sd (w : World) (xn : ByteArray) (xt xp : Int) : (binOp .neq 44 (.agg #[.string xn, .int .i64 xt, .int .i64 xp]) (.agg #[.string xn, .int .i64 xt, .int .i64 xp])).run Tryz.prog w = .ok (.bool false) w := by
  rw [run_neq_struct, run_equalIn_agg w 9999 _ _ _ (by kernel_rfl) (by kernel_rfl)]
  have hf : (Tryz.prog.fieldsOf 44).toList.map (fun f => (f.name != "_", f.type, f.offset)) = [(true, 9, 0), (true, 3, 1), (true, 3, 2)] := by kernel_rfl
  generalize (Tryz.prog.fieldsOf 44).toList = L at *
  have hL : ∃ f1 f2 f3, L = [f1, f2, f3] := by
    match L, congrArg List.length hf with
    | [f1, f2, f3], _ => exact ⟨f1, f2, f3, rfl⟩
  obtain ⟨f1, f2, f3, rfl⟩ := hL
  obtain ⟨⟨h1, h2, h3⟩, ⟨h4, h5, h6⟩, h7, h8, h9⟩ : (f1.name ≠ "_" ∧ f1.type = 9 ∧ f1.offset = 0) ∧ (f2.name ≠ "_" ∧ f2.type = 3 ∧ f2.offset = 1) ∧ (f3.name ≠ "_" ∧ f3.type = 3 ∧ f3.offset = 2) := by simpa using hf
  simp only [Op.eqFields, h2, h3, h5, h6, h8, h9]
  simp [go_sem, Tryz.underlying3, Tryz.underlying9, h1, h4, h7]
theorem rd_pcS {w : World} {S : Nat → Prop} {n : Nat} {A : Option Addr} {m c k : Nat} {Y : Nat → SdI} (h : Rd w S 3 (.slice A m c) n (pcS Y n)) (hk : k < n) :
    ∃ b o, A = some ⟨b, o, none⟩ ∧ w.cell? ⟨b, o + k * 3, none⟩ = some (.string (Y k).name) ∧ w.cell? ⟨b, o + k * 3 + 1, none⟩ = some (.int .i64 (Y k).th) ∧ w.cell? ⟨b, o + k * 3 + 2, none⟩ = some (.int .i64 (Y k).par) := by
  obtain ⟨b, o, e, _, hb, hc⟩ := h.addr (by omega)
  exact ⟨b, o, e, hc _ _ (pcS_at Y (a := k) (b := 0) hk (by decide)), hc _ _ (pcS_at Y (a := k) (b := 1) hk (by decide)), hc _ _ (pcS_at Y (a := k) (b := 2) hk (by decide))⟩
set_option maxRecDepth 100000 in
set_option maxHeartbeats 8000000 in
theorem linksSame_any (W : World) (va vb : Value) (n : Nat) (Y : Nat → SdI) (ha : Rd W (· < W.heap.size) 3 va n (pcS Y n)) (hb : Rd W (· < W.heap.size) 3 vb n (pcS Y n)) :
    Calls Tryz.prog 17 #[va, vb] W fun e w' => e = .returned (.bool true) ∧ Below W.heap.size W w' := by
  have hn := ha.le
  obtain ⟨A, ca, rfl, _, _, ha⟩ := ha.open_
  obtain ⟨B, cb, rfl, _, _, hb⟩ := hb.open_
  have HRA0 : Hid (∀ w, Below W.heap.size W w → Rd w (· < w.heap.size) 3 (.slice A n ca) n (pcS Y n)) := Lib.hid (fun w h => ha.later h)
  have HRB0 : Hid (∀ w, Below W.heap.size W w → Rd w (· < w.heap.size) 3 (.slice B n cb) n (pcS Y n)) := Lib.hid (fun w h => hb.later h)
  clear ha hb
  have S0 := St.refl W
  go_enter Tryz.func17, Tryz.ntmps17
  go_wp2_with fail
  go_loopw [13] (fun i w' => ∃ k : Nat, k ≤ n ∧ i = .int .i64 k ∧ St W w' []) (fun i _ => n - (intOf i).toNat)
  case atStart => exact ⟨0, Nat.zero_le _, rfl, S0⟩
  case round =>
    obtain ⟨k, hk, rfl, S⟩ := hrel
    clear S0
    have HS := Lib.hid S
    by_cases hlt : k < n
    · obtain ⟨b1, o1, rfl, _⟩ := rd_pcS (HRA0.out wr S.bel) hlt
      obtain ⟨b2, o2, rfl, _⟩ := rd_pcS (HRB0.out wr S.bel) hlt
      have HRA : Hid (∀ w, Below W.heap.size W w → w.cell? ⟨b1, o1 + k * 3, none⟩ = some (.string (Y k).name) ∧ w.cell? ⟨b1, o1 + k * 3 + 1, none⟩ = some (.int .i64 (Y k).th) ∧ w.cell? ⟨b1, o1 + k * 3 + 2, none⟩ = some (.int .i64 (Y k).par)) := Lib.hid (fun w h => by
        obtain ⟨b', o', e, hc⟩ := rd_pcS (HRA0.out w h) hlt
        cases e
        exact hc)
      have HRB : Hid (∀ w, Below W.heap.size W w → w.cell? ⟨b2, o2 + k * 3, none⟩ = some (.string (Y k).name) ∧ w.cell? ⟨b2, o2 + k * 3 + 1, none⟩ = some (.int .i64 (Y k).th) ∧ w.cell? ⟨b2, o2 + k * 3 + 2, none⟩ = some (.int .i64 (Y k).par)) := Lib.hid (fun w h => by
        obtain ⟨b', o', e, hc⟩ := rd_pcS (HRB0.out w h) hlt
        cases e
        exact hc)
      clear S
      generalize Y k = x at *
      obtain ⟨xn, xt, xp⟩ := x
      simp only at HRA HRB
      go_wp2_with fail
      refine wp_cls 8 (fun w' => St W w' []) (by kernel_rfl) (by kernel_rfl) HS.out.drew ?_
      simp only [List.take_succ_cons, List.take_zero, List.drop_succ_cons, List.drop_zero]
      generalize hK : (fun w' => St W w' []) = K
      intro hne
      have kS : ∀ y : Wd K, St W y.w [] := by subst hK; exact fun y => y.h
      have hK3 : ∀ w w' : World, K w → Below w.heap.size w w' → K w' := by subst hK; exact fun w w' h h' => h.ext h'
      have k0 : ∀ y : Wd K, y.w.cell? ⟨b1, o1 + k * 3, none⟩ = some (.string xn) := fun y => (HRA.out y.w (kS y).bel).1
      have k1 : ∀ y : Wd K, y.w.cell? ⟨b1, o1 + k * 3 + 1, none⟩ = some (.int .i64 xt) := fun y => (HRA.out y.w (kS y).bel).2.1
      have k2 : ∀ y : Wd K, y.w.cell? ⟨b1, o1 + k * 3 + 2, none⟩ = some (.int .i64 xp) := fun y => (HRA.out y.w (kS y).bel).2.2
      have k3 : ∀ y : Wd K, y.w.cell? ⟨b2, o2 + k * 3, none⟩ = some (.string xn) := fun y => (HRB.out y.w (kS y).bel).1
      have k4 : ∀ y : Wd K, y.w.cell? ⟨b2, o2 + k * 3 + 1, none⟩ = some (.int .i64 xt) := fun y => (HRB.out y.w (kS y).bel).2.1
      have k5 : ∀ y : Wd K, y.w.cell? ⟨b2, o2 + k * 3 + 2, none⟩ = some (.int .i64 xp) := fun y => (HRB.out y.w (kS y).bel).2.2
      have KS := Lib.hid kS
      have HKK := Lib.hid hK3
      clear hK kS hK3
      go_big_quiet_step ((fail))
      go_big_quiet_step ((fail))
      go_big_quiet_step ((fail))
      go_big_quiet_step ((fail))
      go_big_quiet_step ((fail))
      go_big_quiet_step ((fail))
      go_big_quiet_step ((fail))
      go_big_quiet_step ((fail))
      refine wpQuiet_nil ?_
      intro y
      have SY := Lib.hid (KS.out y)
      clear k0 k1 k2 k3 k4 k5 KS HKK hne HS
      generalize y.w = wy at *
      have q1 := fun x y w => eqg_std .neq x y #[.string xn, .int .i64 xt, .int .i64 xp] #[.string xn, .int .i64 xt, .int .i64 xp] w
      have q2 := fun w => neq_sd w xn xt xp
      go_wp2_with fail
      go_roundw
      case rel => exact ⟨k + 1, by omega, by go_num, SY.out⟩
      case measure => simp [intOf]; omega
    · obtain rfl : n = k := by omega
      clear S
      go_wp2_with fail
      go_ret
      exact ⟨rfl, HS.out.bel⟩
end Go.Proofs.YtnaafefcijgpkaaGreatDoor
