/- Part 26 of the walks of the golf union's program: UF33. -/
import Derived.Test.YtnaafefcijgpkaaGreatDoorB25
set_option linter.unusedVariables false
set_option linter.unusedSimpArgs false
set_option linter.unusedSectionVars false
set_option linter.constructorNameAsVariable false
/- Follow. -/
namespace Go.Proofs.YtnaafefcijgpkaaGreatDoor
open Go.RowKit Go.Mem Go.Sheet Go.Adj
def FwPost (W : World) (u : UI) (n : Nat) (Y : Nat → MsI) (e : Ending) (w' : World) : Prop :=
  ∃ (m : Nat) (τ : Nat → Nat) (YP : Nat → MsI) (v : Value), e = .returned (.tuple #[v, .int .i64 0]) ∧ Shw n m τ ∧ (Cmp Y n → m = n ∧ ∀ a, a < n → τ a = a) ∧ PermG (fun a => Y (τ a)) YP m ∧ St W w' [row 44 3 v (brdN u (wrE u.ms u.nh YP m)) (pcS (brdF u (wrE u.ms u.nh YP m)) (brdN u (wrE u.ms u.nh YP m)))]
set_option maxRecDepth 100000 in
set_option maxHeartbeats 16000000 in
theorem uFollow_any (W : World) (u : UI) (v : Value) (n : Nat) (Y : Nat → MsI) (hg : GoodU u 256 200) (hnm : u.nm ≤ 19) (hu : RdU W (· < W.heap.size) u) (hn : n ≤ 39) (h : Rd W (· < W.heap.size) 6 v n (pcM Y n)) (ho : ∀ i j, i < j → j < n → ltM (Y i) (Y j)) (hgm : ∀ i, i < n → GoodM (Y i)) (hme : ∀ i, i < n → (∃ k, k < u.nm ∧ (mbAt u.ms k).name = (Y i).plr) ∧ (1 ≤ (Y i).hole ∧ (Y i).hole ≤ (u.nh : Int)) ∧ GoodE ⟨(Y i).s, (Y i).m⟩) :
    Calls Tryz.prog 14 #[u.val, .agg #[v]] W fun e w' => FwPost W u n Y e w' := by
  have HME := Lib.hid hme
  have HM2 := Lib.hid hg.mb2
  have hlm : u.nm = u.ms.length := hu.m.count (f := MbI.cells) (size := 3) (fun _ => rfl) (by decide)
  have hnh : u.nh ≤ 36 := goodU_nh hg (hu.h.count (f := HI.cells) (size := 2) (fun _ => rfl) (by decide))
  have HMI : Hid (∀ k, k < u.nm → memI u.ms (mbAt u.ms k).name = (k : Int)) := Lib.hid (fun k hk => mem_self hg hlm hk)
  obtain ⟨BRN, hbrn⟩ : ∃ F, F = brdN u := ⟨_, rfl⟩
  obtain ⟨BRF, hbrf⟩ : ∃ F, F = brdF u := ⟨_, rfl⟩
  have HBF : Hid (∀ (w : World) (E : Nat → List EI) (gp : Nat), Below W.heap.size W w → (∀ k i, k < u.nm → i < u.nh → GoodE (eAt (E k) i)) → (∀ k, k < u.nm → ∀ w1, Below w.heap.size w w1 → Calls Tryz.prog 41 (#[.string (mbAt u.ms k).name] ++ #[.pointer (some ⟨gp, 0, none⟩)]) w1 fun e w' => ∃ v, e = .returned v ∧ Below w1.heap.size w1 w' ∧ Rd w' (· < w'.heap.size) 2 v u.nh ((E k).flatMap EI.cells)) →
    Calls Tryz.prog 22 #[u.val, .func (.func 41) #[] #[.pointer (some ⟨gp, 0, none⟩)]] w fun e w' => ∃ v, e = .returned v ∧ St w w' [row 44 3 v (BRN E) (pcS (BRF E) (BRN E))]) := Lib.hid (fun w E gp hb h1 h2 => by
    rw [hbrn, hbrf]
    exact uBoardF_any w u E gp hnm hnh hg.hs (fun i hi => ⟨(hg.mb i hi).2.1, (hg.mb i hi).2.2.1⟩) (fun k hk i hi => h1 k i hk hi) (hu.later hb) h2)
  suffices hs : Calls Tryz.prog 14 #[u.val, .agg #[v]] W fun e w' => ∃ (m : Nat) (τ : Nat → Nat) (YP : Nat → MsI) (v : Value), e = .returned (.tuple #[v, .int .i64 0]) ∧ Shw n m τ ∧ (Cmp Y n → m = n ∧ ∀ a, a < n → τ a = a) ∧ PermG (fun a => Y (τ a)) YP m ∧ St W w' [row 44 3 v (BRN (wrE u.ms u.nh YP m)) (pcS (BRF (wrE u.ms u.nh YP m)) (BRN (wrE u.ms u.nh YP m)))] by
    rw [hbrn, hbrf] at hs
    exact hs
  clear hbrn hbrf hme hlm
  have HCF : Hid (∀ w, Below W.heap.size W w → Calls Tryz.prog 33 #[.agg #[v]] w fun e w' => e = .returned (.int .i64 0) ∧ Below w.heap.size w w') := Lib.hid (fun w hw => uChkFol_ok w _ n Y (by omega) (h.later hw) hgm (fun i hi => ho i (i + 1) (by omega) hi))
  have HSH : Hid (∀ w, Below W.heap.size W w → Calls Tryz.prog 36 #[.agg #[v]] w fun e w' => ShPost w n Y e w') := Lib.hid (fun w hw => shown_any w v n Y (by omega) (h.later hw) (fun i hi => ⟨(hgm i hi).n1, (hgm i hi).n2⟩))
  have HCU : Hid (∀ w, Below W.heap.size W w → Calls Tryz.prog 21 #[u.val] w fun e w' => e = .returned (.int .i64 0) ∧ Below w.heap.size w w') := Lib.hid (fun w hw => uCheckUnion_ok w u hg (hu.later hw))
  obtain ⟨A, c, rfl, _, _, h⟩ := h.open_
  obtain ⟨Am, cm, em, _, _, _⟩ := hu.m.open_
  obtain ⟨Ah, ch, eh, _, _, _⟩ := hu.h.open_
  have HRU : Hid (∀ w, Below W.heap.size W w → RdU w (· < w.heap.size) u) := Lib.hid (fun w hw => hu.later hw)
  clear h ho hgm hg hu
  obtain ⟨vc, nc, cl0, vm, nm, ms, vh, nh, hs, vk, nk, ks, vs, ns, sg, vp, np, ps⟩ := u
  simp only [UI.val] at *
  subst em eh
  obtain ⟨AU, hAU⟩ : ∃ A : Array Value, A = #[vc, .slice Am nm cm, .slice Ah nh ch, vk, vs, vp] := ⟨_, rfl⟩
  have HAU := Lib.hid hAU
  have S0 := ((St.refl W).blk_new AU 28).blk_new #[.slice A n c] 71
  simp only [List.cons_append, List.nil_append, World.size_alloc] at S0
  have HS := Lib.hid S0
  clear S0
  go_enter Tryz.func14, Tryz.ntmps14
  go_wp2_with fail
  rw [← hAU] at ⊢
  obtain ⟨g2, hg2⟩ : ∃ g, g = W.heap.size := ⟨_, rfl⟩
  obtain ⟨g3, hg3⟩ : ∃ g, g = W.heap.size + 1 := ⟨_, rfl⟩
  rw [← hg3, ← hg2] at HS
  rw [← hg3, ← hg2]
  generalize (W.alloc (.cells AU 28)).alloc (.cells #[.slice A n c] 71) = w1 at *
  clear hg2 hg3
  refine wp_cls 4 (fun w' => St W w' [blk g2 28 AU, blk g3 71 #[.slice A n c]]) (by kernel_rfl) (by kernel_rfl) HS.out.drew ?_
  simp only [List.take_succ_cons, List.take_zero, List.drop_succ_cons, List.drop_zero]
  generalize hK : (fun w' => St W w' [blk g2 28 AU, blk g3 71 #[.slice A n c]]) = K
  intro hne
  have kS : ∀ y : Wd K, St W y.w [blk g2 28 AU, blk g3 71 #[.slice A n c]] := by subst hK; exact fun y => y.h
  have hK3 : ∀ w w' : World, K w → Below w.heap.size w w' → K w' := by subst hK; exact fun w w' h h' => h.ext h'
  have k0 : ∀ y : Wd K, y.w.cell? ⟨g2, 0, none⟩ = some (vc) := fun y => by have h := (kS y).blk_cell (i := 0) rfl 0; rw [HAU.out] at h; exact h
  have k1 : ∀ y : Wd K, y.w.cell? ⟨g2, 1, none⟩ = some (.slice Am nm cm) := fun y => by have h := (kS y).blk_cell (i := 0) rfl 1; rw [HAU.out] at h; exact h
  have k2 : ∀ y : Wd K, y.w.cell? ⟨g2, 2, none⟩ = some (.slice Ah nh ch) := fun y => by have h := (kS y).blk_cell (i := 0) rfl 2; rw [HAU.out] at h; exact h
  have k3 : ∀ y : Wd K, y.w.cell? ⟨g2, 3, none⟩ = some (vk) := fun y => by have h := (kS y).blk_cell (i := 0) rfl 3; rw [HAU.out] at h; exact h
  have k4 : ∀ y : Wd K, y.w.cell? ⟨g2, 4, none⟩ = some (vs) := fun y => by have h := (kS y).blk_cell (i := 0) rfl 4; rw [HAU.out] at h; exact h
  have k5 : ∀ y : Wd K, y.w.cell? ⟨g2, 5, none⟩ = some (vp) := fun y => by have h := (kS y).blk_cell (i := 0) rfl 5; rw [HAU.out] at h; exact h
  have k6 : ∀ y : Wd K, y.w.cell? ⟨g3, 0, none⟩ = some (.slice A n c) := fun y => (kS y).blk_cell (i := 1) rfl 0
  have KS := Lib.hid kS
  have HKK := Lib.hid hK3
  clear hK kS hK3
  go_big_quiet_step ((fail))
  go_big_quiet_step ((go_at_call 21; exact cls_below HKK.out (HCU.out _ (KS.out _).bel)))
  go_big_quiet_step ((fail))
  go_big_quiet_step ((go_at_call 33; exact cls_below HKK.out (HCF.out _ (KS.out _).bel)))
  refine wpQuiet_nil ?_
  intro y
  have SY := Lib.hid (KS.out y)
  clear k0 k1 k2 k3 k4 k5 k6 KS HKK hne HS
  generalize y.w = wy at *
  have S8 := SY.out.alloc (.cells #[.int .i64 0, .int .i64 0] 38)
  have HS8 := Lib.hid S8
  have e0 := S8.blk_cell (i := 1) rfl 0
  clear S8 SY
  go_wp2_with (go_at_call 32; refine (uOk2 _ _ (by simp) (by simp) (by simp)).mono ?_; rintro e w' ⟨rfl, rfl⟩)
  refine (HSH.out _ HS8.out.bel).mono ?_
  rintro e w5 ⟨vl, m, τ, vg, ng, gs, rfl, S5, hsh, hfu⟩
  have S6 := HS8.out.call S5
  simp only [List.cons_append, List.nil_append] at S6
  have HSW := Lib.hid hsh
  have HFU := Lib.hid hfu
  have hmn := hsh.le2
  have HSO := Lib.hid (sortR_any W w5 _ 2 m vl (fun a => Y (τ a)) (by omega) S6 rfl)
  clear hsh hfu S5 S6 HS8 HCU HCF HSH e0
  go_wp2_with fail
  refine HSO.out.mono ?_
  rintro e w6 ⟨rfl, YP, hyp, S6⟩
  simp only [List.set_cons_succ, List.set_cons_zero] at S6
  have HYP := Lib.hid hyp
  obtain ⟨Bl, cl, rfl, _, _, _⟩ := (S6.row_rd (i := 2) rfl).open_
  have HS6 := Lib.hid (S6.sub (L' := [_, _, _]) (List.sublist_append_left [_, _, _] [_]))
  clear hyp S6 HSO
  have hmm := @run_makeMap Tryz.prog
  have S7 := (HS6.out.mapS_new).blk_new #[.map (some w6.heap.size)] 113
  simp only [List.cons_append, List.nil_append, World.size_alloc] at S7
  have u0 := S7.blk_cell (i := 0) rfl 1
  rw [HAU.out] at u0
  go_wp2_with fail
  obtain ⟨gm, hgm⟩ : ∃ g, g = w6.heap.size := ⟨_, rfl⟩
  obtain ⟨gp, hgp⟩ : ∃ g, g = w6.heap.size + 1 := ⟨_, rfl⟩
  rw [← hgp, ← hgm] at S7
  rw [← hgp, ← hgm]
  generalize (w6.alloc (.map #[] 0)).alloc (.cells #[.map (some gm)] 113) = w7 at *
  have S8 := S7.rowsE_nil 65 (fun _ => 0) nh (fun _ => List.replicate nh ⟨0, bd⟩)
  simp only [List.cons_append, List.nil_append] at S8
  have HS8 := Lib.hid S8
  clear S7 S8 u0 hgm hgp hmm HS6
  obtain ⟨π, hp1, hp2, hp3⟩ := HYP.out
  have HPL : Hid (∀ j, j < m → ∃ kk, kk < nm ∧ (mbAt ms kk).name = (YP j).plr) := Lib.hid (fun j hj => by rw [hp3 j]; exact (HME.out _ (HSW.out.lt _ (hp1 j hj))).1)
  have HHL : Hid (∀ j, j < m → 1 ≤ (YP j).hole ∧ (YP j).hole ≤ (nh : Int)) := Lib.hid (fun j hj => by rw [hp3 j]; exact (HME.out _ (HSW.out.lt _ (hp1 j hj))).2.1)
  have HGD : Hid (∀ a, a < m → 1 ≤ (YP a).hole ∧ GoodE ⟨(YP a).s, (YP a).m⟩) := Lib.hid (fun j hj => by
    have h := (HME.out _ (HSW.out.lt _ (hp1 j hj))).2
    rw [hp3 j]
    exact ⟨h.1.1, h.2⟩)
  clear hp1 hp2 hp3
  obtain ⟨FN, hFN⟩ : ∃ F : Nat → ByteArray, F = fun i => (mbAt ms i).name := ⟨_, rfl⟩
  have HFN : Hid (∀ i, FN i = (mbAt ms i).name) := Lib.hid (fun i => by rw [hFN])
  have HFD : Hid (∀ a b, a < nm → b < nm → FN a = FN b → a = b) := Lib.hid (fun a b ha hb e => by
    rw [HFN.out, HFN.out] at e
    rcases Nat.lt_trichotomy a b with h | h | h
    · exact absurd e (HM2.out b a hb h)
    · exact h
    · exact absurd e.symm (HM2.out a b ha h))
  clear hFN
  go_loopw [35] (fun i w' => ∃ (k : Nat) (G : Nat → Nat), k ≤ nm ∧ i = .int .i64 k ∧ St W w' [blk g2 28 AU, blk g3 71 #[.slice A n c], row 69 6 (.slice Bl m cl) m (pcM YP m), mapS gm (entV FN (vgE G nh) k) k, blk gp 113 #[.map (some gm)], rowsE 65 G k nh (fun _ => List.replicate nh ⟨0, bd⟩)]) (fun i _ => nm - (intOf i).toNat)
  case atStart => exact ⟨0, fun _ => 0, Nat.zero_le _, rfl, HS8.out⟩
  case round =>
    obtain ⟨k, G, hk, rfl, S⟩ := hrel
    clear HS8
    by_cases hlt : k < nm
    · obtain ⟨b, o, rfl, hx, c0, c1, c2⟩ := rd_mb (HRU.out wr S.bel).m hlt
      have HXN : Hid (FN k = (mbAt ms k).name) := Lib.hid (HFN.out k)
      have HNO : Hid (∀ i, i < k → FN i ≠ (mbAt ms k).name) := Lib.hid (fun i hi => by rw [HFN.out i]; exact HM2.out k i hlt hi)
      clear hx
      generalize mbAt ms k = x at *
      obtain ⟨xn, xc, xo⟩ := x
      simp only at c0 c1 c2 HNO HXN
      have SA := S.blk_new #[.string xn, .string xc, .int .i64 xo] 52
      simp only [List.cons_append, List.nil_append] at SA
      have HS := Lib.hid SA
      clear S SA
      go_wp2_with fail
      clear c0 c1 c2
      generalize wr.heap.size = gx at *
      generalize wr.alloc (.cells #[.string xn, .string xc, .int .i64 xo] 52) = w3 at *
      refine wp_head_tail3 0 9 3 [] [0, 1, 2, 5, 6, 7] rfl (fun w' => St W w' [blk g2 28 AU, blk g3 71 #[.slice A n c], row 69 6 (.slice Bl m cl) m (pcM YP m), mapS gm (entV FN (vgE G nh) k) k, blk gp 113 #[.map (some gm)], rowsE 65 G k nh (fun _ => List.replicate nh ⟨0, bd⟩), blk gx 52 #[.string xn, .string xc, .int .i64 xo]])
        (fun a a' w' => ∃ gk g : Nat, a' = (((a.put (some 42) (.agg #[.int .i64 0, .string ⟨#[45]⟩])).put (some 43) (.slice (some ⟨gk, 0, none⟩) 1 1)).put (some 47) (.slice (some ⟨g, 0, none⟩) nh nh)) ∧ St W w' [blk g2 28 AU, blk g3 71 #[.slice A n c], row 69 6 (.slice Bl m cl) m (pcM YP m), mapS gm (entV FN (vgE G nh) k) k, blk gp 113 #[.map (some gm)], rowsE 65 G k nh (fun _ => List.replicate nh ⟨0, bd⟩), blk gx 52 #[.string xn, .string xc, .int .i64 xo], blk gk 65 #[.int .i64 0, .string ⟨#[45]⟩], row 65 2 (.slice (some ⟨g, 0, none⟩) nh nh) nh ((List.replicate nh ⟨0, bd⟩).flatMap EI.cells)]) (by kernel_rfl) (by kernel_rfl) HS.out.drew ?_
      simp only [pick, List.filterMap_cons, List.filterMap_nil, List.getElem?_toArray, List.getElem?_cons_succ, List.getElem?_cons_zero]
      have HSD := Lib.hid HS.out.drew
      generalize hK : (fun w' : World => St W w' [blk g2 28 AU, blk g3 71 #[.slice A n c], row 69 6 (.slice Bl m cl) m (pcM YP m), mapS gm (entV FN (vgE G nh) k) k, blk gp 113 #[.map (some gm)], rowsE 65 G k nh (fun _ => List.replicate nh ⟨0, bd⟩), blk gx 52 #[.string xn, .string xc, .int .i64 xo]]) = K
      have kS : ∀ y : Wd K, St W y.w [blk g2 28 AU, blk g3 71 #[.slice A n c], row 69 6 (.slice Bl m cl) m (pcM YP m), mapS gm (entV FN (vgE G nh) k) k, blk gp 113 #[.map (some gm)], rowsE 65 G k nh (fun _ => List.replicate nh ⟨0, bd⟩), blk gx 52 #[.string xn, .string xc, .int .i64 xo]] := by subst hK; exact fun y => y.h
      have hne : Nonempty (Wd K) := ⟨⟨_, by subst hK; exact HSD.out⟩⟩
      have hKd : ∀ (w' : World) (M : List Asr), St W w' ([blk g2 28 AU, blk g3 71 #[.slice A n c], row 69 6 (.slice Bl m cl) m (pcM YP m), mapS gm (entV FN (vgE G nh) k) k, blk gp 113 #[.map (some gm)], rowsE 65 G k nh (fun _ => List.replicate nh ⟨0, bd⟩), blk gx 52 #[.string xn, .string xc, .int .i64 xo]] ++ M) → K w' := by
        intro w' M h
        subst hK
        exact h.sub (List.sublist_append_left _ _)
      have k0 : ∀ y : Wd K, y.w.cell? ⟨gp, 0, none⟩ = some (.map (some gm)) := fun y => (kS y).blk_cell (i := 4) rfl 0
      have k1 : ∀ y : Wd K, y.w.cell? ⟨gx, 0, none⟩ = some (.string xn) := fun y => (kS y).blk_cell (i := 6) rfl 0
      have k2 : ∀ y : Wd K, y.w.cell? ⟨g2, 2, none⟩ = some (.slice Ah nh ch) := fun y => by have h := (kS y).blk_cell (i := 0) rfl 2; rw [HAU.out] at h; exact h
      clear hK
      generalize w3.drew = w0 at *
      refine wpQuiet_nil ?_
      change wpQuiet _ _ _ _ (_ :: _ :: _ :: _ :: _ :: _ :: []) _
      repeat (go_big_quiet_step ((fail)))
      refine wpQuiet_nil ?_
      clear kS k0 k1 k2
      refine ⟨?_, ?_⟩
      · as_aux_lemma =>
        refine headW_all (rs := [3]) (by kernel_rfl) (by decide) (by decide) (List.forall_mem_cons.2 ⟨?_, List.forall_mem_nil _⟩)
        refine wpOp_list (o := _) rfl ?_
        intro Q' hQ'
        go_wp2_with fail
        refine ⟨hKd _ [] HSD.out, ?_⟩
        refine headW_all (rs := [4]) (by kernel_rfl) (by decide) (by decide) (List.forall_mem_cons.2 ⟨?_, List.forall_mem_nil _⟩)
        refine wpOp_list (o := _) rfl ?_
        intro Q' hQ'
        have SA := HSD.out.blk_new #[.int .i64 0, .string ⟨#[45]⟩] 65
        simp only [List.cons_append, List.nil_append] at SA
        go_wp2_with fail
        generalize w0.heap.size = gk at *
        generalize World.alloc w0 _ = w4 at *
        refine ⟨hKd _ _ SA, ?_⟩
        have HRP := Lib.hid (repeatN_any w4 gk nh ⟨0, bd⟩ (SA.blk_at (i := 7) rfl).2.2 (by omega))
        refine headW_all (rs := [8]) (by kernel_rfl) (by decide) (by decide) (List.forall_mem_cons.2 ⟨?_, List.forall_mem_nil _⟩)
        refine wpOp_list (o := _) rfl ?_
        intro Q' hQ'
        go_wp2_with (go_at_call 40; refine HRP.out.mono ?_; rintro e w5 ⟨g, rfl, S5⟩)
        have S6 := SA.call S5
        simp only [List.cons_append, List.nil_append] at S6
        refine ⟨hKd _ _ S6, ?_⟩
        exact ⟨by kernel_rfl, gk, g, by kernel_rfl, S6⟩
      · rintro a' w9 ⟨gk, g, rfl, S9⟩
        have HS9 := Lib.hid S9
        clear S9 hKd hne HSD HS
        refine wpList_mapUpdate_new rfl _ _ _ 113 rfl 9 45 Tryz.underlying9 Tryz.underlying113 HS9.out (i := 3) rfl rfl xn rfl (entV_none (fun i hi => HNO.out i hi)) (.slice (some ⟨g, 0, none⟩) nh nh) rfl ?_
        intro w10 S10
        simp only [List.set_cons_succ, List.set_cons_zero] at S10
        rw [← HXN.out, entV_grow FN G nh k g] at S10
        have S11 := S10.sub (L' := [blk g2 28 AU, blk g3 71 #[.slice A n c], row 69 6 (.slice Bl m cl) m (pcM YP m), mapS gm (entV FN (vgE (updN G k g) nh) (k + 1)) (k + 1), blk gp 113 #[.map (some gm)], rowsE 65 G k nh (fun _ => List.replicate nh ⟨0, bd⟩), row 65 2 (.slice (some ⟨g, 0, none⟩) nh nh) nh ((List.replicate nh ⟨0, bd⟩).flatMap EI.cells)]) (.cons_cons _ (.cons_cons _ (.cons_cons _ (.cons_cons _ (.cons_cons _ (.cons_cons _ (.cons _ (.cons _ (.cons_cons _ .slnil)))))))))
        have S12 := St.rowsE_push (L := [blk g2 28 AU, blk g3 71 #[.slice A n c], row 69 6 (.slice Bl m cl) m (pcM YP m), mapS gm (entV FN (vgE (updN G k g) nh) (k + 1)) (k + 1), blk gp 113 #[.map (some gm)]]) S11 (by simp)
        simp only [List.cons_append, List.nil_append, updN_const] at S12
        have HS12 := Lib.hid S12
        clear S10 S11 S12 HS9
        go_wp2_with fail
        refine NoPanic.normal ?_
        go_wp2_with fail
        go_roundw
        case rel => exact ⟨k + 1, updN G k g, by omega, by go_num, HS12.out⟩
        case measure => simp [intOf]; omega
    · obtain rfl : nm = k := by omega
      have HS := Lib.hid S
      clear S hlt hk
      go_wp2_with fail
      go_loopw [51] (fun i w' => ∃ j : Nat, j ≤ m ∧ i = .int .i64 j ∧ St W w' [blk g2 28 AU, blk g3 71 #[.slice A n c], row 69 6 (.slice Bl m cl) m (pcM YP m), mapS gm (entV FN (vgE G nh) nm) nm, blk gp 113 #[.map (some gm)], rowsE 65 G nm nh (wrE ms nh YP j)]) (fun i _ => m - (intOf i).toNat)
      case atStart => exact ⟨0, Nat.zero_le _, rfl, HS.out⟩
      case round =>
        obtain ⟨j, hj, rfl, S⟩ := hrel
        clear HS
        by_cases hlt : j < m
        · obtain ⟨b1, o1, rfl, _, c0, c1, c2, c3, c4, c5⟩ := rd_pcM (S.row_rd (i := 2) rfl) hlt
          obtain ⟨kk, hkk, hnx⟩ := HPL.out j hlt
          obtain ⟨hh1, hh2⟩ := HHL.out j hlt
          have hmi : memI ms (YP j).plr = (kk : Int) := by rw [← hnx]; exact HMI.out kk hkk
          obtain ⟨hz, hhz⟩ : ∃ z : Nat, (YP j).hole - 1 = (z : Int) := ⟨((YP j).hole - 1).toNat, by omega⟩
          have hhw : IntKind.i64.wrap ((YP j).hole - 1) = (hz : Int) := by rw [hhz]; exact IntWalk.i64_in _ (by omega)
          have HWR : Hid (wrE ms nh YP (j + 1) = updN (wrE ms nh YP j) kk ((wrE ms nh YP j kk).set hz ⟨(YP j).s, (YP j).m⟩)) := Lib.hid (by
            rw [wr_succ, hmi, hhz, Int.toNat_natCast, Int.toNat_natCast])
          obtain ⟨q, hq⟩ := entV_some (f := FN) (V := vgE G nh) hkk HFD.out
          have hfn : FN kk = (YP j).plr := (HFN.out kk).trans hnx
          rw [hfn] at hq
          clear hmi hnx hfn
          generalize hE1 : wrE ms nh YP (j + 1) = E1 at *
          have HE1 := Lib.hid hE1
          clear hE1
          generalize wrE ms nh YP j = E0 at *
          generalize YP j = x at *
          obtain ⟨xd, xi, xp, xh, xs, xm⟩ := x
          simp only at c0 c1 c2 c3 c4 c5 hq hh1 hh2 hhz hhw HWR
          have hzn : hz < nh := by omega
          have t1 : decide (xh ≤ (nh : Int)) = true := decide_eq_true hh2
          obtain ⟨gq, hgq⟩ : ∃ g, g = G kk := ⟨_, rfl⟩
          have HGQ := Lib.hid hgq
          have hvq : vgE G nh kk = .slice (some ⟨gq, 0, none⟩) nh nh := by rw [hgq]; rfl
          rw [hvq] at hq
          clear hvq hgq
          have SA := S.blk_new #[.string xd, .int .i64 xi, .string xp, .int .i64 xh, .int .i64 xs, .string xm] 69
          simp only [List.cons_append, List.nil_append] at SA
          have HS := Lib.hid SA
          clear S
          have q0 := SA.blk_cell (i := 4) rfl 0
          have x2 := SA.blk_cell (i := 6) rfl 2
          have x3 := SA.blk_cell (i := 6) rfl 3
          have x4 := SA.blk_cell (i := 6) rfl 4
          have x5 := SA.blk_cell (i := 6) rfl 5
          have hl := run_lookupS_some 113 9 45 Tryz.underlying9 Tryz.underlying113 (SA.mapS_at (i := 3) rfl) xp q _ hq
          obtain ⟨e0, e1, ef⟩ := SA.rowsE_at (i := 5) rfl hkk hzn
          rw [← HGQ.out] at e0 e1 ef
          have e2 := ef (hz * 2)
          have e3 := ef (hz * 2 + 1)
          have HST : Hid (St W (((wr.alloc (.cells #[.string xd, .int .i64 xi, .string xp, .int .i64 xh, .int .i64 xs, .string xm] 69)).setCell ⟨gq, hz * 2, none⟩ (.int .i64 xs)).setCell ⟨gq, hz * 2 + 1, none⟩ (.string xm)) [blk g2 28 AU, blk g3 71 #[.slice A n c], row 69 6 (.slice (some ⟨b1, o1, none⟩) m cl) m (pcM YP m), mapS gm (entV FN (vgE G nh) nm) nm, blk gp 113 #[.map (some gm)], rowsE 65 G nm nh E1, blk wr.heap.size 69 #[.string xd, .int .i64 xi, .string xp, .int .i64 xh, .int .i64 xs, .string xm]]) := Lib.hid (by
            have h := SA.rowsE_set (i := 5) rfl hkk hzn ⟨xs, xm⟩
            simp only [List.set_cons_succ, List.set_cons_zero] at h
            rw [← HWR.out, ← HGQ.out] at h
            exact h)
          generalize eAt (E0 kk) hz = ev at *
          obtain ⟨es, em⟩ := ev
          simp only at e0 e1
          clear hq ef SA
          go_wp2_with fail
          have HSF := Lib.hid (HST.out.sub (L' := [_, _, _, _, _, _]) (List.sublist_append_left [_, _, _, _, _, _] [_]))
          clear HST HS
          go_roundw
          case rel => exact ⟨j + 1, by omega, by go_num, by rw [HE1.out]; exact HSF.out⟩
          case measure => simp [intOf]; omega
        · obtain rfl : m = j := by omega
          have HS := Lib.hid S
          clear S
          have HB : Hid (Calls Tryz.prog 22 #[.agg #[vc, .slice Am nm cm, .slice Ah nh ch, vk, vs, vp], .func (.func 41) #[] #[.pointer (some ⟨gp, 0, none⟩)]] wr fun e w' => ∃ v, e = .returned v ∧ St wr w' [row 44 3 v (BRN (wrE ms nh YP m)) (pcS (BRF (wrE ms nh YP m)) (BRN (wrE ms nh YP m)))]) := Lib.hid (HBF.out wr _ gp HS.out.bel (fun k i hk hi => wr_good ms nh YP m k i hi HGD.out) (fun k hk w hb => by
            have SW := HS.out.ext hb
            rw [← HFN.out k]
            refine (follow2_any W w _ 4 3 gp gm nm k FN (vgE G nh) SW rfl rfl hk HFD.out).mono ?_
            rintro e w2 ⟨rfl, rfl⟩
            exact ⟨_, rfl, Below.refl _ _, SW.rowsE_rd (i := 5) rfl hk (by unfold maxLen; omega)⟩))
          have d0 := HS.out.blk_cell (i := 0) rfl 0
          have d1 := HS.out.blk_cell (i := 0) rfl 1
          have d2 := HS.out.blk_cell (i := 0) rfl 2
          have d3 := HS.out.blk_cell (i := 0) rfl 3
          have d4 := HS.out.blk_cell (i := 0) rfl 4
          have d5 := HS.out.blk_cell (i := 0) rfl 5
          rw [HAU.out] at d0 d1 d2 d3 d4 d5
          go_wp2_with (go_at_call 22; refine HB.out.mono ?_; rintro e w3 ⟨v, rfl, S3⟩; obtain ⟨Bv, dv, rfl, _, _, _⟩ := (S3.row_rd (i := 0) rfl).open_; have HS3 := Lib.hid S3; clear S3)
          go_ret2
          have S4 := HS.out.call HS3.out
          exact ⟨m, τ, YP, _, rfl, HSW.out, fun hc => ⟨(HFU.out hc).1, (HFU.out hc).2.2⟩, HYP.out, S4.sub (L' := [_]) (.cons _ (.cons _ (.cons _ (.cons _ (.cons _ (.cons _ (.cons_cons _ .slnil)))))))⟩
end Go.Proofs.YtnaafefcijgpkaaGreatDoor
