/- Part 8 of the walks of the golf union's program: A16. -/
import Derived.Test.YtcofdandmihilaaDoorB07
set_option linter.unusedVariables false
set_option linter.unusedSimpArgs false
set_option linter.unusedSectionVars false
set_option linter.constructorNameAsVariable false
/- TopAdjusted: the law. -/
namespace Go.Adj
def allF (es : List EI) : Nat → Bool
  | 0 => true
  | k + 1 => allF es k && !(decide ((eAt es k).m = bx))
theorem allF_no {es : List EI} : ∀ {n : Nat}, allF es n = true → ∀ i, i < n → (eAt es i).m ≠ bx
  | 0, _ => fun i hi => absurd hi (by omega)
  | n + 1, h => fun i hi => by
    rw [allF, Bool.and_eq_true] at h
    by_cases e : i = n
    · subst e; simpa using h.2
    · exact allF_no h.1 i (by omega)
theorem play_of {x : EI} (h : GoodE x) (hm : x.m ≠ bd) : PlayE x := by
  rcases h with h | ⟨h1 | h1, h2⟩
  · exact .inl h
  · exact .inr ⟨h1, h2⟩
  · exact absurd h1 hm
theorem pts_bd {hs : List HI} {es : List EI} {co : Int} (hg : GoodH hs) (hco : -99 ≤ co ∧ co ≤ 99) {k : Nat} (hk : k < hs.length) (he : 0 ≤ (eAt es k).s ∧ (eAt es k).s ≤ 99) : 0 ≤ ptsF hs es co k ∧ ptsF hs es co k ≤ 200 := by
  have h1 := hg.par k hk
  have h2 := giv_bd hg.len hco k
  unfold ptsF
  split <;> omega
end Go.Adj
namespace Go.Proofs.YtcofdandmihilaaDoor
open Go.RowKit Go.Mem Go.Sheet Go.Adj
set_option maxRecDepth 100000 in
set_option maxHeartbeats 8000000 in
theorem law_any (W : World) (v ve : Value) (n m : Nat) (hs : List HI) (es : List EI) (name : ByteArray) (co : Int) (hsz : name.size ≤ 9223372036854775807) (h : Rd W (· < W.heap.size) 2 v n (hs.flatMap HI.cells)) (he : Rd W (· < W.heap.size) 2 ve m (es.flatMap EI.cells)) :
    Calls Tryd.prog 3 #[v, .agg #[.string name, ve], .int .i64 co] W fun e w' => e = .returned (.bool true) ∧ Below W.heap.size W w' := by
  have HL := Lib.hid (h.count (f := HI.cells) (size := 2) (fun _ => rfl) (by decide))
  have hn63 := h.le
  have H := Lib.hid h
  have HE := Lib.hid he
  obtain ⟨A, c, rfl, _, _, _⟩ := h.open_
  obtain ⟨Ae, ce, rfl, _, _, _⟩ := he.open_
  clear h he
  have hb := (Below.refl W.heap.size W).alloc (Nat.le_refl _) (.cells #[.string name, .slice Ae m ce] 25)
  have c0 : (W.alloc (.cells #[.string name, .slice Ae m ce] 25)).cell? ⟨W.heap.size, 0, none⟩ = some (.string name) := by simp
  have c1 : (W.alloc (.cells #[.string name, .slice Ae m ce] 25)).cell? ⟨W.heap.size, 1, none⟩ = some (.slice Ae m ce) := by simp
  go_enter Tryd.func3, Tryd.ntmps3
  by_cases h18 : 18 < n
  · have t1 : decide (18 < (n : Int)) = true := by simp; omega
    have HB := Lib.hid hb
    clear hb
    go_wp2_with (go_at_call 6; refine (caddie_any _).mono ?_; rintro e w' ⟨rfl, hb2⟩; have HB2 := Lib.hid hb2; clear hb2)
    go_ret
    exact ⟨rfl, HB.out.trans (HB2.out.mono HB.out.size)⟩
  have t1 : decide (18 < (n : Int)) = false := by simp; omega
  go_wp2_with fail
  generalize W.alloc (.cells #[.string name, .slice Ae m ce] 25) = W1 at *
  have HB := Lib.hid hb
  clear hb
  have HCH := Lib.hid (refCheckHoles_any W1 _ n hs (H.out.later HB.out))
  generalize W.heap.size = gc at c0 c1 ⊢
  have hlt := World.block_lt_of_cell? _ _ c0
  go_at_call 4
  refine HCH.out.mono ?_
  rintro e w2 ⟨⟨ec, rfl, hg⟩, q, rfl⟩
  have hb2 := below_drewN (Below.refl W1.heap.size W1) q
  have d0 := (hb2.cell (p := ⟨gc, 0, none⟩) hlt).trans c0
  have d1 := (hb2.cell (p := ⟨gc, 1, none⟩) hlt).trans c1
  have HB2 := Lib.hid (HB.out.trans (hb2.mono HB.out.size))
  have HG := Lib.hid hg
  clear hg hb2 c0 c1 HB HCH hlt
  generalize W1.drewN q = w2 at *
  have hlt := World.block_lt_of_cell? _ _ d0
  by_cases h0 : ec = 0
  case neg =>
    have e0 : (ec != 0) = true := by simpa using h0
    clear h0
    go_wp2_with (go_at_call 6; refine (caddie_any _).mono ?_; rintro e w' ⟨rfl, hb3⟩; have HB3 := Lib.hid hb3; clear hb3)
    go_ret
    exact ⟨rfl, HB2.out.trans (HB3.out.mono HB2.out.size)⟩
  subst h0
  have HCC := Lib.hid (refCheckCard_any w2 _ _ n m hs es name hsz (H.out.later HB2.out) (HE.out.later HB2.out))
  go_wp2_with fail
  go_at_call 5
  refine HCC.out.mono ?_
  rintro e w3 ⟨⟨ec, rfl, hg⟩, hb3⟩
  have e0 := (hb3.cell (p := ⟨gc, 0, none⟩) hlt).trans d0
  have e1 := (hb3.cell (p := ⟨gc, 1, none⟩) hlt).trans d1
  have HB3 := Lib.hid (HB2.out.trans (hb3.mono HB2.out.size))
  have HGC := Lib.hid hg
  clear hg hb3 d0 d1 HB2 HCC hlt HG
  have hlt := World.block_lt_of_cell? _ _ e0
  by_cases h0 : ec = 0
  case neg =>
    have e0 : (ec != 0) = true := by simpa using h0
    clear h0
    go_wp2_with (go_at_call 6; refine (caddie_any _).mono ?_; rintro e w' ⟨rfl, hb4⟩; have HB4 := Lib.hid hb4; clear hb4)
    go_ret
    exact ⟨rfl, HB3.out.trans (HB4.out.mono HB3.out.size)⟩
  subst h0
  have hGC := HGC.out rfl
  clear HGC
  by_cases hc1 : co < -20
  · go_wp2_with (go_at_call 6; refine (caddie_any _).mono ?_; rintro e w' ⟨rfl, hb4⟩; have HB4 := Lib.hid hb4; clear hb4)
    go_ret
    exact ⟨rfl, HB3.out.trans (HB4.out.mono HB3.out.size)⟩
  by_cases hc2 : 60 < co
  · go_wp2_with (go_at_call 6; refine (caddie_any _).mono ?_; rintro e w' ⟨rfl, hb4⟩; have HB4 := Lib.hid hb4; clear hb4)
    go_ret
    exact ⟨rfl, HB3.out.trans (HB4.out.mono HB3.out.size)⟩
  obtain ⟨gH, gN, gM, gE⟩ := hGC
  rw [← HL.out] at gM
  subst gM
  have HGE := Lib.hid gE
  have HGH := Lib.hid gH
  have HGN := Lib.hid gN
  clear gH gN gE
  have hco : -99 ≤ co ∧ co ≤ 99 := by omega
  go_wp2_with fail
  have HP0 : Hid (sumTo (fun i => (hAt hs i).par) 0 = 0) := rfl
  have HPS0 : Hid (∀ k, sumTo (fun i => (hAt hs i).par) (k + 1) = sumTo (fun i => (hAt hs i).par) k + (hAt hs k).par) := fun _ => rfl
  have HPB : Hid (∀ k, k ≤ m → 0 ≤ sumTo (fun i => (hAt hs i).par) k ∧ sumTo (fun i => (hAt hs i).par) k ≤ 1000) := fun k hk => by
    have := sumTo_bd (f := fun i => (hAt hs i).par) (a := 0) (b := 6) (n := k) (fun i hi => by have := HGH.out.par i (by rw [← HL.out]; omega); exact ⟨by omega, this.2⟩)
    omega
  have HPL : Hid (sumTo (fun i => (hAt hs i).par) hs.length = sumTo (fun i => (hAt hs i).par) m) := by show _ = _; rw [← HL.out]
  generalize hPF : sumTo (fun i => (hAt hs i).par) = PF at *
  have HPFE := Lib.hid hPF
  clear hPF
  go_loopw [50, 7, 8] (fun i a p w' => ∃ k : Nat, k ≤ m ∧ i = .int .i64 k ∧ a = .bool (allF es k) ∧ p = .int .i64 (PF k) ∧ w' = w3 ∧ Hid (∀ i, i < k → (eAt es i).m ≠ bd)) (fun i _ _ _ => m - (intOf i).toNat)
  case atStart => exact ⟨0, Nat.zero_le _, rfl, rfl, by rw [HP0.out], rfl, fun i hi => by omega⟩
  case round =>
    obtain ⟨k, hk, rfl, rfl, rfl, rfl, hmd⟩ := hrel
    by_cases hlt2 : k < m
    · obtain ⟨b, o, x, rfl, hx, x0, x1⟩ := (HE.out.later HB3.out).elem2 (k := k) (fun s : EI => .int .i64 s.s) (fun s : EI => .string s.m) (fun _ => rfl) hlt2
      obtain ⟨bh, oh, xh, rfl, hxh, y0, y1⟩ := (H.out.later HB3.out).elem2 (k := k) (fun s : HI => .int .i64 s.par) (fun s : HI => .int .i64 s.idx) (fun _ => rfl) hlt2
      have hge := HGE.out k hlt2
      have hb1 := HPB.out k hk
      have hb2 := HPB.out (k + 1) (by omega)
      have hps := HPS0.out k
      have hxm : (eAt es k).m = x.m := by rw [eAt_eq hx]
      rw [eAt_eq hx] at hge
      rw [hAt_eq hxh] at hps
      rw [hps] at hb2
      have HPS := Lib.hid hps
      have HXM := Lib.hid hxm
      obtain ⟨xs, xm⟩ := x
      obtain ⟨xp, xi⟩ := xh
      simp only at x0 x1 y0 y1 hb2 HPS HXM
      generalize PF k = pk at *
      clear hx hxh hps hxm x0 y1
      rcases hge with ⟨hm, _⟩ | ⟨hm | hm, _⟩
      · have HMS : Hid (∀ i, i < k + 1 → (eAt es i).m ≠ bd) := fun i hi => by
          by_cases e : i = k
          · subst e; rw [HXM.out]; rcases hm with rfl | rfl <;> (show (_ : ByteArray) ≠ _; decide)
          · exact hmd.out i (by omega)
        rcases hm with hm | hm
        · change xm = ⟨#[]⟩ at hm
          subst hm
          have HA2 : Hid (allF es (k + 1) = allF es k) := by
            show _ = _
            rw [allF, HXM.out]
            rw [show decide ((⟨#[]⟩ : ByteArray) = bx) = false by decide]; simp
          cases hall : allF es k
          all_goals
            rw [hall] at HA2
            go_wp2
            go_roundw
            case rel => exact ⟨k + 1, by omega, by go_num, by rw [HA2.out], by rw [HPS.out], by first | rfl | trivial, HMS.out⟩
            case measure => simp [intOf]; omega
        · change xm = ⟨#[99]⟩ at hm
          subst hm
          have HA2 : Hid (allF es (k + 1) = allF es k) := by
            show _ = _
            rw [allF, HXM.out]
            rw [show decide ((⟨#[99]⟩ : ByteArray) = bx) = false by decide]; simp
          cases hall : allF es k
          all_goals
            rw [hall] at HA2
            go_wp2
            go_roundw
            case rel => exact ⟨k + 1, by omega, by go_num, by rw [HA2.out], by rw [HPS.out], by first | rfl | trivial, HMS.out⟩
            case measure => simp [intOf]; omega
      · have HMS : Hid (∀ i, i < k + 1 → (eAt es i).m ≠ bd) := fun i hi => by
          by_cases e : i = k
          · subst e; rw [HXM.out]; subst hm; show (_ : ByteArray) ≠ _; decide
          · exact hmd.out i (by omega)
        change xm = ⟨#[120]⟩ at hm
        subst hm
        have HA2 : Hid (allF es (k + 1) = false) := by
          show _ = _
          rw [allF, HXM.out]
          rw [show decide ((⟨#[120]⟩ : ByteArray) = bx) = true by decide]; simp
        cases hall : allF es k
        all_goals
          go_wp2
          go_roundw
          case rel => exact ⟨k + 1, by omega, by go_num, by rw [HA2.out], by rw [HPS.out], by first | rfl | trivial, HMS.out⟩
          case measure => simp [intOf]; omega
      · change xm = ⟨#[45]⟩ at hm
        subst hm
        have HB := Lib.hid HB3.out
        go_wp2_with (go_at_call 6; refine (caddie_any _).mono ?_; rintro e w' ⟨rfl, hb4⟩; have HB4 := Lib.hid hb4; clear hb4)
        go_ret
        exact ⟨rfl, HB3.out.trans (HB4.out.mono HB3.out.size)⟩
    · have ekm : k = m := by omega
      subst ekm
      have HENV : Hid (∀ w, Below W.heap.size W w → CEnv w (.slice A k c) (.slice Ae k ce) k hs es name) := fun w hb => ⟨H.out.later hb, HE.out.later hb, HGH.out, HGN.out, hsz, fun i hi => play_of (HGE.out i hi) (hmd.out i hi)⟩
      have hplay : ∀ i, i < k → PlayE (eAt es i) := (HENV.out wr HB3.out).ge
      have HEQ : Hid (sumTo (adjF hs es co) k + sumTo (ptsF hs es co) k = PF k + 2 * (k : Int) + co) := by
        have := adj_pts hs es co HGH.out
        rw [← HL.out, HPFE.out] at this
        exact this
      have HNET : sumTo (fun i => (eAt es i).s - givF hs co i) k = sumTo (fun i => (eAt es i).s) k - co := by
        have := net_sum hs es co HGH.out
        rwa [← HL.out] at this
      have HLE : Hid (allF es k = true → sumTo (adjF hs es co) k ≤ sumTo (fun i => (eAt es i).s) k) := fun h => adj_le hs es co k (allF_no h)
      have HIFF : Hid (allF es k = true → (sumTo (adjF hs es co) k = sumTo (fun i => (eAt es i).s) k ↔ worseF hs es co k = false)) := fun h => adj_eq_iff hs es co k (allF_no h)
      have HAB : Hid (-10000 ≤ sumTo (adjF hs es co) k ∧ sumTo (adjF hs es co) k ≤ 10000) := by
        have := sumTo_bd (f := adjF hs es co) (a := -100) (b := 108) (n := k) (fun i hi => adj_bd HGH.out hco (by rw [← HL.out]; exact hi) (hplay i hi))
        show _ ∧ _
        omega
      have HTB : Hid (∀ j, j ≤ k → 0 ≤ sumTo (ptsF hs es co) j ∧ sumTo (ptsF hs es co) j ≤ 10000) := fun j hj => by
        have := sumTo_bd (f := ptsF hs es co) (a := 0) (b := 200) (n := j) (fun i hi => pts_bd HGH.out hco (by rw [← HL.out]; omega) (play_bd (hplay i (by omega))))
        omega
      have HTS : Hid (∀ j, sumTo (ptsF hs es co) (j + 1) = sumTo (ptsF hs es co) j + ptsF hs es co j) := fun _ => rfl
      have HT0 : Hid (sumTo (ptsF hs es co) 0 = 0) := rfl
      have HGB : Hid (0 ≤ sumTo (fun i => (eAt es i).s) k ∧ sumTo (fun i => (eAt es i).s) k ≤ 10000) := by
        have := sumTo_bd (f := fun i => (eAt es i).s) (a := 0) (b := 99) (n := k) (fun i hi => play_bd (hplay i hi))
        show _ ∧ _
        omega
      have HVB : Hid (∀ j, -100 ≤ givF hs co j ∧ givF hs co j ≤ 100) := fun j => giv_bd HGH.out.len hco j
      have HWS : Hid (∀ j, worseF hs es co (j + 1) = (worseF hs es co j || decide ((hAt hs j).par + 2 < (eAt es j).s - givF hs co j))) := fun _ => rfl
      have HW0 : Hid (worseF hs es co 0 = false) := rfl
      have HPY : Hid (∀ i, i < k → 0 ≤ (eAt es i).s ∧ (eAt es i).s ≤ 99) := fun i hi => play_bd (hplay i hi)
      have HPR : Hid (∀ i, i < k → 3 ≤ (hAt hs i).par ∧ (hAt hs i).par ≤ 6) := fun i hi => HGH.out.par i (by rw [← HL.out]; exact hi)
      have hpk := HPB.out k (Nat.le_refl _)
      have HC7 : Hid (∀ w, Below W.heap.size W w → Calls Tryd.prog 7 #[.slice A k c, .agg #[.string name, .slice Ae k ce], .int .i64 co] w fun e w' => e = .returned (.tuple #[.int .i64 (sumTo (adjF hs es co) k), .int .i64 0]) ∧ Below w.heap.size w w') := fun w hb => adjusted_ok w _ _ k hs es name co hco (HENV.out w hb)
      have HC8 : Hid (∀ w, Below W.heap.size W w → Calls Tryd.prog 8 #[.slice A k c, .agg #[.string name, .slice Ae k ce, .int .i64 co]] w fun e w' => ∃ v', e = .returned (.tuple #[v', .int .i64 0]) ∧ St w w' [row 3 1 v' k (intsI (gl (ptsF hs es co) k))]) := fun w hb => points_ok w _ _ k hs es name co hco (HENV.out w hb)
      have HC9 : Hid (allF es k = true → ∀ w, Below W.heap.size W w → Calls Tryd.prog 9 #[.slice A k c, .agg #[.string name, .slice Ae k ce, .int .i64 co]] w fun e w' => e = .returned (.tuple #[.int .i64 (sumTo (fun i => (eAt es i).s) k), .int .i64 0]) ∧ Below w.heap.size w w') := fun ha w hb => gross_ok w _ _ k hs es name co hco (HENV.out w hb) (allF_no ha)
      have HC10 : Hid (allF es k = true → ∀ w, Below W.heap.size W w → Calls Tryd.prog 10 #[.slice A k c, .agg #[.string name, .slice Ae k ce, .int .i64 co]] w fun e w' => e = .returned (.tuple #[.int .i64 (sumTo (fun i => (eAt es i).s) k - co), .int .i64 0]) ∧ Below w.heap.size w w') := fun ha w hb => by
        rw [← HNET]
        exact score_ok w _ _ k hs es name co hco (HENV.out w hb) (allF_no ha)
      have HC11 : Hid (∀ w, Below W.heap.size W w → Calls Tryd.prog 11 #[.slice A k c, .int .i64 co] w fun e w' => ∃ v', e = .returned (.tuple #[v', .int .i64 0]) ∧ St w w' [row 3 1 v' k (intsI (gl (givF hs co) k))]) := fun w hb => givenE_ok w _ k hs co hco (H.out.later hb) HGH.out
      have hk1 : 1 ≤ k ∧ k ≤ 18 := ⟨by have := HGH.out.len.1; have := HL.out; omega, by omega⟩
      clear HENV hplay HNET HGE hmd HPFE HPL HP0 HPS0 HPB HGH HGN HL
      generalize worseF hs es co = WF at *
      generalize sumTo (adjF hs es co) k = AS at *
      generalize sumTo (fun i => (eAt es i).s) k = GS at *
      generalize sumTo (ptsF hs es co) = TF at *
      generalize ptsF hs es co = PT at *
      generalize givF hs co = GV at *
      generalize PF k = pk at *
      generalize allF es k = AL at *
      have hb4 := (Below.refl wr.heap.size wr).alloc (Nat.le_refl _) (.cells #[.string name, .slice Ae k ce, .int .i64 co] 34)
      have HCELL : Hid (∀ w, Below (wr.heap.size + 1) (wr.alloc (.cells #[.string name, .slice Ae k ce, .int .i64 co] 34)) w → (w.cell? ⟨gc, 0, none⟩ = some (.string name) ∧ w.cell? ⟨gc, 1, none⟩ = some (.slice Ae k ce)) ∧ w.cell? ⟨wr.heap.size, 0, none⟩ = some (.string name) ∧ w.cell? ⟨wr.heap.size, 1, none⟩ = some (.slice Ae k ce) ∧ w.cell? ⟨wr.heap.size, 2, none⟩ = some (.int .i64 co)) := fun w hb => by
        refine ⟨⟨?_, ?_⟩, ?_, ?_, ?_⟩
        · exact (hb.cell (p := ⟨gc, 0, none⟩) (show gc < _ by omega)).trans ((hb4.cell (p := ⟨gc, 0, none⟩) hlt).trans e0)
        · exact (hb.cell (p := ⟨gc, 1, none⟩) (show gc < _ by omega)).trans ((hb4.cell (p := ⟨gc, 1, none⟩) hlt).trans e1)
        · exact (hb.cell (p := ⟨wr.heap.size, 0, none⟩) (show wr.heap.size < _ by omega)).trans (by simp)
        · exact (hb.cell (p := ⟨wr.heap.size, 1, none⟩) (show wr.heap.size < _ by omega)).trans (by simp)
        · exact (hb.cell (p := ⟨wr.heap.size, 2, none⟩) (show wr.heap.size < _ by omega)).trans (by simp)
      have HSZ : Hid ((wr.alloc (.cells #[.string name, .slice Ae k ce, .int .i64 co] 34)).heap.size = wr.heap.size + 1) := by show _ = _; simp
      rw [← HSZ.out] at HCELL
      have HB4 := Lib.hid (HB3.out.trans (hb4.mono HB3.out.size))
      obtain ⟨⟨d0, d1⟩, _⟩ := HCELL.out _ (Below.refl _ _)
      clear hb4 hlt HB3 HSZ
      go_wp2_with fail
      clear e0 e1 d0 d1
      generalize wr.alloc (.cells #[.string name, .slice Ae k ce, .int .i64 co] 34) = W4 at *
      generalize wr.heap.size = gp at *
      go_at_call 7
      refine (HC7.out _ HB4.out).mono ?_
      rintro e w5 ⟨rfl, hb5⟩
      obtain ⟨_, p0, p1, p2⟩ := HCELL.out _ hb5
      have HX5 := Lib.hid hb5
      have HB5 := Lib.hid (HB4.out.trans (hb5.mono HB4.out.size))
      clear hb5 HC7
      go_wp2_with fail
      go_at_call 8
      refine (HC8.out _ HB5.out).mono ?_
      rintro e w6 ⟨vp, rfl, S⟩
      have HX6 := Lib.hid (HX5.out.trans (S.bel.mono HX5.out.size))
      have HB6 := Lib.hid (HB5.out.trans (S.bel.mono HB5.out.size))
      obtain ⟨bp, cp, rfl⟩ := row_some S (i := 0) rfl hk1.1
      have HRD := Lib.hid (S.row_rd (i := 0) rfl).now
      have tnn : ((k : Int) != (k : Int)) = false := by simp
      clear S p0 p1 p2 HX5 HB5 HC8 HB4
      go_wp2
      go_loopw [108, 15] (fun i v w' => ∃ j : Nat, j ≤ k ∧ i = .int .i64 j ∧ v = .int .i64 (TF j) ∧ w' = w6) (fun i _ _ => k - (intOf i).toNat)
      case atStart => exact ⟨0, Nat.zero_le _, rfl, by rw [HT0.out], rfl⟩
      case round =>
        obtain ⟨j, hj, rfl, rfl, rfl⟩ := hrel
        by_cases hjk : j < k
        · have x0 := rd_cellI HRD.out (gl_at PT hjk)
          rw [Nat.zero_add] at x0
          have hb1 := HTB.out j hj
          have hb2 := HTB.out (j + 1) (by omega)
          have hts := HTS.out j
          rw [hts] at hb2
          have HTJ := Lib.hid hts
          generalize TF j = tj at *
          generalize PT j = pj at *
          clear hts
          go_wp2
          go_roundw
          case rel => exact ⟨j + 1, by omega, by go_num, by rw [HTJ.out], by first | rfl | trivial⟩
          case measure => simp [intOf]; omega
        · have ejk : j = k := by omega
          subst ejk
          have htb := HTB.out j (Nat.le_refl _)
          generalize TF j = tj at *
          have heq := HEQ.out
          have hab := HAB.out
          have t23 : (AS + tj != pk + 2 * (j : Int) + co) = false := by simp [heq]
          have HT23 := Lib.hid t23
          clear HEQ HAB HTB HTS HT0 HRD heq
          cases AL
          · clear HIFF HLE HC9 HC10 HCELL HC11
            go_wp2_with (go_at_call 6; refine (caddie_any _).mono ?_; rintro e w' ⟨rfl, hb7⟩; have HB7 := Lib.hid hb7; clear hb7)
            go_ret
            exact ⟨rfl, HB6.out.trans (HB7.out.mono HB6.out.size)⟩
          · have hle := HLE.out (by trivial)
            have HIF := Lib.hid (HIFF.out (by trivial))
            have HD9 := Lib.hid (HC9.out (by trivial))
            have HD10 := Lib.hid (HC10.out (by trivial))
            clear HIFF HLE HC9 HC10
            obtain ⟨_, p0, p1, p2⟩ := HCELL.out _ HX6.out
            go_wp2_with fail
            go_at_call 9
            refine (HD9.out _ HB6.out).mono ?_
            rintro e w7 ⟨rfl, hb7⟩
            have HX7 := Lib.hid (HX6.out.trans (hb7.mono HX6.out.size))
            have HB7 := Lib.hid (HB6.out.trans (hb7.mono HB6.out.size))
            clear p0 p1 p2 hb7 HD9 HX6 HB6
            obtain ⟨_, p0, p1, p2⟩ := HCELL.out _ HX7.out
            go_wp2_with fail
            go_at_call 10
            refine (HD10.out _ HB7.out).mono ?_
            rintro e w8 ⟨rfl, hb8⟩
            have HX8 := Lib.hid (HX7.out.trans (hb8.mono HX7.out.size))
            have HB8 := Lib.hid (HB7.out.trans (hb8.mono HB7.out.size))
            clear p0 p1 p2 hb8 HD10 HX7 HB7
            go_wp2_with fail
            go_at_call 11
            refine (HC11.out _ HB8.out).mono ?_
            rintro e w9 ⟨vg, rfl, S⟩
            have HX9 := Lib.hid (HX8.out.trans (S.bel.mono HX8.out.size))
            have HB9 := Lib.hid (HB8.out.trans (S.bel.mono HB8.out.size))
            obtain ⟨bg, cg, rfl⟩ := row_some S (i := 0) rfl hk1.1
            have HRD := Lib.hid (S.row_rd (i := 0) rfl).now
            obtain ⟨⟨_, g1⟩, _⟩ := HCELL.out _ HX9.out
            have hgb := HGB.out
            have t30 : decide (GS < AS) = false := by simp; omega
            have tgg : (GS - co != GS - co) = false := by simp
            clear S HX8 HB8 HC11 HX9 HCELL HT23 t23
            go_wp2
            go_loopw [177, 23] (fun i v w' => ∃ k q : Nat, k ≤ j ∧ i = .int .i64 k ∧ v = .bool (WF k) ∧ w' = w9.drewN q) (fun i _ _ => j - (intOf i).toNat)
            case atStart => exact ⟨0, 0, Nat.zero_le _, rfl, by rw [HW0.out], rfl⟩
            case round =>
              obtain ⟨k, q9, hk9, rfl, rfl, rfl⟩ := hrel
              by_cases hkj : k < j
              · obtain ⟨b, o, x, rfl, hx, x0, x1⟩ := (HE.out.later HB9.out).elem2 (k := k) (fun s : EI => .int .i64 s.s) (fun s : EI => .string s.m) (fun _ => rfl) hkj
                obtain ⟨bh, oh, xh, rfl, hxh, y0, y1⟩ := (H.out.later HB9.out).elem2 (k := k) (fun s : HI => .int .i64 s.par) (fun s : HI => .int .i64 s.idx) (fun _ => rfl) hkj
                have z0 := rd_cellI HRD.out (gl_at GV hkj)
                rw [Nat.zero_add] at z0
                have hpy := HPY.out k hkj
                have hpr := HPR.out k hkj
                have hvb := HVB.out k
                have hws := HWS.out k
                rw [eAt_eq hx] at hpy hws
                rw [hAt_eq hxh] at hpr hws
                obtain ⟨xs, xm⟩ := x
                obtain ⟨xp, xi⟩ := xh
                simp only at x0 x1 y0 y1 hpy hpr hws
                generalize GV k = gk at *
                have HWK := Lib.hid hws
                clear hx hxh hws x1 y1
                cases hwf : WF k
                · rw [hwf] at HWK
                  have HWK2 : Hid (WF (k + 1) = decide (xp + 2 < xs - gk)) := by show _ = _; rw [HWK.out, Bool.false_or]
                  clear HWK hwf
                  go_wp2_with fail
                  go_quiet (fail)
                  go_wp2
                  go_roundw
                  case rel => exact ⟨k + 1, _, by omega, by go_num, by rw [HWK2.out], rfl⟩
                  case measure => simp [intOf]; omega
                · rw [hwf] at HWK
                  have HWK2 : Hid (WF (k + 1) = true) := by show _ = _; rw [HWK.out, Bool.true_or]
                  clear HWK hwf
                  go_wp2_with fail
                  go_quiet (fail)
                  go_wp2
                  go_roundw
                  case rel => exact ⟨k + 1, _, by omega, by go_num, by rw [HWK2.out], rfl⟩
                  case measure => simp [intOf]; omega
              · have ekj : k = j := by omega
                subst ekj
                have HBQ := Lib.hid (below_drewN HB9.out q9)
                cases hwf : WF k
                · have e1 : AS = GS := HIF.out.2 hwf
                  have e2 : (AS == GS) = true := by simp [e1]
                  clear hwf HIF e1
                  go_wp2_with (go_at_call 6; refine (caddie_any _).mono ?_; rintro e w' ⟨rfl, hb10⟩; have HB10 := Lib.hid hb10; clear hb10)
                  go_ret
                  exact ⟨rfl, HBQ.out.trans (HB10.out.mono HBQ.out.size)⟩
                · have e2 : (AS == GS) = false := by
                    rw [Bool.eq_false_iff]
                    intro h
                    have := HIF.out.1 (by simpa using h)
                    rw [hwf] at this
                    cases this
                  clear hwf HIF
                  go_wp2_with (go_at_call 6; refine (caddie_any _).mono ?_; rintro e w' ⟨rfl, hb10⟩; have HB10 := Lib.hid hb10; clear hb10)
                  go_ret
                  exact ⟨rfl, HBQ.out.trans (HB10.out.mono HBQ.out.size)⟩
end Go.Proofs.YtcofdandmihilaaDoor
