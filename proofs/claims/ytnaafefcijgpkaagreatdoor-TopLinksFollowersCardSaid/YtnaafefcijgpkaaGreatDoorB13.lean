/- Part 13 of the walks of the golf union's program: UM12, UM13, US3, US6, US7, US8, US9, US10, US11, US12, US13. -/
import Derived.Test.YtnaafefcijgpkaaGreatDoorB12
import Derived.Test.YtnaafefcijgpkaaGreatDoorB01
import Derived.Test.YtnaafefcijgpkaaGreatDoorB05
import Derived.Laws.StructEq
import Derived.Test.YtnaafefcijgpkaaGreatDoorB02
set_option linter.unusedVariables false
set_option linter.unusedSimpArgs false
set_option linter.unusedSectionVars false
set_option linter.constructorNameAsVariable false
/- Chapter 10, the reference: Differs (under way). -/
namespace Go.Proofs.YtnaafefcijgpkaaGreatDoor
open Go.RowKit Go.Mem Go.Sheet Go.Adj
def SameK (ks : List MkI) (s : ByteArray) (t : Nat) : Prop := 0 ≤ mkI ks s t false → 0 ≤ mkI ks s t true → (mkAt ks (mkI ks s t false).toNat).e = (mkAt ks (mkI ks s t true).toNat).e
set_option maxRecDepth 100000 in
set_option maxHeartbeats 4000000 in
theorem refDiffers_any (W : World) (u : UI) (s : ByteArray) (hnh : u.nh ≤ 36) (h : RdU W (· < W.heap.size) u) :
    Calls Tryz.prog 77 #[u.val, .string s] W fun e w' => (∃ (A : Option Addr) (n c : Nat), e = .returned (.slice A n c) ∧ Hid (n = 0 → ∀ t : Nat, 1 ≤ t → t ≤ u.nh → SameK u.ks s t)) ∧ Below W.heap.size W w' := by
  have hhh := h.h
  have hkk := h.k
  have HMK : Hid (∀ hh own w, Below W.heap.size W w → Calls Tryz.prog 75 #[u.val, .string s, .int .i64 hh, .bool own] w fun e w' => e = .returned (.int .i64 (mkI u.ks s hh own)) ∧ Below w.heap.size w w') := fun hh own w hb => refMark_any w u s hh own (h.later hb)
  clear h
  obtain ⟨vc, nc, cl, vm, nm, ms, vh, nh, hs, vk, nk, ks, vs, ns, sg, vp, np, ps⟩ := u
  simp only [UI.val] at *
  obtain ⟨Ah, ch, rfl, _, _, _⟩ := hhh.open_
  obtain ⟨Ak, ck, rfl, _, _, _⟩ := hkk.open_
  have HKK := Lib.hid hkk
  have HLK := Lib.hid (hkk.count (f := MkI.cells) (size := 5) (fun _ => rfl) (by decide))
  have S0 := ((St.refl W).blk_new #[vc, vm, .slice Ah nh ch, .slice Ak nk ck, vs, vp] 34).row_nil 3 1
  simp only [List.cons_append, List.nil_append] at S0
  obtain ⟨gc, hgc⟩ : ∃ g, g = W.heap.size := ⟨_, rfl⟩
  rw [← hgc] at S0
  have HS0 := Lib.hid S0
  have d2 := S0.blk_cell (i := 0) rfl 2
  clear S0 hhh hkk
  go_enter Tryz.func77, Tryz.ntmps77
  go_wp2_with fail
  rw [← hgc]
  generalize W.alloc (.cells #[vc, vm, .slice Ah nh ch, .slice Ak nk ck, vs, vp] 34) = w1 at *
  clear hgc d2
  go_loopw [6, 5] (fun i lv w' => ∃ (k m : Nat) (xs : List Int), 1 ≤ k ∧ k ≤ nh + 1 ∧ m < k ∧ i = .int .i64 k ∧ Hid (m = 0 → ∀ t : Nat, 1 ≤ t → t < k → SameK ks s t) ∧ St W w' [blk gc 34 #[vc, vm, .slice Ah nh ch, .slice Ak nk ck, vs, vp], row 3 1 lv m (xs.map (Value.int .i64))]) (fun i _ _ => nh + 1 - (intOf i).toNat)
  case atStart => exact ⟨1, 0, [], Nat.le_refl _, by omega, by omega, rfl, fun _ t h1 h2 => by omega, HS0.out⟩
  case round =>
    obtain ⟨k, m, xs, hk1, hk, hmk, rfl, hin, S⟩ := hrel
    clear HS0
    have d2 := S.blk_cell (i := 0) rfl 2
    obtain ⟨Al, cl', rfl, _, _, _⟩ := (S.row_rd (i := 1) rfl).open_
    by_cases hlt : k ≤ nh
    · have t0 : decide ((k : Int) ≤ (nh : Int)) = true := decide_eq_true (by omega)
      have t0' : decide (k ≤ nh) = true := decide_eq_true hlt
      have HS := Lib.hid S.drew
      clear S
      go_wp2_with fail
      clear d2
      generalize hwd : wr.drew = wd at HS
      have hwd' : wr.drew = wd := hwd
      clear hwd
      refine wp_head_tail' 0 8 2 [] [0, 1, 2, 4, 5, 6] rfl (fun w' => Below wd.heap.size wd w') (by kernel_rfl) (by kernel_rfl) (by rw [hwd']; exact Below.refl _ _) ?_
      simp only [pick, List.filterMap_cons, List.filterMap_nil, List.getElem?_toArray, List.getElem?_cons_succ, List.getElem?_cons_zero]
      generalize hK : (fun w' => Below wd.heap.size wd w') = K
      have kB : ∀ y : Wd K, Below wd.heap.size wd y.w := by subst hK; exact fun y => y.h
      have hK2 : ∀ w', Below wd.heap.size wd w' → K w' := by subst hK; exact fun _ h => h
      have hne : Nonempty (Wd K) := ⟨⟨wd, hK2 _ (Below.refl _ _)⟩⟩
      have k0 : ∀ y : Wd K, y.w.cell? ⟨gc, 0, none⟩ = some vc := fun y => (HS.out.ext (kB y)).blk_cell (i := 0) rfl 0
      have k1 : ∀ y : Wd K, y.w.cell? ⟨gc, 1, none⟩ = some vm := fun y => (HS.out.ext (kB y)).blk_cell (i := 0) rfl 1
      have k2 : ∀ y : Wd K, y.w.cell? ⟨gc, 2, none⟩ = some (.slice Ah nh ch) := fun y => (HS.out.ext (kB y)).blk_cell (i := 0) rfl 2
      have k3 : ∀ y : Wd K, y.w.cell? ⟨gc, 3, none⟩ = some (.slice Ak nk ck) := fun y => (HS.out.ext (kB y)).blk_cell (i := 0) rfl 3
      have k4 : ∀ y : Wd K, y.w.cell? ⟨gc, 4, none⟩ = some vs := fun y => (HS.out.ext (kB y)).blk_cell (i := 0) rfl 4
      have k5 : ∀ y : Wd K, y.w.cell? ⟨gc, 5, none⟩ = some vp := fun y => (HS.out.ext (kB y)).blk_cell (i := 0) rfl 5
      rw [hwd']
      clear hK kB hwd'
      refine wpQuiet_nil ?_
      change wpQuiet _ _ _ _ (_ :: _ :: _ :: _ :: _ :: _ :: []) _
      repeat (go_big_quiet_step ((fail)))
      refine wpQuiet_nil ?_
      clear k0 k1 k2 k3 k4 k5 hne
      have HM1 := Lib.hid (HMK.out (k : Int) false wd HS.out.bel)
      obtain ⟨ma, hma⟩ : ∃ z, z = mkI ks s k false := ⟨_, rfl⟩
      obtain ⟨mb, hmb⟩ : ∃ z, z = mkI ks s k true := ⟨_, rfl⟩
      rw [← hma] at HM1
      have HMA := Lib.hid hma
      have HMB := Lib.hid hmb
      clear hma hmb
      refine headW_all (rs := [3]) (by kernel_rfl) (by simp) (by kernel_rfl) ?_
      intro i hi
      obtain rfl := List.mem_singleton.1 hi
      refine wpOp_list rfl ?_
      intro Q' hQ'
      go_wp2_with (go_at_call 75; refine HM1.out.mono ?_; rintro e w5 ⟨rfl, hb5⟩)
      refine ⟨hK2 _ hb5, ?_⟩
      have HS5 := Lib.hid (HS.out.ext hb5)
      have HM2 := Lib.hid (HMK.out (k : Int) true w5 HS5.out.bel)
      rw [← HMB.out] at HM2
      refine headW_all (rs := [7]) (by kernel_rfl) (by simp) (by kernel_rfl) ?_
      intro i hi
      obtain rfl := List.mem_singleton.1 hi
      refine wpOp_list rfl ?_
      intro Q' hQ'
      go_wp2_with (go_at_call 75; refine HM2.out.mono ?_; rintro e w6 ⟨rfl, hb6⟩)
      have HS6 := Lib.hid (HS5.out.ext hb6)
      refine ⟨hK2 _ (hb5.trans (hb6.mono hb5.size)), by kernel_rfl, ?_⟩
      clear hK2 hb5 hb6 HM1 HM2 HS5
      go_wp2_with fail
      refine NoPanic.normal ?_
      go_wp2_with fail
      have HIN : Hid (SameK ks s k → m = 0 → ∀ t : Nat, 1 ≤ t → t < k + 1 → SameK ks s t) := fun a hm t h1 h2 => by
        rcases Nat.lt_or_ge t k with h3 | h3
        · exact hin.out hm t h1 h3
        · rw [show t = k by omega]; exact a
      clear hin
      by_cases h1 : 0 ≤ ma
      case neg =>
        have t1 : decide (0 ≤ ma) = false := decide_eq_false h1
        have HN := Lib.hid (HIN.out (fun a _ => absurd (by rw [HMA.out]; exact a) h1))
        clear h1
        go_quiet (fail)
        all_goals
          go_wp2_with fail
          go_roundw
          case rel => exact ⟨k + 1, m, xs, by omega, by omega, by omega, by go_num, HN, by first | exact HS6.out.drewN _ | exact (HS6.out.drewN _).drewN _⟩
          case measure => simp [intOf]; omega
      have t1 : decide (0 ≤ ma) = true := decide_eq_true h1
      by_cases h2 : 0 ≤ mb
      case neg =>
        have t2 : decide (0 ≤ mb) = false := decide_eq_false h2
        have HN := Lib.hid (HIN.out (fun _ a => absurd (by rw [HMB.out]; exact a) h2))
        clear h1 h2
        go_quiet (fail)
        all_goals
          go_wp2_with fail
          go_roundw
          case rel => exact ⟨k + 1, m, xs, by omega, by omega, by omega, by go_num, HN, by first | exact HS6.out.drewN _ | exact (HS6.out.drewN _).drewN _⟩
          case measure => simp [intOf]; omega
      have t2 : decide (0 ≤ mb) = true := decide_eq_true h2
      obtain ⟨ja, hja, hea⟩ : ∃ j, j < nk ∧ ma = (j : Int) := by
        rcases fstI_inv (fun j => keyK (mkAt ks j) s k false) ks.length with ⟨e1, _⟩ | ⟨j, hj, e1, _, _⟩
        · have : ma = -1 := by rw [HMA.out]; exact e1
          omega
        · exact ⟨j, by rw [HLK.out]; exact hj, by rw [HMA.out]; exact e1⟩
      obtain ⟨jb, hjb, heb⟩ : ∃ j, j < nk ∧ mb = (j : Int) := by
        rcases fstI_inv (fun j => keyK (mkAt ks j) s k true) ks.length with ⟨e1, _⟩ | ⟨j, hj, e1, _, _⟩
        · have : mb = -1 := by rw [HMB.out]; exact e1
          omega
        · exact ⟨j, by rw [HLK.out]; exact hj, by rw [HMB.out]; exact e1⟩
      have HSE : Hid ((mkAt ks ja).e = (mkAt ks jb).e → SameK ks s k) := fun e _ _ => by
        rw [← HMA.out, ← HMB.out, hea, heb]; exact e
      clear HMA HMB
      subst hea
      subst heb
      obtain ⟨b, o, rfl, _, _, _, _, c3, c4⟩ := rd_mk (HKK.out.later HS6.out.bel) hja
      obtain ⟨b', o', hA, _, _, _, _, e3, e4⟩ := rd_mk (HKK.out.later HS6.out.bel) hjb
      cases hA
      have d3 := HS6.out.blk_cell (i := 0) rfl 3
      unfold MkI.e at HSE
      generalize (mkAt ks ja).s = xs1 at *
      generalize (mkAt ks ja).m = xm1 at *
      generalize (mkAt ks jb).s = ys1 at *
      generalize (mkAt ks jb).m = ym1 at *
      clear h1 h2
      by_cases g1 : xs1 = ys1
      case neg =>
        have q1 : (xs1 == ys1) = false := by simp [g1]
        have q1' : (xs1 != ys1) = true := by simp [g1]
        clear g1
        go_quiet (fail)
        all_goals
          go_wp2_with (at_builtin; refine wpList_append_st eltI rfl _ _ rfl rfl ((HS6.out.drewN _).alloc _) (k := 1) rfl rfl (rd_one (by simp)) (one_int _ _) (by omega) (by omega) ?_; intro v' w' S' _; simp only [List.set_cons_zero, List.set_cons_succ] at S'; have HS' := Lib.hid S'; clear S')
          go_roundw
          case rel => exact ⟨k + 1, m + 1, xs ++ [(k : Int)], by omega, by omega, by omega, by go_num, fun h => by omega, by rw [List.map_append]; exact HS'.out⟩
          case measure => simp [intOf]; omega
      by_cases g2 : xm1 = ym1
      case neg =>
        have q1 : (xs1 == ys1) = true := by simp [g1]
        have q1' : (xs1 != ys1) = false := by simp [g1]
        have q2 : (xm1.toList == ym1.toList) = false := bytes_neU g2
        clear g1 g2
        go_quiet (fail)
        all_goals
          go_wp2_with (at_builtin; refine wpList_append_st eltI rfl _ _ rfl rfl ((HS6.out.drewN _).alloc _) (k := 1) rfl rfl (rd_one (by simp)) (one_int _ _) (by omega) (by omega) ?_; intro v' w' S' _; simp only [List.set_cons_zero, List.set_cons_succ] at S'; have HS' := Lib.hid S'; clear S')
          go_roundw
          case rel => exact ⟨k + 1, m + 1, xs ++ [(k : Int)], by omega, by omega, by omega, by go_num, fun h => by omega, by rw [List.map_append]; exact HS'.out⟩
          case measure => simp [intOf]; omega
      have HN := Lib.hid (HIN.out (HSE.out (by rw [g1, g2])))
      subst g1
      subst g2
      have q1 : (xs1 == xs1) = true := by simp
      have q2 : (xm1.toList == xm1.toList) = true := by simp
      go_quiet (fail)
      all_goals
        go_wp2_with fail
        go_roundw
        case rel => exact ⟨k + 1, m, xs, by omega, by omega, by omega, by go_num, HN, by first | exact HS6.out.drewN _ | exact (HS6.out.drewN _).drewN _⟩
        case measure => simp [intOf]; omega
    · have t0 : decide ((k : Int) ≤ (nh : Int)) = false := decide_eq_false (by omega)
      have t0' : decide (k ≤ nh) = false := decide_eq_false hlt
      have HF : Hid (m = 0 → ∀ t : Nat, 1 ≤ t → t ≤ nh → SameK ks s t) := fun hm t h1 h2 => hin.out hm t h1 (by omega)
      have HB := Lib.hid S.bel
      clear S
      go_wp2_with fail
      go_ret
      exact ⟨⟨_, _, _, rfl, HF⟩, HB.out⟩
end Go.Proofs.YtnaafefcijgpkaaGreatDoor
/- Chapter 10, the reference: Signable. -/
namespace Go.Proofs.YtnaafefcijgpkaaGreatDoor
open Go.RowKit Go.Mem Go.Sheet Go.Adj
theorem entK_eq {ks : List MkI} {s : ByteArray} {t : Nat} (h1 : 0 ≤ mkI ks s t false) (h2 : 0 ≤ mkI ks s t true) (h : SameK ks s t) : entK ks s t false = entK ks s t true := by
  unfold entK
  rw [if_pos h1, if_pos h2]
  exact h h1 h2
set_option maxRecDepth 100000 in
set_option maxHeartbeats 4000000 in
theorem refSignable_any (W : World) (u : UI) (s : ByteArray) (hnh : u.nh ≤ 36) (h : RdU W (· < W.heap.size) u) :
    Calls Tryz.prog 49 #[u.val, .string s] W fun e w' => IsE (Sgn u s) e ∧ Below W.heap.size W w' := by
  have hhh := h.h
  have HOK : Hid (u.nh ≠ 0 → (∀ t : Nat, 1 ≤ t → t ≤ u.nh → 0 ≤ mkI u.ks s t false ∧ 0 ≤ mkI u.ks s t true) → (∀ t : Nat, 1 ≤ t → t ≤ u.nh → SameK u.ks s t) → Sgn u s) := fun a b c => ⟨a, fun t h1 h2 => ⟨(b t h1 h2).1, (b t h1 h2).2, entK_eq (b t h1 h2).1 (b t h1 h2).2 (c t h1 h2)⟩⟩
  generalize Sgn u s = P at *
  have HO := Lib.hid (fun w (hb : Below W.heap.size W w) => refOpen_any w u s hnh (h.later hb))
  have HD := Lib.hid (fun w (hb : Below W.heap.size W w) => refDiffers_any w u s hnh (h.later hb))
  clear h
  obtain ⟨vc, nc, cl, vm, nm, ms, vh, nh, hs, vk, nk, ks, vs, ns, sg, vp, np, ps⟩ := u
  simp only [UI.val] at *
  obtain ⟨Ah, ch, rfl, _, _, _⟩ := hhh.open_
  have S0 := (St.refl W).blk_new #[vc, vm, .slice Ah nh ch, vk, vs, vp] 34
  simp only [List.nil_append] at S0
  obtain ⟨gc, hgc⟩ : ∃ g, g = W.heap.size := ⟨_, rfl⟩
  rw [← hgc] at S0
  have HS0 := Lib.hid S0
  have d0 := S0.blk_cell (i := 0) rfl 0
  have d1 := S0.blk_cell (i := 0) rfl 1
  have d2 := S0.blk_cell (i := 0) rfl 2
  have d3 := S0.blk_cell (i := 0) rfl 3
  have d4 := S0.blk_cell (i := 0) rfl 4
  have d5 := S0.blk_cell (i := 0) rfl 5
  clear S0 hhh
  go_enter Tryz.func49, Tryz.ntmps49
  by_cases h0 : nh = 0
  · have z0 : ((nh : Int) == 0) = true := by simp [h0]
    have z0' : (nh == 0) = true := by simp [h0]
    clear h0 hnh
    go_wp2_with fail
    go_ret
    exact ⟨isE_ne (by decide), HS0.out.bel⟩
  have z0 : ((nh : Int) == 0) = false := by simp [h0]
  have z0' : (nh == 0) = false := by simp [h0]
  have H0 := Lib.hid h0
  clear h0
  go_wp2_with fail
  rw [← hgc]
  generalize W.alloc (.cells #[vc, vm, .slice Ah nh ch, vk, vs, vp] 34) = w1 at *
  clear hgc
  go_at_call 76
  refine (HO.out w1 HS0.out.bel).mono ?_
  rintro e w2 ⟨⟨A1, n1, c1, rfl, g1⟩, hb⟩
  have HS2 := Lib.hid (HS0.out.ext hb)
  have G1 := Lib.hid g1
  clear hb HS0 d0 d1 d2 d3 d4 d5 g1 HO
  by_cases h1 : n1 = 0
  case neg =>
    have t1 : decide ((0 : Int) < (n1 : Int)) = true := decide_eq_true (by omega)
    have t1' : decide (0 < n1) = true := decide_eq_true (by omega)
    clear h1
    go_wp2_with fail
    go_ret
    exact ⟨isE_ne (by decide), HS2.out.bel⟩
  have G2 := Lib.hid (G1.out.out h1)
  have t1 : decide ((0 : Int) < (n1 : Int)) = false := decide_eq_false (by omega)
  have t1' : decide (0 < n1) = false := decide_eq_false (by omega)
  clear h1 G1
  have d0 := HS2.out.blk_cell (i := 0) rfl 0
  have d1 := HS2.out.blk_cell (i := 0) rfl 1
  have d2 := HS2.out.blk_cell (i := 0) rfl 2
  have d3 := HS2.out.blk_cell (i := 0) rfl 3
  have d4 := HS2.out.blk_cell (i := 0) rfl 4
  have d5 := HS2.out.blk_cell (i := 0) rfl 5
  go_wp2_with fail
  go_at_call 77
  refine (HD.out w2 HS2.out.bel).mono ?_
  rintro e w3 ⟨⟨A3, n3, c3, rfl, g3⟩, hb⟩
  have HS3 := Lib.hid (HS2.out.ext hb)
  have G3 := Lib.hid g3
  clear hb HS2 d0 d1 d2 d3 d4 d5 g3 HD
  by_cases h3 : n3 = 0
  case neg =>
    have t3 : decide ((0 : Int) < (n3 : Int)) = true := decide_eq_true (by omega)
    have t3' : decide (0 < n3) = true := decide_eq_true (by omega)
    clear h3
    go_wp2_with fail
    go_ret
    exact ⟨isE_ne (by decide), HS3.out.bel⟩
  have HF := Lib.hid (HOK.out H0.out G2.out (G3.out.out h3))
  have t3 : decide ((0 : Int) < (n3 : Int)) = false := decide_eq_false (by omega)
  have t3' : decide (0 < n3) = false := decide_eq_false (by omega)
  clear h3 G3
  go_wp2_with fail
  go_ret
  exact ⟨isE_ok HF.out, HS3.out.bel⟩
end Go.Proofs.YtnaafefcijgpkaaGreatDoor
/- Chapter 10, plain: what a union without an error gives its cards. -/
namespace Go.Proofs.YtnaafefcijgpkaaGreatDoor
open Go.RowKit Go.Mem Go.Sheet Go.Adj
theorem ent_good {u : UI} {a b : Nat} (h : GoodU u a b) (hlen : u.nk = u.ks.length) (p : ByteArray) (hh : Int) (own : Bool) : GoodE (entK u.ks p hh own) := by
  unfold entK
  split
  · rename_i h0
    unfold mkI at h0 ⊢
    rcases fstI_inv (fun j => keyK (mkAt u.ks j) p hh own) u.ks.length with ⟨e1, _⟩ | ⟨k, hk, e1, _, _⟩
    · rw [e1] at h0; exact absurd h0 (by decide)
    · rw [e1, Int.toNat_natCast]
      exact (h.kk k (by omega)).2.2.2.2
  · exact .inr ⟨.inr rfl, rfl⟩
theorem mem_self {u : UI} {a b : Nat} (h : GoodU u a b) (hlen : u.nm = u.ms.length) {k : Nat} (hk : k < u.nm) : memI u.ms (mbAt u.ms k).name = (k : Int) := by
  unfold memI
  exact fstI_at (P := fun j => decide ((mbAt u.ms j).name = (mbAt u.ms k).name)) (decide_eq_true rfl) (fun j hj => decide_eq_false (h.mb2 k j hk hj)) (by omega)
theorem esU_good {u : UI} {a b : Nat} (h : GoodU u a b) (hlen : u.nk = u.ks.length) (p : ByteArray) (n : Nat) : ∀ i, i < n → GoodE (eAt (esU u.ks p n) i) := fun i hi => by
  rw [eAt_esU hi]
  exact ent_good h hlen p _ _
theorem mem_pos {u : UI} {a b : Nat} (h : GoodU u a b) (hlen : u.nm = u.ms.length) {s : ByteArray} (he : ∃ j, j < u.nm ∧ (mbAt u.ms j).name = s) : 0 ≤ memI u.ms s ∧ memI u.ms s < u.nm := by
  obtain ⟨j, hj, rfl⟩ := he
  rw [mem_self h hlen hj]
  omega
end Go.Proofs.YtnaafefcijgpkaaGreatDoor
/- Chapter 10, the program: small functions. -/
namespace Go.Proofs.YtnaafefcijgpkaaGreatDoor
open Go.RowKit Go.Mem Go.Sheet Go.Adj
theorem uWhen_any (b : Bool) (e : Int) (w : World) : Calls Tryz.prog 59 #[.bool b, .int .i64 e] w fun r w' => r = .returned (.int .i64 (whenE b e)) ∧ w = w' := by
  go_enter Tryz.func59, Tryz.ntmps59
  cases b
  all_goals
    go_wp2
    go_ret
    exact ⟨rfl, rfl⟩
theorem uNo (e : Int) (w : World) : Calls Tryz.prog 59 #[.bool false, .int .i64 e] w fun r w' => r = .returned (.int .i64 0) ∧ w = w' := uWhen_any false e w
set_option maxHeartbeats 400000 in
theorem uFirst_any (w : World) (F : Nat → Prop) (v : Value) (n : Nat) (es : List Int) (h : Rd w F 1 v n (es.map (Value.int .i64))) :
    Calls Tryz.prog 32 #[v] w fun r w' => r = .returned (.int .i64 (fst es)) ∧ w = w' := by
  have HL := Lib.hid h.count1
  have hn := h.le
  obtain ⟨A, c, rfl, _, _, h⟩ := h.open_
  go_enter Tryz.func32, Tryz.ntmps32
  go_wp2
  go_loop [7] (fun i => ∃ k : Nat, k ≤ n ∧ i = .int .i64 k ∧ Hid (fst (es.drop k) = fst es)) (fun i => n - (intOf i).toNat)
  case atStart => exact ⟨0, Nat.zero_le _, rfl, rfl⟩
  case round =>
    obtain ⟨k, hk, rfl, he⟩ := hrel
    by_cases hlt : k < n
    · obtain ⟨b, o, x, rfl, hx, hc⟩ := h.int hlt
      have HX := Lib.hid hx
      clear hx
      go_wp2
      · go_ret
        exact ⟨ret_i64 (fst_stop HX.out (by simpa using ‹(x != 0) = true›) he.out), rfl⟩
      · go_round
        case rel => exact ⟨k + 1, by omega, by go_num, fst_go HX.out (by simpa using ‹(x != 0) = false›) he.out⟩
        case measure => simp [intOf]; omega
    · go_wp2
      go_ret
      obtain rfl : k = n := by omega
      exact ⟨ret_i64 (fst_end (Nat.le_of_eq HL.out.symm) he.out).symm, rfl⟩
theorem uOk2 (w : World) (g : Nat) (hg : g < w.heap.size) (h0 : w.cell? ⟨g, 0, none⟩ = some (.int .i64 0)) (h1 : w.cell? ⟨g, 1, none⟩ = some (.int .i64 0)) :
    Calls Tryz.prog 32 #[.slice (some ⟨g, 0, none⟩) 2 2] w fun r w' => r = .returned (.int .i64 0) ∧ w = w' :=
  uFirst_any w (fun _ => True) _ 2 [0, 0] (rd_cells hg (by simp) fun j u hu => by
    match j, hu with
    | 0, hu => cases hu; exact h0
    | 1, hu => cases hu; exact h1)
theorem uOk3 (w : World) (g : Nat) (hg : g < w.heap.size) (h0 : w.cell? ⟨g, 0, none⟩ = some (.int .i64 0)) (h1 : w.cell? ⟨g, 1, none⟩ = some (.int .i64 0)) (h2 : w.cell? ⟨g, 2, none⟩ = some (.int .i64 0)) :
    Calls Tryz.prog 32 #[.slice (some ⟨g, 0, none⟩) 3 3] w fun r w' => r = .returned (.int .i64 0) ∧ w = w' :=
  uFirst_any w (fun _ => True) _ 3 [0, 0, 0] (rd_cells hg (by simp) fun j u hu => by
    match j, hu with
    | 0, hu => cases hu; exact h0
    | 1, hu => cases hu; exact h1
    | 2, hu => cases hu; exact h2)
theorem uOk4 (w : World) (g : Nat) (hg : g < w.heap.size) (h0 : w.cell? ⟨g, 0, none⟩ = some (.int .i64 0)) (h1 : w.cell? ⟨g, 1, none⟩ = some (.int .i64 0)) (h2 : w.cell? ⟨g, 2, none⟩ = some (.int .i64 0)) (h3 : w.cell? ⟨g, 3, none⟩ = some (.int .i64 0)) :
    Calls Tryz.prog 32 #[.slice (some ⟨g, 0, none⟩) 4 4] w fun r w' => r = .returned (.int .i64 0) ∧ w = w' :=
  uFirst_any w (fun _ => True) _ 4 [0, 0, 0, 0] (rd_cells hg (by simp) fun j u hu => by
    match j, hu with
    | 0, hu => cases hu; exact h0
    | 1, hu => cases hu; exact h1
    | 2, hu => cases hu; exact h2
    | 3, hu => cases hu; exact h3)
theorem uIn (n a b : Int) (w : World) (h1 : a ≤ n) (h2 : n ≤ b) : Calls Tryz.prog 67 #[.int .i64 n, .int .i64 a, .int .i64 b] w fun r w' => r = .returned (.bool false) ∧ w = w' := by
  have t1 : decide (n < a) = false := decide_eq_false (by omega)
  have t2 : decide (b < n) = false := decide_eq_false (by omega)
  go_enter Tryz.func67, Tryz.ntmps67
  go_wp2
  go_ret
  exact ⟨rfl, rfl⟩
theorem tl_mk (d : List UInt8) : (⟨⟨d⟩⟩ : ByteArray).toList = d := by rw [ByteArray.toList_eq]
def plyd (m : ByteArray) : Bool := decide (m = be ∨ m = bc)
theorem uPlayed_any (W : World) (s : Int) (m : ByteArray) : Calls Tryz.prog 86 #[.agg #[.int .i64 s, .string m]] W fun r w' => r = .returned (.bool (plyd m)) ∧ Below W.heap.size W w' := by
  have hb := (Below.refl W.heap.size W).alloc (Nat.le_refl _) (.cells #[.int .i64 s, .string m] 65)
  have c1 : (W.alloc (.cells #[.int .i64 s, .string m] 65)).cell? ⟨W.heap.size, 1, none⟩ = some (.string m) := by simp
  have HB := Lib.hid hb
  clear hb
  go_enter Tryz.func86, Tryz.ntmps86
  by_cases h1 : m = be
  · have q1 : m.toList.isEmpty = true := by rw [h1]; show (ByteArray.mk ⟨[]⟩).toList.isEmpty = true; rw [tl_mk]; rfl
    have HP : Hid (plyd m = true) := decide_eq_true (.inl h1)
    clear h1
    go_wp2_with fail
    go_ret
    exact ⟨by rw [HP.out]; rfl, HB.out⟩
  · have q1 : m.toList.isEmpty = false := bytes_ne0 h1
    by_cases h2 : m = bc
    · have q2 : (m.toList == [99]) = true := by rw [h2]; show ((ByteArray.mk ⟨[99]⟩).toList == [99]) = true; rw [tl_mk]; rfl
      have HP : Hid (plyd m = true) := decide_eq_true (.inr h2)
      clear h1 h2
      go_wp2_with fail
      go_ret
      exact ⟨by rw [HP.out]; rfl, HB.out⟩
    · have q2 : (m.toList == [99]) = false := bytes_ne h2
      have HP : Hid (plyd m = false) := decide_eq_false (by rintro (h | h); exact h1 h; exact h2 h)
      clear h1 h2
      go_wp2_with fail
      go_ret
      exact ⟨by rw [HP.out]; rfl, HB.out⟩
theorem plyd_yes {x : EI} (h : GoodE x) (hp : plyd x.m = true) : 1 ≤ x.s ∧ x.s ≤ 99 := by
  rcases h with ⟨_, h⟩ | ⟨h, _⟩
  · exact h
  · rw [plyd, decide_eq_true_eq] at hp
    rcases h with h | h <;> rw [h] at hp <;> rcases hp with hp | hp <;> cases hp
theorem plyd_no {x : EI} (h : GoodE x) (hp : plyd x.m = false) : (x.m = bx ∨ x.m = bd) ∧ x.s = 0 := by
  rcases h with ⟨h, _⟩ | h
  · rw [plyd, decide_eq_false_iff_not] at hp
    exact absurd h hp
  · exact h
theorem uCheckEntry_ok (W : World) (s : Int) (m : ByteArray) (h : GoodE ⟨s, m⟩) : Calls Tryz.prog 68 #[.agg #[.int .i64 s, .string m]] W fun r w' => r = .returned (.int .i64 0) ∧ Below W.heap.size W w' := by
  have S0 := (St.refl W).blk_new #[.int .i64 s, .string m] 65
  simp only [List.nil_append] at S0
  obtain ⟨gc, hgc⟩ : ∃ g, g = W.heap.size := ⟨_, rfl⟩
  rw [← hgc] at S0
  have HS0 := Lib.hid S0
  have d0 := S0.blk_cell (i := 0) rfl 0
  have d1 := S0.blk_cell (i := 0) rfl 1
  clear S0
  have HPL := Lib.hid (fun w => uPlayed_any w s m)
  go_enter Tryz.func68, Tryz.ntmps68
  cases hp : plyd m with
  | true =>
    obtain ⟨h1, h2⟩ := plyd_yes (x := ⟨s, m⟩) h hp
    simp only at h1 h2
    rw [hp] at HPL
    clear h hp
    go_wp2_with fail
    rw [← hgc]
    generalize W.alloc (.cells #[.int .i64 s, .string m] 65) = w1 at *
    clear hgc
    go_at_call 86
    refine (HPL.out w1).mono ?_
    rintro e w2 ⟨rfl, hb⟩
    have HS2 := Lib.hid (HS0.out.ext hb)
    clear hb HS0 d0 d1
    have d0 := HS2.out.blk_cell (i := 0) rfl 0
    go_wp2_with (first
      | (go_at_call 67; refine (uIn _ _ _ _ h1 h2).mono ?_; rintro e w' ⟨rfl, rfl⟩)
      | (go_at_call 59; refine (uNo _ _).mono ?_; rintro e w' ⟨rfl, rfl⟩))
    go_ret
    exact ⟨rfl, HS2.out.bel⟩
  | false =>
    obtain ⟨h1, h2⟩ := plyd_no (x := ⟨s, m⟩) h hp
    simp only at h1 h2
    subst h2
    rw [hp] at HPL
    clear h hp
    go_wp2_with fail
    rw [← hgc]
    generalize W.alloc (.cells #[.int .i64 0, .string m] 65) = w1 at *
    clear hgc
    go_at_call 86
    refine (HPL.out w1).mono ?_
    rintro e w2 ⟨rfl, hb⟩
    have HS2 := Lib.hid (HS0.out.ext hb)
    clear hb HS0 d0 d1
    have d0 := HS2.out.blk_cell (i := 0) rfl 0
    have d1 := HS2.out.blk_cell (i := 0) rfl 1
    by_cases h3 : m = bx
    · have q2 : (m.toList == [120]) = true := by rw [h3]; show ((ByteArray.mk ⟨[120]⟩).toList == [120]) = true; rw [tl_mk]; rfl
      clear h1 h3
      go_wp2_with (go_at_call 59; refine (uNo _ _).mono ?_; rintro e w' ⟨rfl, rfl⟩)
      go_ret
      exact ⟨rfl, HS2.out.bel⟩
    · have q2 : (m.toList == [120]) = false := bytes_ne h3
      have q3 : (m.toList == [45]) = true := by rw [h1.resolve_left h3]; show ((ByteArray.mk ⟨[45]⟩).toList == [45]) = true; rw [tl_mk]; rfl
      clear h1 h3
      go_wp2_with (go_at_call 59; refine (uNo _ _).mono ?_; rintro e w' ⟨rfl, rfl⟩)
      go_ret
      exact ⟨rfl, HS2.out.bel⟩
theorem uOwn_any (W : World) (x : MkI) : Calls Tryz.prog 81 #[.agg #[.string x.pl, .string x.by_, .int .i64 x.h, .int .i64 x.s, .string x.m]] W fun r w' => r = .returned (.bool (ownK x)) ∧ Below W.heap.size W w' := by
  have hb := (Below.refl W.heap.size W).alloc (Nat.le_refl _) (.cells #[.string x.pl, .string x.by_, .int .i64 x.h, .int .i64 x.s, .string x.m] 67)
  have HB := Lib.hid hb
  have HO : Hid (ownK x = (x.by_.toList == x.pl.toList)) := Lib.hid (by
    unfold ownK
    by_cases h : x.by_ = x.pl
    · rw [decide_eq_true h, h]; simp
    · rw [decide_eq_false h]; exact (bytes_neU h).symm)
  clear hb
  obtain ⟨xp, xb, xh, xs, xm⟩ := x
  simp only at HB HO
  go_enter Tryz.func81, Tryz.ntmps81
  go_wp2_with fail
  go_ret
  exact ⟨by rw [HO.out]; rfl, HB.out⟩
end Go.Proofs.YtnaafefcijgpkaaGreatDoor
/- Chapter 10, the program: member, find, entry. -/
namespace Go.Proofs.YtnaafefcijgpkaaGreatDoor
open Go.RowKit Go.Mem Go.Sheet Go.Adj
theorem member1_any (W : World) (x : MbI) (s : ByteArray) (g : Nat) (hg : W.cell? ⟨g, 0, none⟩ = some (.string s)) :
    Calls Tryz.prog 90 #[.agg #[.string x.name, .string x.club, .int .i64 x.co], .pointer (some ⟨g, 0, none⟩)] W fun e w' => e = .returned (.bool (decide (x.name = s))) ∧ Below W.heap.size W w' := by
  have hb := (Below.refl W.heap.size W).alloc (Nat.le_refl _) (.cells #[.string x.name, .string x.club, .int .i64 x.co] 52)
  have HB := Lib.hid hb
  have hlt := World.block_lt_of_cell? _ _ hg
  have c0 := (hb.cell (p := ⟨g, 0, none⟩) hlt).trans hg
  have HO : Hid (decide (x.name = s) = (x.name.toList == s.toList)) := Lib.hid (by
    by_cases h : x.name = s
    · rw [decide_eq_true h, h]; simp
    · rw [decide_eq_false h]; exact (bytes_neU h).symm)
  clear hb hg hlt
  obtain ⟨xn, xc, xo⟩ := x
  simp only at HB HO c0
  go_enter Tryz.func90, Tryz.ntmps90
  go_wp2_with fail
  go_ret
  exact ⟨by rw [HO.out]; rfl, HB.out⟩
set_option maxRecDepth 100000 in
set_option maxHeartbeats 4000000 in
theorem idxMb_any (W : World) (v : Value) (n : Nat) (ms : List MbI) (s : ByteArray) (g : Nat) (hg : W.cell? ⟨g, 0, none⟩ = some (.string s)) (h : Rd W (· < W.heap.size) 3 v n (ms.flatMap MbI.cells)) :
    Calls Tryz.prog 89 #[v, .func (.func 90) #[] #[.pointer (some ⟨g, 0, none⟩)]] W fun e w' => e = .returned (.int .i64 (memI ms s)) ∧ Below W.heap.size W w' := by
  have hn := h.le
  have HLN : Hid (n = ms.length) := h.count (f := MbI.cells) (size := 3) (fun _ => rfl) (by decide)
  obtain ⟨A, c, rfl, _, _, _⟩ := h.open_
  have HM := Lib.hid h
  have hlt0 := World.block_lt_of_cell? _ _ hg
  have HC : Hid (∀ w x, Below W.heap.size W w → Calls Tryz.prog 90 (#[.agg #[.string (MbI.name x), .string x.club, .int .i64 x.co]] ++ #[.pointer (some ⟨g, 0, none⟩)]) w fun e w' => e = .returned (.bool (decide (x.name = s))) ∧ Below w.heap.size w w') := fun w x hb => member1_any w x s g ((hb.cell (p := ⟨g, 0, none⟩) hlt0).trans hg)
  clear h hg hlt0
  have hE := enters Tryz.func90 (by kernel_rfl) rfl
  unfold Enters at hE
  go_enter Tryz.func89, Tryz.ntmps89
  go_wp2
  go_loopw [8] (fun i w' => ∃ k : Nat, k ≤ n ∧ i = .int .i64 k ∧ Hid (∀ j, j < k → (mbAt ms j).name ≠ s) ∧ Below W.heap.size W w') (fun i _ => n - (intOf i).toNat)
  case atStart => exact ⟨0, Nat.zero_le _, rfl, (fun j hj => absurd hj (Nat.not_lt_zero _)), Below.refl _ _⟩
  case round =>
    obtain ⟨k, hk, rfl, hin, hbw⟩ := hrel
    by_cases hlt : k < n
    · obtain ⟨b, o, rfl, hx, c0, c1, c2⟩ := rd_mb (HM.out.later hbw) hlt
      have HCX := Lib.hid (HC.out wr (mbAt ms k) hbw)
      have HBW := Lib.hid hbw
      obtain ⟨x, hxe⟩ : ∃ x, x = mbAt ms k := ⟨_, rfl⟩
      rw [← hxe] at c0 c1 c2 HCX
      have HIN : Hid (x.name ≠ s → ∀ j, j < k + 1 → (mbAt ms j).name ≠ s) := fun he j hj => by
        rcases Nat.lt_or_ge j k with h1 | h1
        · exact hin.out j h1
        · rw [show j = k by omega, ← hxe]; exact he
      have HYE : Hid (x.name = s → memI ms s = (k : Int)) := fun he => by
        unfold memI
        exact fstI_at (P := fun j => decide ((mbAt ms j).name = s)) (decide_eq_true (by rw [← hxe]; exact he)) (fun j hj => decide_eq_false (hin.out j hj)) (by rw [← HLN.out]; exact hlt)
      clear hx hbw hxe hin
      obtain ⟨xn, xc, xo⟩ := x
      simp only at c0 c1 c2 HCX HIN HYE
      by_cases he : xn = s
      · have HF := Lib.hid (HYE.out he)
        have HC1 : Hid (Calls Tryz.prog 90 (#[.agg #[.string xn, .string xc, .int .i64 xo]] ++ #[.pointer (some ⟨g, 0, none⟩)]) wr fun e w' => e = .returned (.bool true) ∧ Below wr.heap.size wr w') := Lib.hid (by have := HCX.out; rw [decide_eq_true he] at this; exact this)
        clear he HCX HYE HIN
        go_wp2_with (go_at_call 90; refine HC1.out.mono ?_; rintro e w' ⟨rfl, hb2⟩; have HB2 := Lib.hid hb2; clear hb2)
        go_ret
        exact ⟨by rw [HF.out]; rfl, HBW.out.trans (HB2.out.mono HBW.out.size)⟩
      · have HF := Lib.hid (HIN.out he)
        have HC1 : Hid (Calls Tryz.prog 90 (#[.agg #[.string xn, .string xc, .int .i64 xo]] ++ #[.pointer (some ⟨g, 0, none⟩)]) wr fun e w' => e = .returned (.bool false) ∧ Below wr.heap.size wr w') := Lib.hid (by have := HCX.out; rw [decide_eq_false he] at this; exact this)
        clear he HCX HYE HIN
        go_wp2_with (go_at_call 90; refine HC1.out.mono ?_; rintro e w' ⟨rfl, hb2⟩; have HB2 := Lib.hid hb2; clear hb2)
        go_roundw
        case rel => exact ⟨k + 1, by omega, by go_num, HF, HBW.out.trans (HB2.out.mono HBW.out.size)⟩
        case measure => simp [intOf]; omega
    · obtain rfl : n = k := by omega
      have HF : Hid (memI ms s = -1) := Lib.hid (by
        unfold memI
        exact fstI_none fun j hj => decide_eq_false (hin.out j (by rw [HLN.out]; exact hj)))
      have HBW := Lib.hid hbw
      clear hbw hin
      go_wp2
      go_ret
      exact ⟨by rw [HF.out]; rfl, HBW.out⟩
set_option maxRecDepth 100000 in
set_option maxHeartbeats 4000000 in
theorem uMember_any (W : World) (u : UI) (s : ByteArray) (h : RdU W (· < W.heap.size) u) :
    Calls Tryz.prog 60 #[u.val, .string s] W fun e w' => e = .returned (.int .i64 (memI u.ms s)) ∧ Below W.heap.size W w' := by
  have hm := h.m
  clear h
  obtain ⟨vc, nc, cl, vm, nm, ms, vh, nh, hs, vk, nk, ks, vs, ns, sg, vp, np, ps⟩ := u
  simp only [UI.val] at *
  obtain ⟨A, c, rfl, _, _, _⟩ := hm.open_
  have S0 := ((St.refl W).blk_new #[vc, .slice A nm c, vh, vk, vs, vp] 28).blk_new #[.string s] 9
  simp only [List.cons_append, List.nil_append, World.size_alloc] at S0
  have d1 := S0.blk_cell (i := 0) rfl 1
  have HB := Lib.hid S0.bel
  have HI := Lib.hid (idxMb_any _ _ nm ms s (W.heap.size + 1) (S0.blk_cell (i := 1) rfl 0) (hm.later S0.bel))
  clear S0 hm
  go_enter Tryz.func60, Tryz.ntmps60
  go_wp2_with (go_at_call 89; refine HI.out.mono ?_; rintro e w' ⟨rfl, hb2⟩; have HB2 := Lib.hid hb2; clear hb2)
  go_ret
  exact ⟨rfl, HB.out.trans (HB2.out.mono HB.out.size)⟩
end Go.Proofs.YtnaafefcijgpkaaGreatDoor
/- Chapter 10, the program: find, entry. -/
namespace Go.Proofs.YtnaafefcijgpkaaGreatDoor
open Go.RowKit Go.Mem Go.Sheet Go.Adj
set_option maxRecDepth 100000 in
set_option maxHeartbeats 4000000 in
theorem find1_any (W : World) (x : MkI) (s : ByteArray) (hh : Int) (own : Bool) (g1 g2 g3 : Nat) (hg1 : W.cell? ⟨g1, 0, none⟩ = some (.string s)) (hg2 : W.cell? ⟨g2, 0, none⟩ = some (.int .i64 hh)) (hg3 : W.cell? ⟨g3, 0, none⟩ = some (.bool own)) :
    Calls Tryz.prog 114 #[.agg #[.string x.pl, .string x.by_, .int .i64 x.h, .int .i64 x.s, .string x.m], .pointer (some ⟨g1, 0, none⟩), .pointer (some ⟨g2, 0, none⟩), .pointer (some ⟨g3, 0, none⟩)] W fun e w' => e = .returned (.bool (keyK x s hh own)) ∧ Below W.heap.size W w' := by
  have S0 := (St.refl W).blk_new #[.string x.pl, .string x.by_, .int .i64 x.h, .int .i64 x.s, .string x.m] 67
  simp only [List.nil_append] at S0
  obtain ⟨gc, hgc⟩ : ∃ g, g = W.heap.size := ⟨_, rfl⟩
  rw [← hgc] at S0
  have HS0 := Lib.hid S0
  have hl1 := World.block_lt_of_cell? _ _ hg1
  have hl2 := World.block_lt_of_cell? _ _ hg2
  have hl3 := World.block_lt_of_cell? _ _ hg3
  have HG : Hid (∀ w', Below W.heap.size W w' → w'.cell? ⟨g1, 0, none⟩ = some (.string s) ∧ w'.cell? ⟨g2, 0, none⟩ = some (.int .i64 hh) ∧ w'.cell? ⟨g3, 0, none⟩ = some (.bool own)) := fun w' hb =>
    ⟨(hb.cell (p := ⟨g1, 0, none⟩) hl1).trans hg1, (hb.cell (p := ⟨g2, 0, none⟩) hl2).trans hg2, (hb.cell (p := ⟨g3, 0, none⟩) hl3).trans hg3⟩
  have HOW := Lib.hid (fun w => uOwn_any w x)
  have HK1 : Hid (x.pl ≠ s → keyK x s hh own = false) := fun e => keyK_no1 e
  have HK2 : Hid (x.h ≠ hh → keyK x s hh own = false) := fun e => keyK_no2 e
  have HK3 : Hid (x.pl = s → x.h = hh → keyK x s hh own = (ownK x == own)) := fun e e2 => by unfold keyK; rw [decide_eq_true e, decide_eq_true e2]; simp
  generalize keyK x s hh own = kb at *
  generalize ownK x = ob at *
  clear S0 hg1 hg2 hg3 hl1 hl2 hl3
  obtain ⟨xp, xb, xh, xs, xm⟩ := x
  simp only at *
  go_enter Tryz.func114, Tryz.ntmps114
  go_wp2_with fail
  rw [← hgc]
  generalize W.alloc (.cells #[.string xp, .string xb, .int .i64 xh, .int .i64 xs, .string xm] 67) = w1 at *
  clear hgc
  by_cases h1 : xp = s
  case neg =>
    have q1 : (xp.toList == s.toList) = false := bytes_neU h1
    have HN := Lib.hid (HK1.out h1)
    clear h1
    refine wp_cls 16 (fun w' => St W w' [blk gc 67 #[.string xp, .string xb, .int .i64 xh, .int .i64 xs, .string xm]]) (by kernel_rfl) (by kernel_rfl) HS0.out.drew ?_
    simp only [List.take_succ_cons, List.take_zero, List.drop_succ_cons, List.drop_zero]
    generalize hK : (fun w' => St W w' [blk gc 67 #[.string xp, .string xb, .int .i64 xh, .int .i64 xs, .string xm]]) = K
    intro hne
    have kS : ∀ y : Wd K, St W y.w [blk gc 67 #[.string xp, .string xb, .int .i64 xh, .int .i64 xs, .string xm]] := by subst hK; exact fun y => y.h
    have hK3 : ∀ w w' : World, K w → Below w.heap.size w w' → K w' := by subst hK; exact fun w w' h h' => h.ext h'
    have k0 : ∀ y : Wd K, y.w.cell? ⟨gc, 0, none⟩ = some (.string xp) := fun y => (kS y).blk_cell (i := 0) rfl 0
    have k1 : ∀ y : Wd K, y.w.cell? ⟨gc, 1, none⟩ = some (.string xb) := fun y => (kS y).blk_cell (i := 0) rfl 1
    have k2 : ∀ y : Wd K, y.w.cell? ⟨gc, 2, none⟩ = some (.int .i64 xh) := fun y => (kS y).blk_cell (i := 0) rfl 2
    have k3 : ∀ y : Wd K, y.w.cell? ⟨gc, 3, none⟩ = some (.int .i64 xs) := fun y => (kS y).blk_cell (i := 0) rfl 3
    have k4 : ∀ y : Wd K, y.w.cell? ⟨gc, 4, none⟩ = some (.string xm) := fun y => (kS y).blk_cell (i := 0) rfl 4
    have k5 : ∀ y : Wd K, y.w.cell? ⟨g1, 0, none⟩ = some (.string s) := fun y => (HG.out _ (kS y).bel).1
    have k6 : ∀ y : Wd K, y.w.cell? ⟨g2, 0, none⟩ = some (.int .i64 hh) := fun y => (HG.out _ (kS y).bel).2.1
    have k7 : ∀ y : Wd K, y.w.cell? ⟨g3, 0, none⟩ = some (.bool own) := fun y => (HG.out _ (kS y).bel).2.2
    have KS := Lib.hid kS
    have HKK := Lib.hid hK3
    clear hK kS HS0 hK3
    repeat (go_big_quiet_step ((go_at_call 81; exact cls_below HKK.out (HOW.out _))))
    refine wpQuiet_nil ?_
    intro y
    have SY := Lib.hid (KS.out y)
    clear k0 k1 k2 k3 k4 k5 k6 k7 KS HKK hne
    go_wp2_with fail
    go_ret
    exact ⟨by rw [HN.out]; rfl, SY.out.bel⟩
  have q1 : (xp.toList == s.toList) = true := by rw [h1]; simp
  by_cases h2 : xh = hh
  case neg =>
    have q2 : (xh == hh) = false := by simpa using h2
    have HN := Lib.hid (HK2.out h2)
    clear h1 h2
    refine wp_cls 16 (fun w' => St W w' [blk gc 67 #[.string xp, .string xb, .int .i64 xh, .int .i64 xs, .string xm]]) (by kernel_rfl) (by kernel_rfl) HS0.out.drew ?_
    simp only [List.take_succ_cons, List.take_zero, List.drop_succ_cons, List.drop_zero]
    generalize hK : (fun w' => St W w' [blk gc 67 #[.string xp, .string xb, .int .i64 xh, .int .i64 xs, .string xm]]) = K
    intro hne
    have kS : ∀ y : Wd K, St W y.w [blk gc 67 #[.string xp, .string xb, .int .i64 xh, .int .i64 xs, .string xm]] := by subst hK; exact fun y => y.h
    have hK3 : ∀ w w' : World, K w → Below w.heap.size w w' → K w' := by subst hK; exact fun w w' h h' => h.ext h'
    have k0 : ∀ y : Wd K, y.w.cell? ⟨gc, 0, none⟩ = some (.string xp) := fun y => (kS y).blk_cell (i := 0) rfl 0
    have k1 : ∀ y : Wd K, y.w.cell? ⟨gc, 1, none⟩ = some (.string xb) := fun y => (kS y).blk_cell (i := 0) rfl 1
    have k2 : ∀ y : Wd K, y.w.cell? ⟨gc, 2, none⟩ = some (.int .i64 xh) := fun y => (kS y).blk_cell (i := 0) rfl 2
    have k3 : ∀ y : Wd K, y.w.cell? ⟨gc, 3, none⟩ = some (.int .i64 xs) := fun y => (kS y).blk_cell (i := 0) rfl 3
    have k4 : ∀ y : Wd K, y.w.cell? ⟨gc, 4, none⟩ = some (.string xm) := fun y => (kS y).blk_cell (i := 0) rfl 4
    have k5 : ∀ y : Wd K, y.w.cell? ⟨g1, 0, none⟩ = some (.string s) := fun y => (HG.out _ (kS y).bel).1
    have k6 : ∀ y : Wd K, y.w.cell? ⟨g2, 0, none⟩ = some (.int .i64 hh) := fun y => (HG.out _ (kS y).bel).2.1
    have k7 : ∀ y : Wd K, y.w.cell? ⟨g3, 0, none⟩ = some (.bool own) := fun y => (HG.out _ (kS y).bel).2.2
    have KS := Lib.hid kS
    have HKK := Lib.hid hK3
    clear hK kS HS0 hK3
    repeat (go_big_quiet_step ((go_at_call 81; exact cls_below HKK.out (HOW.out _))))
    refine wpQuiet_nil ?_
    intro y
    have SY := Lib.hid (KS.out y)
    clear k0 k1 k2 k3 k4 k5 k6 k7 KS HKK hne
    go_wp2_with fail
    go_ret
    exact ⟨by rw [HN.out]; rfl, SY.out.bel⟩
  have q2 : (xh == hh) = true := by simpa using h2
  have HN := Lib.hid (HK3.out h1 h2)
  clear h1 h2
  refine wp_cls 16 (fun w' => St W w' [blk gc 67 #[.string xp, .string xb, .int .i64 xh, .int .i64 xs, .string xm]]) (by kernel_rfl) (by kernel_rfl) HS0.out.drew ?_
  simp only [List.take_succ_cons, List.take_zero, List.drop_succ_cons, List.drop_zero]
  generalize hK : (fun w' => St W w' [blk gc 67 #[.string xp, .string xb, .int .i64 xh, .int .i64 xs, .string xm]]) = K
  intro hne
  have kS : ∀ y : Wd K, St W y.w [blk gc 67 #[.string xp, .string xb, .int .i64 xh, .int .i64 xs, .string xm]] := by subst hK; exact fun y => y.h
  have hK3 : ∀ w w' : World, K w → Below w.heap.size w w' → K w' := by subst hK; exact fun w w' h h' => h.ext h'
  have k0 : ∀ y : Wd K, y.w.cell? ⟨gc, 0, none⟩ = some (.string xp) := fun y => (kS y).blk_cell (i := 0) rfl 0
  have k1 : ∀ y : Wd K, y.w.cell? ⟨gc, 1, none⟩ = some (.string xb) := fun y => (kS y).blk_cell (i := 0) rfl 1
  have k2 : ∀ y : Wd K, y.w.cell? ⟨gc, 2, none⟩ = some (.int .i64 xh) := fun y => (kS y).blk_cell (i := 0) rfl 2
  have k3 : ∀ y : Wd K, y.w.cell? ⟨gc, 3, none⟩ = some (.int .i64 xs) := fun y => (kS y).blk_cell (i := 0) rfl 3
  have k4 : ∀ y : Wd K, y.w.cell? ⟨gc, 4, none⟩ = some (.string xm) := fun y => (kS y).blk_cell (i := 0) rfl 4
  have k5 : ∀ y : Wd K, y.w.cell? ⟨g1, 0, none⟩ = some (.string s) := fun y => (HG.out _ (kS y).bel).1
  have k6 : ∀ y : Wd K, y.w.cell? ⟨g2, 0, none⟩ = some (.int .i64 hh) := fun y => (HG.out _ (kS y).bel).2.1
  have k7 : ∀ y : Wd K, y.w.cell? ⟨g3, 0, none⟩ = some (.bool own) := fun y => (HG.out _ (kS y).bel).2.2
  have KS := Lib.hid kS
  have HKK := Lib.hid hK3
  clear hK kS HS0 hK3
  repeat (go_big_quiet_step ((go_at_call 81; exact cls_below HKK.out (HOW.out _))))
  refine wpQuiet_nil ?_
  intro y
  have SY := Lib.hid (KS.out y)
  clear k0 k1 k2 k3 k4 k5 k6 k7 KS HKK hne
  go_wp2_with fail
  go_ret
  exact ⟨by rw [HN.out]; rfl, SY.out.bel⟩
end Go.Proofs.YtnaafefcijgpkaaGreatDoor
/- Chapter 10, the program: find, entry. -/
namespace Go.Proofs.YtnaafefcijgpkaaGreatDoor
open Go.RowKit Go.Mem Go.Sheet Go.Adj
set_option maxRecDepth 100000 in
set_option maxHeartbeats 4000000 in
theorem idxMk_any (W : World) (v : Value) (n : Nat) (ks : List MkI) (s : ByteArray) (hh : Int) (own : Bool) (g1 g2 g3 : Nat) (hg1 : W.cell? ⟨g1, 0, none⟩ = some (.string s)) (hg2 : W.cell? ⟨g2, 0, none⟩ = some (.int .i64 hh)) (hg3 : W.cell? ⟨g3, 0, none⟩ = some (.bool own)) (h : Rd W (· < W.heap.size) 5 v n (ks.flatMap MkI.cells)) :
    Calls Tryz.prog 113 #[v, .func (.func 114) #[] #[.pointer (some ⟨g1, 0, none⟩), .pointer (some ⟨g2, 0, none⟩), .pointer (some ⟨g3, 0, none⟩)]] W fun e w' => e = .returned (.int .i64 (mkI ks s hh own)) ∧ Below W.heap.size W w' := by
  have hn := h.le
  have HLN : Hid (n = ks.length) := h.count (f := MkI.cells) (size := 5) (fun _ => rfl) (by decide)
  obtain ⟨A, c, rfl, _, _, _⟩ := h.open_
  have HM := Lib.hid h
  have hl1 := World.block_lt_of_cell? _ _ hg1
  have hl2 := World.block_lt_of_cell? _ _ hg2
  have hl3 := World.block_lt_of_cell? _ _ hg3
  have HC : Hid (∀ w x, Below W.heap.size W w → Calls Tryz.prog 114 (#[.agg #[.string (MkI.pl x), .string x.by_, .int .i64 x.h, .int .i64 x.s, .string x.m]] ++ #[.pointer (some ⟨g1, 0, none⟩), .pointer (some ⟨g2, 0, none⟩), .pointer (some ⟨g3, 0, none⟩)]) w fun e w' => e = .returned (.bool (keyK x s hh own)) ∧ Below w.heap.size w w') := fun w x hb => find1_any w x s hh own g1 g2 g3 ((hb.cell (p := ⟨g1, 0, none⟩) hl1).trans hg1) ((hb.cell (p := ⟨g2, 0, none⟩) hl2).trans hg2) ((hb.cell (p := ⟨g3, 0, none⟩) hl3).trans hg3)
  clear h hg1 hg2 hg3 hl1 hl2 hl3
  have hE := enters Tryz.func114 (by kernel_rfl) rfl
  unfold Enters at hE
  go_enter Tryz.func113, Tryz.ntmps113
  go_wp2
  go_loopw [8] (fun i w' => ∃ k : Nat, k ≤ n ∧ i = .int .i64 k ∧ Hid (∀ j, j < k → keyK (mkAt ks j) s hh own = false) ∧ Below W.heap.size W w') (fun i _ => n - (intOf i).toNat)
  case atStart => exact ⟨0, Nat.zero_le _, rfl, (fun j hj => absurd hj (Nat.not_lt_zero _)), Below.refl _ _⟩
  case round =>
    obtain ⟨k, hk, rfl, hin, hbw⟩ := hrel
    by_cases hlt : k < n
    · obtain ⟨b, o, rfl, hx, c0, c1, c2, c3, c4⟩ := rd_mk (HM.out.later hbw) hlt
      have HCX := Lib.hid (HC.out wr (mkAt ks k) hbw)
      have HBW := Lib.hid hbw
      obtain ⟨x, hxe⟩ : ∃ x, x = mkAt ks k := ⟨_, rfl⟩
      rw [← hxe] at c0 c1 c2 c3 c4 HCX
      have HIN : Hid (keyK x s hh own = false → ∀ j, j < k + 1 → keyK (mkAt ks j) s hh own = false) := fun he j hj => by
        rcases Nat.lt_or_ge j k with h1 | h1
        · exact hin.out j h1
        · rw [show j = k by omega, ← hxe]; exact he
      have HYE : Hid (keyK x s hh own = true → mkI ks s hh own = (k : Int)) := fun he => by
        unfold mkI
        exact fstI_at (P := fun j => keyK (mkAt ks j) s hh own) (by rw [← hxe]; exact he) hin.out (by rw [← HLN.out]; exact hlt)
      generalize keyK x s hh own = kb at HCX HIN HYE
      clear hx hbw hxe hin
      obtain ⟨xp, xb, xh, xs, xm⟩ := x
      simp only at c0 c1 c2 c3 c4 HCX
      cases kb
      · have HF := Lib.hid (HIN.out rfl)
        clear HYE HIN
        go_wp2_with (go_at_call 114; refine HCX.out.mono ?_; rintro e w' ⟨rfl, hb2⟩; have HB2 := Lib.hid hb2; clear hb2)
        go_roundw
        case rel => exact ⟨k + 1, by omega, by go_num, HF, HBW.out.trans (HB2.out.mono HBW.out.size)⟩
        case measure => simp [intOf]; omega
      · have HF := Lib.hid (HYE.out rfl)
        clear HYE HIN
        go_wp2_with (go_at_call 114; refine HCX.out.mono ?_; rintro e w' ⟨rfl, hb2⟩; have HB2 := Lib.hid hb2; clear hb2)
        go_ret
        exact ⟨by rw [HF.out]; rfl, HBW.out.trans (HB2.out.mono HBW.out.size)⟩
    · obtain rfl : n = k := by omega
      have HF : Hid (mkI ks s hh own = -1) := Lib.hid (by
        unfold mkI
        exact fstI_none fun j hj => hin.out j (by rw [HLN.out]; exact hj))
      have HBW := Lib.hid hbw
      clear hbw hin
      go_wp2
      go_ret
      exact ⟨by rw [HF.out]; rfl, HBW.out⟩
set_option maxRecDepth 100000 in
set_option maxHeartbeats 4000000 in
theorem uFind_any (W : World) (u : UI) (s : ByteArray) (hh : Int) (own : Bool) (h : RdU W (· < W.heap.size) u) :
    Calls Tryz.prog 88 #[u.val, .string s, .int .i64 hh, .bool own] W fun e w' => e = .returned (.int .i64 (mkI u.ks s hh own)) ∧ Below W.heap.size W w' := by
  have hm := h.k
  clear h
  obtain ⟨vc, nc, cl, vm, nm, ms, vh, nh, hs, vk, nk, ks, vs, ns, sg, vp, np, ps⟩ := u
  simp only [UI.val] at *
  obtain ⟨A, c, rfl, _, _, _⟩ := hm.open_
  have S0 := ((((St.refl W).blk_new #[vc, vm, vh, .slice A nk c, vs, vp] 28).blk_new #[.string s] 9).blk_new #[.int .i64 hh] 3).blk_new #[.bool own] 4
  simp only [List.cons_append, List.nil_append, World.size_alloc] at S0
  have d3 := S0.blk_cell (i := 0) rfl 3
  have HB := Lib.hid S0.bel
  have HI := Lib.hid (idxMk_any _ _ nk ks s hh own (W.heap.size + 1) (W.heap.size + 1 + 1) (W.heap.size + 1 + 1 + 1) (S0.blk_cell (i := 1) rfl 0) (S0.blk_cell (i := 2) rfl 0) (S0.blk_cell (i := 3) rfl 0) (hm.later S0.bel))
  clear S0 hm
  go_enter Tryz.func88, Tryz.ntmps88
  go_wp2_with (go_at_call 113; refine HI.out.mono ?_; rintro e w' ⟨rfl, hb2⟩; have HB2 := Lib.hid hb2; clear hb2)
  go_ret
  exact ⟨rfl, HB.out.trans (HB2.out.mono HB.out.size)⟩
theorem res_uentry (tmps : Array Value) (w : World) (g : Nat) (a b v : Value) (hp : tmps.getD 8 undef = .pointer (some ⟨g, 0, none⟩)) (hv : tmps.getD 9 undef = v) (h0 : w.cell? ⟨g, 0, none⟩ = some a) (h1 : w.cell? ⟨g, 1, none⟩ = some b) :
    (results Tryz.f58 tmps).run Tryz.prog w = .ok (.tuple #[.agg #[a, b], v]) w := by
  have e2 : tmps[8]?.getD undef = .pointer (some ⟨g, 0, none⟩) := by simpa using hp
  have e3 : tmps[9]?.getD undef = v := by simpa using hv
  simp [results, Tryz.results58, e2, e3, h0, h1, go_sem]
set_option maxRecDepth 100000 in
set_option maxHeartbeats 4000000 in
theorem uEntry_any (W : World) (u : UI) (s : ByteArray) (hh : Int) (own : Bool) (h : RdU W (· < W.heap.size) u) :
    Calls Tryz.prog 58 #[u.val, .string s, .int .i64 hh, .bool own] W fun e w' => e = .returned (.tuple #[.agg #[.int .i64 (entK u.ks s hh own).s, .string (entK u.ks s hh own).m], .bool (decide (0 ≤ mkI u.ks s hh own))]) ∧ Below W.heap.size W w' := by
  have hm := h.k
  have HLN : Hid (u.nk = u.ks.length) := hm.count (f := MkI.cells) (size := 5) (fun _ => rfl) (by decide)
  have HF := Lib.hid (fun w (hb : Below W.heap.size W w) => uFind_any w u s hh own (h.later hb))
  clear h
  obtain ⟨vc, nc, cl, vm, nm, ms, vh, nh, hs, vk, nk, ks, vs, ns, sg, vp, np, ps⟩ := u
  simp only [UI.val] at *
  obtain ⟨A, c, rfl, _, _, _⟩ := hm.open_
  have hnk := hm.le
  have S0 := ((St.refl W).blk_new #[vc, vm, vh, .slice A nk c, vs, vp] 28).blk_new #[.int .i64 0, .string ⟨#[]⟩] 65
  simp only [List.cons_append, List.nil_append, World.size_alloc] at S0
  have HS0 := Lib.hid S0
  have d0 := S0.blk_cell (i := 0) rfl 0
  have d1 := S0.blk_cell (i := 0) rfl 1
  have d2 := S0.blk_cell (i := 0) rfl 2
  have d3 := S0.blk_cell (i := 0) rfl 3
  have d4 := S0.blk_cell (i := 0) rfl 4
  have d5 := S0.blk_cell (i := 0) rfl 5
  have HM := Lib.hid hm
  clear S0 hm
  have HCASE : Hid ((mkI ks s hh own < 0 ∧ entK ks s hh own = ⟨0, bd⟩) ∨ ∃ k : Nat, k < nk ∧ mkI ks s hh own = (k : Int) ∧ entK ks s hh own = (mkAt ks k).e) := Lib.hid (by
    unfold entK
    by_cases h0 : 0 ≤ mkI ks s hh own
    · refine .inr ⟨(mkI ks s hh own).toNat, ?_, by omega, by rw [if_pos h0]⟩
      rw [HLN.out]
      unfold mkI at h0 ⊢
      rcases fstI_inv (fun j => keyK (mkAt ks j) s hh own) ks.length with ⟨e1, _⟩ | ⟨k, hk, e1, _, _⟩
      · rw [e1] at h0; exact absurd h0 (by decide)
      · rw [e1]; omega
    · exact .inl ⟨by omega, by rw [if_neg h0]⟩)
  generalize entK ks s hh own = en at *
  generalize mkI ks s hh own = mi at *
  go_enter Tryz.func58, Tryz.ntmps58
  go_wp2_with fail
  obtain ⟨gc, hgc⟩ : ∃ g, g = W.heap.size := ⟨_, rfl⟩
  obtain ⟨gd, hgd⟩ : ∃ g, g = W.heap.size + 1 := ⟨_, rfl⟩
  rw [← hgd, ← hgc] at HS0
  try rw [← hgd]
  try rw [← hgc]
  generalize (W.alloc (.cells #[vc, vm, vh, .slice A nk c, vs, vp] 28)).alloc (.cells #[.int .i64 0, .string ⟨#[]⟩] 65) = w1 at *
  go_at_call 88
  refine (HF.out w1 HS0.out.bel).mono ?_
  rintro e w2 ⟨rfl, hb⟩
  have HS2 := Lib.hid (HS0.out.ext hb)
  clear hb HS0 d0 d1 d2 d3 d4 d5
  have d3 := HS2.out.blk_cell (i := 0) rfl 3
  have e0 := HS2.out.blk_cell (i := 1) rfl 0
  have e1 := HS2.out.blk_cell (i := 1) rfl 1
  have f0 := HS2.out.blk_frozen (i := 1) rfl 0
  have f1 := HS2.out.blk_frozen (i := 1) rfl 1
  rcases HCASE.out with ⟨h1, h2⟩ | ⟨k, hk, h1, h2⟩
  · have t1 : decide (mi < 0) = true := decide_eq_true h1
    have t2 : Hid (decide (0 ≤ mi) = false) := Lib.hid (decide_eq_false (by omega))
    subst h2
    clear h1 hgc hgd
    go_wp2_with fail
    have S8 := (HS2.out.blk_set (i := 1) rfl 0 (.int .i64 0)).blk_set (i := 1) rfl 1 (.string bd)
    refine bodyPost_ret (res_uentry _ _ gd _ _ _ rfl rfl (S8.blk_cell (i := 1) rfl 0) (S8.blk_cell (i := 1) rfl 1)) rfl ?_
    exact ⟨by first | rfl | (rw [t2.out]; rfl), S8.bel⟩
  · have t1 : decide (mi < 0) = false := decide_eq_false (by omega)
    have t2 : Hid (decide (0 ≤ mi) = true) := Lib.hid (decide_eq_true (by omega))
    obtain ⟨b, o, rfl, hx, c0, c1, c2, c3, c4⟩ := rd_mk (HM.out.later HS2.out.bel) hk
    generalize mkAt ks k = x at *
    subst h2
    obtain ⟨xp, xb, xh, xs, xm⟩ := x
    simp only [MkI.e] at *
    have T1 := Lib.hid h1
    clear hx hgc hgd
    subst h1
    go_wp2_with fail
    have S8 := (HS2.out.blk_set (i := 1) rfl 0 (.int .i64 xs)).blk_set (i := 1) rfl 1 (.string xm)
    refine bodyPost_ret (res_uentry _ _ gd _ _ _ rfl rfl (S8.blk_cell (i := 1) rfl 0) (S8.blk_cell (i := 1) rfl 1)) rfl ?_
    exact ⟨by first | rfl | (rw [t2.out]; rfl), S8.bel⟩
end Go.Proofs.YtnaafefcijgpkaaGreatDoor
/- Chapter 10, the program: holes, open, differs, signable: of a member who can sign. -/
namespace Go.Proofs.YtnaafefcijgpkaaGreatDoor
open Go.RowKit Go.Mem Go.Sheet Go.Adj
theorem open1_no (W : World) (a b : EI) : Calls Tryz.prog 122 #[.agg #[.int .i64 a.s, .string a.m], .agg #[.int .i64 b.s, .string b.m], .bool true] W fun e w' => e = .returned (.bool false) ∧ Below W.heap.size W w' := by
  have HB := Lib.hid ((((St.refl W).alloc (.cells #[.int .i64 a.s, .string a.m] 65)).alloc (.cells #[.int .i64 b.s, .string b.m] 65)).bel)
  go_enter Tryz.func122, Tryz.ntmps122
  go_wp2_with fail
  go_ret
  exact ⟨rfl, HB.out⟩
theorem differs1_no (W : World) (a b : EI) (hab : a = b) : Calls Tryz.prog 123 #[.agg #[.int .i64 a.s, .string a.m], .agg #[.int .i64 b.s, .string b.m], .bool true] W fun e w' => e = .returned (.bool false) ∧ Below W.heap.size W w' := by
  subst hab
  have S0 := ((St.refl W).blk_new #[.int .i64 a.s, .string a.m] 65).blk_new #[.int .i64 a.s, .string a.m] 65
  simp only [List.cons_append, List.nil_append, World.size_alloc] at S0
  have HB := Lib.hid S0.bel
  have q1 : (a.s == a.s) = true := by simp
  have q2 : (a.m.toList == a.m.toList) = true := by simp
  clear S0
  obtain ⟨s, m⟩ := a
  simp only at HB q1 q2
  go_enter Tryz.func123, Tryz.ntmps123
  go_wp2_with fail
  go_ret
  exact ⟨rfl, HB.out⟩
set_option maxRecDepth 100000 in
set_option maxHeartbeats 4000000 in
theorem uHolesOpen (W : World) (u : UI) (s : ByteArray) (hnh : u.nh ≤ 36) (hsg : Sgn u s) (h : RdU W (· < W.heap.size) u) :
    Calls Tryz.prog 121 #[u.val, .string s, .func (.func 122) #[] #[]] W fun e w' => e = .returned (.slice none 0 0) ∧ Below W.heap.size W w' := by
  have HEN : Hid (∀ (i : Nat) own w, i < u.nh → Below W.heap.size W w → Calls Tryz.prog 58 #[u.val, .string s, .int .i64 ((i : Int) + 1), .bool own] w fun e w' => e = .returned (.tuple #[.agg #[.int .i64 (entK u.ks s ((i : Int) + 1) own).s, .string (entK u.ks s ((i : Int) + 1) own).m], .bool true]) ∧ Below w.heap.size w w') := fun i own w hi hb => by
    have h1 := uEntry_any w u s ((i : Int) + 1) own (h.later hb)
    have h2 := hsg.2 (i + 1) (by omega) (by omega)
    rw [decide_eq_true (by cases own; exact h2.1; exact h2.2.1)] at h1
    exact h1
  have HCL : Hid (∀ (i : Nat) w, i < u.nh → Calls Tryz.prog 122 #[.agg #[.int .i64 (entK u.ks s ((i : Int) + 1) false).s, .string (entK u.ks s ((i : Int) + 1) false).m], .agg #[.int .i64 (entK u.ks s ((i : Int) + 1) true).s, .string (entK u.ks s ((i : Int) + 1) true).m], .bool true] w fun e w' => e = .returned (.bool false) ∧ Below w.heap.size w w') := fun i w hi => open1_no w _ _
  have hh := h.h
  clear h hsg
  generalize (fun (i : Nat) own => entK u.ks s ((i : Int) + 1) own) = EN at *
  obtain ⟨vc, nc, cl, vm, nm, ms, vh, nh, hs, vk, nk, ks, vs, ns, sg, vp, np, ps⟩ := u
  simp only [UI.val] at *
  obtain ⟨Ah, ch, rfl, _, _, _⟩ := hh.open_
  have S0 := (St.refl W).blk_new #[vc, vm, .slice Ah nh ch, vk, vs, vp] 28
  simp only [List.nil_append] at S0
  obtain ⟨gc, hgc⟩ : ∃ g, g = W.heap.size := ⟨_, rfl⟩
  rw [← hgc] at S0
  have HS0 := Lib.hid S0
  have d2 := S0.blk_cell (i := 0) rfl 2
  clear S0 hh
  have hE := enters Tryz.func122 (by kernel_rfl) rfl
  unfold Enters at hE
  go_enter Tryz.func121, Tryz.ntmps121
  go_wp2_with fail
  rw [← hgc]
  generalize W.alloc (.cells #[vc, vm, .slice Ah nh ch, vk, vs, vp] 28) = w1 at *
  clear hgc
  go_loopw [16, 7] (fun i lv w' => ∃ k : Nat, k ≤ nh ∧ i = .int .i64 k ∧ lv = .slice none 0 0 ∧ St W w' [blk gc 28 #[vc, vm, .slice Ah nh ch, vk, vs, vp]]) (fun i _ _ => nh - (intOf i).toNat)
  case atStart => exact ⟨0, Nat.zero_le _, rfl, rfl, HS0.out⟩
  case round =>
    obtain ⟨k, hk, rfl, rfl, S⟩ := hrel
    clear HS0 d2
    by_cases hlt : k < nh
    · have HE1 := Lib.hid (HEN.out k false wr hlt S.bel)
      have HE2 := Lib.hid (fun w => HEN.out k true w hlt)
      have HC := Lib.hid (fun w => HCL.out k w hlt)
      generalize entK ks s ((k : Int) + 1) false = ea at *
      generalize entK ks s ((k : Int) + 1) true = eb at *
      obtain ⟨as_, am⟩ := ea
      obtain ⟨bs, bm⟩ := eb
      simp only at HE1 HE2 HC
      have d0 := S.blk_cell (i := 0) rfl 0
      have d1 := S.blk_cell (i := 0) rfl 1
      have d2 := S.blk_cell (i := 0) rfl 2
      have d3 := S.blk_cell (i := 0) rfl 3
      have d4 := S.blk_cell (i := 0) rfl 4
      have d5 := S.blk_cell (i := 0) rfl 5
      have HS := Lib.hid S
      clear S
      go_wp2_with fail
      go_at_call 58
      refine HE1.out.mono ?_
      rintro e w2 ⟨rfl, hb⟩
      have S2 := (HS.out.ext hb).blk_new #[.int .i64 as_, .string am] 65
      simp only [List.cons_append, List.nil_append] at S2
      have HS2 := Lib.hid S2
      clear hb HS S2 d0 d1 d2 d3 d4 d5 HE1
      have d0 := HS2.out.blk_cell (i := 0) rfl 0
      have d1 := HS2.out.blk_cell (i := 0) rfl 1
      have d2 := HS2.out.blk_cell (i := 0) rfl 2
      have d3 := HS2.out.blk_cell (i := 0) rfl 3
      have d4 := HS2.out.blk_cell (i := 0) rfl 4
      have d5 := HS2.out.blk_cell (i := 0) rfl 5
      have HE3 := Lib.hid (HE2.out _ HS2.out.bel)
      clear HE2
      go_wp2_with fail
      go_at_call 58
      refine HE3.out.mono ?_
      rintro e w3 ⟨rfl, hb⟩
      have S3 := (HS2.out.ext hb).blk_new #[.int .i64 bs, .string bm] 65
      simp only [List.cons_append, List.nil_append] at S3
      have e0 := S3.blk_cell (i := 1) rfl 0
      have e1 := S3.blk_cell (i := 1) rfl 1
      have HS3 := Lib.hid S3
      clear hb HS2 S3 d0 d1 d2 d3 d4 d5 HE3
      go_wp2_with fail
      go_at_call 122
      refine (HC.out _).mono ?_
      rintro e w4 ⟨rfl, hb⟩
      have HS4 := Lib.hid ((HS3.out.ext hb).sub (L' := [_]) (.cons_cons _ (List.nil_sublist _)))
      clear hb HS3 e0 e1 HC
      go_wp2_with fail
      go_roundw
      case rel => exact ⟨k + 1, by omega, by go_num, rfl, HS4.out⟩
      case measure => simp [intOf]; omega
    · obtain rfl : nh = k := by omega
      have HB := Lib.hid S.bel
      clear S
      go_wp2_with fail
      go_ret
      exact ⟨rfl, HB.out⟩
set_option maxRecDepth 100000 in
set_option maxHeartbeats 4000000 in
theorem uHolesDiff (W : World) (u : UI) (s : ByteArray) (hnh : u.nh ≤ 36) (hsg : Sgn u s) (h : RdU W (· < W.heap.size) u) :
    Calls Tryz.prog 121 #[u.val, .string s, .func (.func 123) #[] #[]] W fun e w' => e = .returned (.slice none 0 0) ∧ Below W.heap.size W w' := by
  have HEN : Hid (∀ (i : Nat) own w, i < u.nh → Below W.heap.size W w → Calls Tryz.prog 58 #[u.val, .string s, .int .i64 ((i : Int) + 1), .bool own] w fun e w' => e = .returned (.tuple #[.agg #[.int .i64 (entK u.ks s ((i : Int) + 1) own).s, .string (entK u.ks s ((i : Int) + 1) own).m], .bool true]) ∧ Below w.heap.size w w') := fun i own w hi hb => by
    have h1 := uEntry_any w u s ((i : Int) + 1) own (h.later hb)
    have h2 := hsg.2 (i + 1) (by omega) (by omega)
    rw [decide_eq_true (by cases own; exact h2.1; exact h2.2.1)] at h1
    exact h1
  have HCL : Hid (∀ (i : Nat) w, i < u.nh → Calls Tryz.prog 123 #[.agg #[.int .i64 (entK u.ks s ((i : Int) + 1) false).s, .string (entK u.ks s ((i : Int) + 1) false).m], .agg #[.int .i64 (entK u.ks s ((i : Int) + 1) true).s, .string (entK u.ks s ((i : Int) + 1) true).m], .bool true] w fun e w' => e = .returned (.bool false) ∧ Below w.heap.size w w') := fun i w hi => differs1_no w _ _ (hsg.2 (i + 1) (by omega) (by omega)).2.2
  have hh := h.h
  clear h hsg
  generalize (fun (i : Nat) own => entK u.ks s ((i : Int) + 1) own) = EN at *
  obtain ⟨vc, nc, cl, vm, nm, ms, vh, nh, hs, vk, nk, ks, vs, ns, sg, vp, np, ps⟩ := u
  simp only [UI.val] at *
  obtain ⟨Ah, ch, rfl, _, _, _⟩ := hh.open_
  have S0 := (St.refl W).blk_new #[vc, vm, .slice Ah nh ch, vk, vs, vp] 28
  simp only [List.nil_append] at S0
  obtain ⟨gc, hgc⟩ : ∃ g, g = W.heap.size := ⟨_, rfl⟩
  rw [← hgc] at S0
  have HS0 := Lib.hid S0
  have d2 := S0.blk_cell (i := 0) rfl 2
  clear S0 hh
  have hE := enters Tryz.func123 (by kernel_rfl) rfl
  unfold Enters at hE
  go_enter Tryz.func121, Tryz.ntmps121
  go_wp2_with fail
  rw [← hgc]
  generalize W.alloc (.cells #[vc, vm, .slice Ah nh ch, vk, vs, vp] 28) = w1 at *
  clear hgc
  go_loopw [16, 7] (fun i lv w' => ∃ k : Nat, k ≤ nh ∧ i = .int .i64 k ∧ lv = .slice none 0 0 ∧ St W w' [blk gc 28 #[vc, vm, .slice Ah nh ch, vk, vs, vp]]) (fun i _ _ => nh - (intOf i).toNat)
  case atStart => exact ⟨0, Nat.zero_le _, rfl, rfl, HS0.out⟩
  case round =>
    obtain ⟨k, hk, rfl, rfl, S⟩ := hrel
    clear HS0 d2
    by_cases hlt : k < nh
    · have HE1 := Lib.hid (HEN.out k false wr hlt S.bel)
      have HE2 := Lib.hid (fun w => HEN.out k true w hlt)
      have HC := Lib.hid (fun w => HCL.out k w hlt)
      generalize entK ks s ((k : Int) + 1) false = ea at *
      generalize entK ks s ((k : Int) + 1) true = eb at *
      obtain ⟨as_, am⟩ := ea
      obtain ⟨bs, bm⟩ := eb
      simp only at HE1 HE2 HC
      have d0 := S.blk_cell (i := 0) rfl 0
      have d1 := S.blk_cell (i := 0) rfl 1
      have d2 := S.blk_cell (i := 0) rfl 2
      have d3 := S.blk_cell (i := 0) rfl 3
      have d4 := S.blk_cell (i := 0) rfl 4
      have d5 := S.blk_cell (i := 0) rfl 5
      have HS := Lib.hid S
      clear S
      go_wp2_with fail
      go_at_call 58
      refine HE1.out.mono ?_
      rintro e w2 ⟨rfl, hb⟩
      have S2 := (HS.out.ext hb).blk_new #[.int .i64 as_, .string am] 65
      simp only [List.cons_append, List.nil_append] at S2
      have HS2 := Lib.hid S2
      clear hb HS S2 d0 d1 d2 d3 d4 d5 HE1
      have d0 := HS2.out.blk_cell (i := 0) rfl 0
      have d1 := HS2.out.blk_cell (i := 0) rfl 1
      have d2 := HS2.out.blk_cell (i := 0) rfl 2
      have d3 := HS2.out.blk_cell (i := 0) rfl 3
      have d4 := HS2.out.blk_cell (i := 0) rfl 4
      have d5 := HS2.out.blk_cell (i := 0) rfl 5
      have HE3 := Lib.hid (HE2.out _ HS2.out.bel)
      clear HE2
      go_wp2_with fail
      go_at_call 58
      refine HE3.out.mono ?_
      rintro e w3 ⟨rfl, hb⟩
      have S3 := (HS2.out.ext hb).blk_new #[.int .i64 bs, .string bm] 65
      simp only [List.cons_append, List.nil_append] at S3
      have e0 := S3.blk_cell (i := 1) rfl 0
      have e1 := S3.blk_cell (i := 1) rfl 1
      have HS3 := Lib.hid S3
      clear hb HS2 S3 d0 d1 d2 d3 d4 d5 HE3
      go_wp2_with fail
      go_at_call 123
      refine (HC.out _).mono ?_
      rintro e w4 ⟨rfl, hb⟩
      have HS4 := Lib.hid ((HS3.out.ext hb).sub (L' := [_]) (.cons_cons _ (List.nil_sublist _)))
      clear hb HS3 e0 e1 HC
      go_wp2_with fail
      go_roundw
      case rel => exact ⟨k + 1, by omega, by go_num, rfl, HS4.out⟩
      case measure => simp [intOf]; omega
    · obtain rfl : nh = k := by omega
      have HB := Lib.hid S.bel
      clear S
      go_wp2_with fail
      go_ret
      exact ⟨rfl, HB.out⟩
set_option maxRecDepth 100000 in
set_option maxHeartbeats 4000000 in
theorem uOpen_none (W : World) (u : UI) (s : ByteArray) (hnh : u.nh ≤ 36) (hsg : Sgn u s) (h : RdU W (· < W.heap.size) u) :
    Calls Tryz.prog 108 #[u.val, .string s] W fun e w' => e = .returned (.slice none 0 0) ∧ Below W.heap.size W w' := by
  have HH := Lib.hid (fun w (hb : Below W.heap.size W w) => uHolesOpen w u s hnh hsg (h.later hb))
  clear h hsg
  obtain ⟨vc, nc, cl, vm, nm, ms, vh, nh, hs, vk, nk, ks, vs, ns, sg, vp, np, ps⟩ := u
  simp only [UI.val] at *
  have S0 := (St.refl W).blk_new #[vc, vm, vh, vk, vs, vp] 28
  simp only [List.nil_append] at S0
  have HS0 := Lib.hid S0
  have d0 := S0.blk_cell (i := 0) rfl 0
  have d1 := S0.blk_cell (i := 0) rfl 1
  have d2 := S0.blk_cell (i := 0) rfl 2
  have d3 := S0.blk_cell (i := 0) rfl 3
  have d4 := S0.blk_cell (i := 0) rfl 4
  have d5 := S0.blk_cell (i := 0) rfl 5
  have HI := Lib.hid (HH.out _ S0.bel)
  have HB := Lib.hid S0.bel
  clear S0 HS0 HH
  go_enter Tryz.func108, Tryz.ntmps108
  go_wp2_with fail
  generalize W.alloc (.cells #[vc, vm, vh, vk, vs, vp] 28) = w1 at *
  go_at_call 121
  refine HI.out.mono ?_
  rintro e w' ⟨rfl, hb2⟩
  have HB2 := Lib.hid hb2
  clear hb2
  go_wp2_with fail
  go_ret
  exact ⟨rfl, HB.out.trans (HB2.out.mono HB.out.size)⟩
set_option maxRecDepth 100000 in
set_option maxHeartbeats 4000000 in
theorem uDiffers_none (W : World) (u : UI) (s : ByteArray) (hnh : u.nh ≤ 36) (hsg : Sgn u s) (h : RdU W (· < W.heap.size) u) :
    Calls Tryz.prog 109 #[u.val, .string s] W fun e w' => e = .returned (.slice none 0 0) ∧ Below W.heap.size W w' := by
  have HH := Lib.hid (fun w (hb : Below W.heap.size W w) => uHolesDiff w u s hnh hsg (h.later hb))
  clear h hsg
  obtain ⟨vc, nc, cl, vm, nm, ms, vh, nh, hs, vk, nk, ks, vs, ns, sg, vp, np, ps⟩ := u
  simp only [UI.val] at *
  have S0 := (St.refl W).blk_new #[vc, vm, vh, vk, vs, vp] 28
  simp only [List.nil_append] at S0
  have HS0 := Lib.hid S0
  have d0 := S0.blk_cell (i := 0) rfl 0
  have d1 := S0.blk_cell (i := 0) rfl 1
  have d2 := S0.blk_cell (i := 0) rfl 2
  have d3 := S0.blk_cell (i := 0) rfl 3
  have d4 := S0.blk_cell (i := 0) rfl 4
  have d5 := S0.blk_cell (i := 0) rfl 5
  have HI := Lib.hid (HH.out _ S0.bel)
  have HB := Lib.hid S0.bel
  clear S0 HS0 HH
  go_enter Tryz.func109, Tryz.ntmps109
  go_wp2_with fail
  generalize W.alloc (.cells #[vc, vm, vh, vk, vs, vp] 28) = w1 at *
  go_at_call 121
  refine HI.out.mono ?_
  rintro e w' ⟨rfl, hb2⟩
  have HB2 := Lib.hid hb2
  clear hb2
  go_wp2_with fail
  go_ret
  exact ⟨rfl, HB.out.trans (HB2.out.mono HB.out.size)⟩
end Go.Proofs.YtnaafefcijgpkaaGreatDoor
/- Chapter 10, the program: signable, Contains. -/
namespace Go.Proofs.YtnaafefcijgpkaaGreatDoor
open Go.RowKit Go.Mem Go.Sheet Go.Adj
set_option maxRecDepth 100000 in
set_option maxHeartbeats 4000000 in
theorem idxS_none (w : World) (F : Nat → Prop) (v : Value) (n : Nat) (s : ByteArray) (l : List ByteArray) (hno : ∀ j, j < n → sAt l j ≠ s) (h : Rd w F 1 v n (l.map .string)) :
    Calls Tryz.prog 107 #[v, .string s] w fun e w' => e = .returned (.int .i64 (-1)) ∧ w = w' := by
  have hn := h.le
  obtain ⟨A, c, rfl, _, _, h⟩ := h.open_
  have H := Lib.hid h
  have HNO := Lib.hid hno
  clear h hno
  go_enter Tryz.func107, Tryz.ntmps107
  go_wp2
  go_loop [8] (fun i => ∃ k : Nat, k ≤ n ∧ i = .int .i64 k) (fun i => n - (intOf i).toNat)
  case atStart => exact ⟨0, Nat.zero_le _, rfl⟩
  case round =>
    obtain ⟨k, hk, rfl⟩ := hrel
    by_cases hlt : k < n
    · obtain ⟨b, o, rfl, hy, c0⟩ := rd_str H.out hlt
      have q0 := bytes_neU (fun e => HNO.out k hlt e.symm : s ≠ sAt l k)
      generalize sAt l k = y at *
      clear hy
      go_wp2
      go_round
      case rel => exact ⟨k + 1, by omega, by go_num⟩
      case measure => simp [intOf]; omega
    · obtain rfl : n = k := by omega
      go_wp2
      go_ret
      exact ⟨rfl, rfl⟩
theorem containsS_no (w : World) (F : Nat → Prop) (v : Value) (n : Nat) (s : ByteArray) (l : List ByteArray) (hno : ∀ j, j < n → sAt l j ≠ s) (h : Rd w F 1 v n (l.map .string)) :
    Calls Tryz.prog 82 #[v, .string s] w fun e w' => e = .returned (.bool false) ∧ w = w' := by
  have HI := Lib.hid (idxS_none w F v n s l hno h)
  obtain ⟨A, c, rfl, _, _, _⟩ := h.open_
  clear h hno
  go_enter Tryz.func82, Tryz.ntmps82
  go_wp2_with (go_at_call 107; refine HI.out.mono ?_; rintro e w' ⟨rfl, rfl⟩)
  go_ret
  exact ⟨rfl, rfl⟩
set_option maxRecDepth 100000 in
set_option maxHeartbeats 4000000 in
theorem uSignable_ok (W : World) (u : UI) (s : ByteArray) (hnh : u.nh ≤ 36) (hsg : Sgn u s) (h : RdU W (· < W.heap.size) u) :
    Calls Tryz.prog 83 #[u.val, .string s] W fun e w' => e = .returned (.int .i64 0) ∧ Below W.heap.size W w' := by
  have HO := Lib.hid (fun w (hb : Below W.heap.size W w) => uOpen_none w u s hnh hsg (h.later hb))
  have HD := Lib.hid (fun w (hb : Below W.heap.size W w) => uDiffers_none w u s hnh hsg (h.later hb))
  have hh := h.h
  have hz := hsg.1
  clear h hsg
  obtain ⟨vc, nc, cl, vm, nm, ms, vh, nh, hs, vk, nk, ks, vs, ns, sg, vp, np, ps⟩ := u
  simp only [UI.val] at *
  obtain ⟨Ah, ch, rfl, _, _, _⟩ := hh.open_
  have S0 := (St.refl W).blk_new #[vc, vm, .slice Ah nh ch, vk, vs, vp] 28
  simp only [List.nil_append] at S0
  obtain ⟨gc, hgc⟩ : ∃ g, g = W.heap.size := ⟨_, rfl⟩
  rw [← hgc] at S0
  have HS0 := Lib.hid S0
  have t0 : ((nh : Int) == 0) = false := by simp [hz]
  have t0' : (nh == 0) = false := by simp [hz]
  clear S0 hh hz
  go_enter Tryz.func83, Tryz.ntmps83
  go_wp2_with fail
  rw [← hgc]
  generalize W.alloc (.cells #[vc, vm, .slice Ah nh ch, vk, vs, vp] 28) = w1 at *
  clear hgc
  refine wp_cls 17 (fun w' => St W w' [blk gc 28 #[vc, vm, .slice Ah nh ch, vk, vs, vp]]) (by kernel_rfl) (by kernel_rfl) HS0.out.drew ?_
  simp only [List.take_succ_cons, List.take_zero, List.drop_succ_cons, List.drop_zero]
  generalize hK : (fun w' => St W w' [blk gc 28 #[vc, vm, .slice Ah nh ch, vk, vs, vp]]) = K
  intro hne
  have kS : ∀ y : Wd K, St W y.w [blk gc 28 #[vc, vm, .slice Ah nh ch, vk, vs, vp]] := by subst hK; exact fun y => y.h
  have hK3 : ∀ w w' : World, K w → Below w.heap.size w w' → K w' := by subst hK; exact fun w w' h h' => h.ext h'
  have k0 : ∀ y : Wd K, y.w.cell? ⟨gc, 0, none⟩ = some vc := fun y => (kS y).blk_cell (i := 0) rfl 0
  have k1 : ∀ y : Wd K, y.w.cell? ⟨gc, 1, none⟩ = some vm := fun y => (kS y).blk_cell (i := 0) rfl 1
  have k2 : ∀ y : Wd K, y.w.cell? ⟨gc, 2, none⟩ = some (.slice Ah nh ch) := fun y => (kS y).blk_cell (i := 0) rfl 2
  have k3 : ∀ y : Wd K, y.w.cell? ⟨gc, 3, none⟩ = some vk := fun y => (kS y).blk_cell (i := 0) rfl 3
  have k4 : ∀ y : Wd K, y.w.cell? ⟨gc, 4, none⟩ = some vs := fun y => (kS y).blk_cell (i := 0) rfl 4
  have k5 : ∀ y : Wd K, y.w.cell? ⟨gc, 5, none⟩ = some vp := fun y => (kS y).blk_cell (i := 0) rfl 5
  have HO2 : Hid (∀ y : Wd K, Calls Tryz.prog 108 #[.agg #[vc, vm, .slice Ah nh ch, vk, vs, vp], .string s] y.w fun e w' => e = .returned (.slice none 0 0) ∧ Below y.w.heap.size y.w w') := Lib.hid (fun y => HO.out y.w (kS y).bel)
  have HD2 : Hid (∀ y : Wd K, Calls Tryz.prog 109 #[.agg #[vc, vm, .slice Ah nh ch, vk, vs, vp], .string s] y.w fun e w' => e = .returned (.slice none 0 0) ∧ Below y.w.heap.size y.w w') := Lib.hid (fun y => HD.out y.w (kS y).bel)
  have KS := Lib.hid kS
  have HKK := Lib.hid hK3
  clear hK kS HS0 hK3 HO HD
  repeat (go_big_quiet_step ((first
    | (go_at_call 59; exact cls_same (uNo _ _))
    | (go_at_call 108; exact cls_below HKK.out (HO2.out _))
    | (go_at_call 109; exact cls_below HKK.out (HD2.out _)))))
  refine wpQuiet_nil ?_
  intro y
  have SY := Lib.hid (KS.out y)
  clear k0 k1 k2 k3 k4 k5 KS HKK hne HO2 HD2
  generalize y.w = wy at *
  have z0 : ((wy.alloc (.cells #[.int .i64 0, .int .i64 0, .int .i64 0] 38)).cell? ⟨wy.heap.size, 0, none⟩) = some (.int .i64 0) := by simp
  go_wp2_with (go_at_call 32; refine (uOk3 _ _ (by simp) (by simp) (by simp) (by simp)).mono ?_; rintro e w' ⟨rfl, rfl⟩)
  go_ret
  exact ⟨rfl, (SY.out.alloc _).bel⟩
end Go.Proofs.YtnaafefcijgpkaaGreatDoor
/- A map with strings as keys that all lie at true; the members' check. -/
namespace Go.Mem
open Go.RowKit Go.MapKept
theorem run_lookupS_none {P : Program} {w : World} (t : TypeId) (k e : TypeId) (hk : P.underlying k = some .string) (ht : P.underlying t = some (.map k e)) (hz : ∀ w, (zeroValue e).run P w = .ok (.bool false) w) {b clock : Nat} {es : Array MapEntry} (hb : w.heap[b]? = some (.map es clock))
    (key : ByteArray) (hf : Instr.findNow .string (.string key) es.toList 0 = some none) :
    (Instr.lookup t (.map (some b)) (.string key) false).run P w = .ok (.bool false) w := by
  have hkk : IsKey .string (.string key) := trivial
  simp [Instr.lookup, run_underlying ht, MapKept.run_getObj_map hb, MapKept.run_checkKey hk hkk, MapKept.run_findKey hk hf, Result.andThen, hz]
theorem wpList_mapUpdate_new {P : Program} {W w : World} {L : List Asr} {i : Nat} {ops : Array Oper} {rest : List Oper} {o : Oper} {a : Act} {Q : Exit → Act → World → Prop}
    (hg : o.guard = none) (m x v : Operand) (t : TypeId) (hop : o.op = Op.mapUpdate t m x v)
    (k e : TypeId) (hk : P.underlying k = some .string) (ht : P.underlying t = some (.map k e))
    {b clock : Nat} {es : Array MapEntry} (S : St W w L) (hi : L[i]? = some (mapS b es clock)) (hm : a.eval m = .map (some b)) (key : ByteArray) (hx : a.eval x = .string key)
    (hf : Instr.findNow .string (.string key) es.toList 0 = some none) (val : Value) (hv : a.eval v = val)
    (hK : ∀ w', St W w' (L.set i (mapS b (es.push { key := .string key, val := val, born := clock }) (clock + 1))) → wpList P ops Q rest (a.put o.dst undef) w') : wpList P ops Q (o :: rest) a w := by
  obtain ⟨F1, h1, ⟨hb, hF⟩, h3⟩ := S.upd hi
  have hrun : (Instr.mapUpdate t (.map (some b)) (.string key) val).run P w = .ok () (w.putObj b (.map (es.push { key := .string key, val := val, born := clock }) (clock + 1))) := by
    have hkk : IsKey .string (.string key) := trivial
    simp [Instr.mapUpdate, run_underlying ht, MapKept.run_getObj_map hb, MapKept.run_checkKey hk hkk, MapKept.run_findKey hk hf, MapKept.run_setObj_map _ hb, Result.andThen]
    rfl
  have hlt := (Array.getElem?_eq_some_iff.1 hb).1
  have hat : (w.putObj b (.map (es.push { key := .string key, val := val, born := clock }) (clock + 1))).heap[b]? = some (.map (es.push { key := .string key, val := val, born := clock }) (clock + 1)) := by
    show (w.heap.setIfInBounds b _)[b]? = _
    simp [hlt]
  refine wpList_plain hg fun K' hK' => ?_
  unfold Oper.wp
  simp [execOp, hop, hm, hx, hv, hrun, Result.andThen]
  exact hK' _ _ (hK _ (h3 _ _ F1 (some b) ⟨hat, hF⟩ (grownBy_putObj' w b _) (fun g hg => by cases hg; exact hF) (fun b hb => .inl hb)))
/-- a map whose keys are the first k names, each with true -/
def seenE (f : Nat → ByteArray) (k : Nat) : Array MapEntry := ((List.range k).map fun i => ({ key := .string (f i), val := .bool true, born := i } : MapEntry)).toArray
theorem seenE_push (f : Nat → ByteArray) (k : Nat) : (seenE f k).push { key := .string (f k), val := .bool true, born := k } = seenE f (k + 1) := by
  unfold seenE
  rw [List.range_succ, List.map_append]
  simp
theorem seen_none {f : Nat → ByteArray} {key : ByteArray} : ∀ (l : List Nat) (j : Nat), (∀ i ∈ l, f i ≠ key) → Instr.findNow .string (.string key) (l.map fun i => ({ key := .string (f i), val := .bool true, born := i } : MapEntry)) j = some none
  | [], _, _ => rfl
  | i :: l, j, h => by
    have h1 : Instr.sameNow .string (.string key) (.string (f i)) = some false := by
      have := h i (by simp)
      show some (key == f i) = some false
      have hb : (key == f i) = false := by
        rw [Bool.eq_false_iff]
        intro e
        apply this
        generalize f i = z at *
        obtain ⟨d⟩ := key
        obtain ⟨d'⟩ := z
        have : (d == d') = true := e
        rw [eq_of_beq this]
      rw [hb]
    rw [List.map_cons, Instr.findNow]
    simp only [h1]
    exact seen_none l (j + 1) fun i hi => h i (by simp [hi])
theorem seenE_none {f : Nat → ByteArray} {key : ByteArray} {k : Nat} (h : ∀ i, i < k → f i ≠ key) : Instr.findNow .string (.string key) (seenE f k).toList 0 = some none := by
  unfold seenE
  exact seen_none _ 0 fun i hi => h i (List.mem_range.1 hi)
theorem seen_some {f : Nat → ByteArray} {key : ByteArray} : ∀ (l : List Nat) (j : Nat), (∃ i ∈ l, f i = key) → ∃ q, Instr.findNow .string (.string key) (l.map fun i => ({ key := .string (f i), val := .bool true, born := i } : MapEntry)) j = some (some (q, .bool true))
  | [], _, h => by obtain ⟨i, hi, _⟩ := h; cases hi
  | i :: l, j, h => by
    by_cases he : f i = key
    · have h1 : Instr.sameNow .string (.string key) (.string (f i)) = some true := by
        rw [he]
        show some (key == key) = some true
        have hb : (key == key) = true := by
          obtain ⟨d⟩ := key
          show (d == d) = true
          exact beq_self_eq_true d
        rw [hb]
      refine ⟨j, ?_⟩
      rw [List.map_cons, Instr.findNow]
      simp only [h1]
    · have h1 : Instr.sameNow .string (.string key) (.string (f i)) = some false := by
        show some (key == f i) = some false
        have hb : (key == f i) = false := by
          rw [Bool.eq_false_iff]
          intro e
          apply he
          generalize f i = z at *
          obtain ⟨d⟩ := key
          obtain ⟨d'⟩ := z
          have : (d == d') = true := e
          rw [eq_of_beq this]
        rw [hb]
      obtain ⟨q, hq⟩ := seen_some (f := f) (key := key) l (j + 1) (by
        obtain ⟨x, hx, e⟩ := h
        rcases List.mem_cons.1 hx with rfl | hx
        · exact absurd e he
        · exact ⟨x, hx, e⟩)
      refine ⟨q, ?_⟩
      rw [List.map_cons, Instr.findNow]
      simp only [h1]
      exact hq
theorem seenE_some {f : Nat → ByteArray} {key : ByteArray} {k : Nat} (h : ∃ i, i < k ∧ f i = key) : ∃ q, Instr.findNow .string (.string key) (seenE f k).toList 0 = some (some (q, .bool true)) := by
  unfold seenE
  exact seen_some _ 0 (by obtain ⟨i, hi, e⟩ := h; exact ⟨i, List.mem_range.2 hi, e⟩)
theorem run_lookupS_some {P : Program} {w : World} (t : TypeId) (k e : TypeId) (hk : P.underlying k = some .string) (ht : P.underlying t = some (.map k e)) {b clock : Nat} {es : Array MapEntry} (hb : w.heap[b]? = some (.map es clock))
    (key : ByteArray) (j : Nat) (v : Value) (hf : Instr.findNow .string (.string key) es.toList 0 = some (some (j, v))) :
    (Instr.lookup t (.map (some b)) (.string key) false).run P w = .ok v w := by
  have hkk : IsKey .string (.string key) := trivial
  simp [Instr.lookup, run_underlying ht, MapKept.run_getObj_map hb, MapKept.run_checkKey hk hkk, MapKept.run_findKey hk hf, Result.andThen]
end Go.Mem
/- Chapter 10, the program: checkMembers, of a union without an error. -/
namespace Go.Proofs.YtnaafefcijgpkaaGreatDoor
open Go.RowKit Go.Mem Go.Sheet Go.Adj
set_option maxRecDepth 100000 in
set_option maxHeartbeats 8000000 in
theorem uCheckMembers_ok (W : World) (u : UI) (hg : GoodU u 256 200) (h : RdU W (· < W.heap.size) u) :
    Calls Tryz.prog 51 #[u.val] W fun e w' => e = .returned (.int .i64 0) ∧ Below W.heap.size W w' := by
  have HCL : Hid (∀ w, Below W.heap.size W w → Rd w (· < w.heap.size) 1 u.vc u.nc (u.cl.map .string)) := fun w hb => h.c.later hb
  have HMS : Hid (∀ w, Below W.heap.size W w → Rd w (· < w.heap.size) 3 u.vm u.nm (u.ms.flatMap MbI.cells)) := fun w hb => h.m.later hb
  have HRH : Hid (∀ w, Below W.heap.size W w → Rd w (· < w.heap.size) 2 u.vh u.nh (u.hs.flatMap HI.cells)) := fun w hb => h.h.later hb
  have HLH : Hid (u.nh = u.hs.length) := h.h.count (f := HI.cells) (size := 2) (fun _ => rfl) (by decide)
  have HSO := Lib.hid h.so.1
  have HSM := Lib.hid h.so.2.1
  have HG1 := Lib.hid hg.cl
  have HG2 := Lib.hid hg.cl2
  have HG3 := Lib.hid hg.mb
  have HG4 := Lib.hid hg.mb2
  have HHS := Lib.hid hg.hs
  have hn1 := hg.len.1
  have hn2 := hg.len.2.1
  have hn3 := h.h.le
  obtain ⟨Ac, cc, ec, _, _, _⟩ := h.c.open_
  obtain ⟨Am, cm, em, _, _, _⟩ := h.m.open_
  obtain ⟨Ah, ch, eh, _, _, _⟩ := h.h.open_
  clear h hg
  obtain ⟨vc, nc, cl, vm, nm, ms, vh, nh, hs, vk, nk, ks, vs, ns, sg, vp, np, ps⟩ := u
  simp only [UI.val] at *
  subst ec em eh
  have S0 := ((St.refl W).blk_new #[.slice Ac nc cc, .slice Am nm cm, .slice Ah nh ch, vk, vs, vp] 28).mapS_new
  simp only [List.cons_append, List.nil_append, World.size_alloc] at S0
  have d0 := S0.blk_cell (i := 0) rfl 0
  have hmm := @run_makeMap Tryz.prog
  go_enter Tryz.func51, Tryz.ntmps51
  go_wp2_with fail
  obtain ⟨gb, hgb⟩ : ∃ g, g = W.heap.size := ⟨_, rfl⟩
  obtain ⟨g3, hg3⟩ : ∃ g, g = W.heap.size + 1 := ⟨_, rfl⟩
  rw [← hg3, ← hgb] at S0
  rw [← hg3, ← hgb]
  generalize (W.alloc (.cells #[.slice Ac nc cc, .slice Am nm cm, .slice Ah nh ch, vk, vs, vp] 28)).alloc (.map #[] 0) = w1 at *
  have HS0 := Lib.hid S0
  clear S0 hg3 hgb
  go_loopw [15] (fun i w' => ∃ k : Nat, k ≤ nc ∧ i = .int .i64 k ∧ St W w' [blk gb 28 #[.slice Ac nc cc, .slice Am nm cm, .slice Ah nh ch, vk, vs, vp], mapS g3 (seenE (fun i => sAt cl i) k) k]) (fun i _ => nc - (intOf i).toNat)
  case atStart => exact ⟨0, Nat.zero_le _, rfl, HS0.out⟩
  case round =>
    obtain ⟨k, hk, rfl, S⟩ := hrel
    clear HS0 d0
    by_cases hlt : k < nc
    · obtain ⟨b, o, rfl, hx, c0⟩ := rd_str (HCL.out wr S.bel) hlt
      have HNO : Hid (Instr.findNow .string (.string (sAt cl k)) (seenE (fun i => sAt cl i) k).toList 0 = some none) := Lib.hid (seenE_none fun i hi => HG2.out k i hlt hi)
      have HPU : Hid ((seenE (fun i => sAt cl i) k).push { key := .string (sAt cl k), val := .bool true, born := k } = seenE (fun i => sAt cl i) (k + 1)) := Lib.hid (seenE_push (fun i => sAt cl i) k)
      have HNM : Hid (∀ w, Calls Tryz.prog 66 #[.string (sAt cl k)] w fun e w' => e = .returned (.bool true) ∧ Below w.heap.size w w') := Lib.hid (fun w => by
        have h1 := cardIsName_any (sAt cl k) w (HSO.out _ (List.mem_of_getElem? hx))
        rw [HG1.out k hlt] at h1
        exact h1)
      have HS := Lib.hid S
      clear S hx
      generalize hes : seenE (fun i => sAt cl i) k = es at *
      generalize sAt cl k = nm1 at *
      go_wp2_with fail
      clear c0
      refine wp_cls 8 (fun w' => St W w' [blk gb 28 #[.slice (some ⟨b, o, none⟩) nc cc, .slice Am nm cm, .slice Ah nh ch, vk, vs, vp], mapS g3 es k]) (by kernel_rfl) (by kernel_rfl) HS.out.drew ?_
      simp only [List.take_succ_cons, List.take_zero, List.drop_succ_cons, List.drop_zero]
      generalize hK : (fun w' => St W w' [blk gb 28 #[.slice (some ⟨b, o, none⟩) nc cc, .slice Am nm cm, .slice Ah nh ch, vk, vs, vp], mapS g3 es k]) = K
      intro hne
      have kS : ∀ y : Wd K, St W y.w [blk gb 28 #[.slice (some ⟨b, o, none⟩) nc cc, .slice Am nm cm, .slice Ah nh ch, vk, vs, vp], mapS g3 es k] := by subst hK; exact fun y => y.h
      have hK3 : ∀ w w' : World, K w → Below w.heap.size w w' → K w' := by subst hK; exact fun w w' h h' => h.ext h'
      have k0 : ∀ y : Wd K, (Instr.lookup 151 (.map (some g3)) (.string nm1) false).run Tryz.prog y.w = .ok (.bool false) y.w := fun y => run_lookupS_none 151 9 4 Tryz.underlying9 Tryz.underlying151 zeroB ((kS y).mapS_at (i := 1) rfl) nm1 HNO.out
      have KS := Lib.hid kS
      have HKK := Lib.hid hK3
      clear hK kS hK3
      repeat (go_big_quiet_step ((first
        | (go_at_call 66; exact cls_below HKK.out (HNM.out _))
        | (go_at_call 59; exact cls_same (uNo _ _)))))
      refine wpQuiet_nil ?_
      intro y
      have SY := Lib.hid (KS.out y)
      clear k0 KS HKK hne HS
      generalize y.w = wy at *
      have HSZ := Lib.hid (SY.out.alloc (.cells #[.int .i64 0, .int .i64 0] 38))
      clear SY
      go_wp2_with (first
        | (go_at_call 32; refine (uOk2 _ _ (by simp) (by simp) (by simp)).mono ?_; rintro e w' ⟨rfl, rfl⟩)
        | (at_mapUpdate; refine wpList_mapUpdate_new rfl _ _ _ 151 rfl 9 4 Tryz.underlying9 Tryz.underlying151 HSZ.out (i := 1) rfl rfl nm1 rfl HNO.out (.bool true) rfl ?_; intro w6 S6; rw [HPU.out] at S6; have HS6 := Lib.hid S6; clear S6))
      go_roundw
      case rel => exact ⟨k + 1, by omega, by go_num, HS6.out⟩
      case measure => simp [intOf]; omega
    · obtain rfl : nc = k := by omega
      have S0 := S.mapS_new
      simp only [List.cons_append, List.nil_append] at S0
      have d1 := S0.blk_cell (i := 0) rfl 1
      go_wp2_with fail
      obtain ⟨g7, hg7⟩ : ∃ g, g = wr.heap.size := ⟨_, rfl⟩
      rw [← hg7] at S0 ⊢
      generalize wr.alloc (.map #[] 0) = w2 at *
      have HS0 := Lib.hid S0
      clear hg7 S S0 hlt hk hmm
      generalize hes3 : seenE (fun i => sAt cl i) nc = es3 at *
      have HES := Lib.hid hes3
      clear hes3
      go_loopw [39] (fun i w' => ∃ k : Nat, k ≤ nm ∧ i = .int .i64 k ∧ St W w' [blk gb 28 #[.slice Ac nc cc, .slice Am nm cm, .slice Ah nh ch, vk, vs, vp], mapS g3 es3 nc, mapS g7 (seenE (fun i => (mbAt ms i).name) k) k]) (fun i _ => nm - (intOf i).toNat)
      case atStart => exact ⟨0, Nat.zero_le _, rfl, HS0.out⟩
      case round =>
        obtain ⟨k, hk, rfl, S⟩ := hrel
        clear HS0 d1
        by_cases hlt : k < nm
        · obtain ⟨b, o, rfl, hx, c0, c1, c2⟩ := rd_mb (HMS.out wr S.bel) hlt
          have HNO : Hid (Instr.findNow .string (.string (mbAt ms k).name) (seenE (fun i => (mbAt ms i).name) k).toList 0 = some none) := Lib.hid (seenE_none fun i hi => HG4.out k i hlt hi)
          have HPU : Hid ((seenE (fun i => (mbAt ms i).name) k).push { key := .string (mbAt ms k).name, val := .bool true, born := k } = seenE (fun i => (mbAt ms i).name) (k + 1)) := Lib.hid (seenE_push (fun i => (mbAt ms i).name) k)
          have HNM : Hid (∀ w, Calls Tryz.prog 66 #[.string (mbAt ms k).name] w fun e w' => e = .returned (.bool true) ∧ Below w.heap.size w w') := Lib.hid (fun w => by
            have h1 := cardIsName_any (mbAt ms k).name w (HSM.out _ (List.mem_of_getElem? hx)).1
            rw [(HG3.out k hlt).1] at h1
            exact h1)
          have hco : -99 ≤ (mbAt ms k).co ∧ (mbAt ms k).co ≤ 99 := ⟨(HG3.out k hlt).2.1, (HG3.out k hlt).2.2.1⟩
          obtain ⟨qj, hye⟩ := seenE_some (f := fun i => sAt cl i) (key := (mbAt ms k).club) (k := nc) (HG3.out k hlt).2.2.2
          rw [HES.out] at hye
          have HYE := Lib.hid hye
          clear hx hye
          generalize hes : seenE (fun i => (mbAt ms i).name) k = es at *
          generalize mbAt ms k = x at *
          obtain ⟨xn, xc, xo⟩ := x
          simp only at c0 c1 c2 HNO HPU HNM hco HYE
          have SA := S.blk_new #[.string xn, .string xc, .int .i64 xo] 52
          simp only [List.cons_append, List.nil_append] at SA
          have HS := Lib.hid SA
          obtain ⟨hc1, hc2⟩ := hco
          clear S SA
          go_wp2_with fail
          clear c0 c1 c2
          generalize wr.heap.size = gx at *
          generalize wr.alloc (.cells #[.string xn, .string xc, .int .i64 xo] 52) = w3 at *
          refine wp_cls 20 (fun w' => St W w' [blk gb 28 #[.slice Ac nc cc, .slice (some ⟨b, o, none⟩) nm cm, .slice Ah nh ch, vk, vs, vp], mapS g3 es3 nc, mapS g7 es k, blk gx 52 #[.string xn, .string xc, .int .i64 xo]]) (by kernel_rfl) (by kernel_rfl) HS.out.drew ?_
          simp only [List.take_succ_cons, List.take_zero, List.drop_succ_cons, List.drop_zero]
          generalize hK : (fun w' => St W w' [blk gb 28 #[.slice Ac nc cc, .slice (some ⟨b, o, none⟩) nm cm, .slice Ah nh ch, vk, vs, vp], mapS g3 es3 nc, mapS g7 es k, blk gx 52 #[.string xn, .string xc, .int .i64 xo]]) = K
          intro hne
          have kS : ∀ y : Wd K, St W y.w [blk gb 28 #[.slice Ac nc cc, .slice (some ⟨b, o, none⟩) nm cm, .slice Ah nh ch, vk, vs, vp], mapS g3 es3 nc, mapS g7 es k, blk gx 52 #[.string xn, .string xc, .int .i64 xo]] := by subst hK; exact fun y => y.h
          have hK3 : ∀ w w' : World, K w → Below w.heap.size w w' → K w' := by subst hK; exact fun w w' h h' => h.ext h'
          have k0 : ∀ y : Wd K, y.w.cell? ⟨gx, 0, none⟩ = some (.string xn) := fun y => (kS y).blk_cell (i := 3) rfl 0
          have k1 : ∀ y : Wd K, y.w.cell? ⟨gx, 1, none⟩ = some (.string xc) := fun y => (kS y).blk_cell (i := 3) rfl 1
          have k2 : ∀ y : Wd K, y.w.cell? ⟨gx, 2, none⟩ = some (.int .i64 xo) := fun y => (kS y).blk_cell (i := 3) rfl 2
          have k3 : ∀ y : Wd K, (Instr.lookup 151 (.map (some g7)) (.string xn) false).run Tryz.prog y.w = .ok (.bool false) y.w := fun y => run_lookupS_none 151 9 4 Tryz.underlying9 Tryz.underlying151 zeroB ((kS y).mapS_at (i := 2) rfl) xn HNO.out
          have k4 : ∀ y : Wd K, (Instr.lookup 151 (.map (some g3)) (.string xc) false).run Tryz.prog y.w = .ok (.bool true) y.w := fun y => run_lookupS_some 151 9 4 Tryz.underlying9 Tryz.underlying151 ((kS y).mapS_at (i := 1) rfl) xc qj _ HYE.out
          have KS := Lib.hid kS
          have HKK := Lib.hid hK3
          clear hK kS hK3
          repeat (go_big_quiet_step ((first
            | (go_at_call 66; exact cls_below HKK.out (HNM.out _))
            | (go_at_call 67; exact cls_same (uIn _ _ _ _ hc1 hc2))
            | (go_at_call 59; exact cls_same (uNo _ _)))))
          refine wpQuiet_nil ?_
          intro y
          have SY := Lib.hid (KS.out y)
          clear k0 k1 k2 k3 k4 KS HKK hne HS
          generalize y.w = wy at *
          have S9 := SY.out.alloc (.cells #[.int .i64 0, .int .i64 0, .int .i64 0, .int .i64 0] 38)
          have z0 := S9.blk_cell (i := 3) rfl 0
          have HSZ := Lib.hid S9
          clear SY S9
          go_wp2_with (first
            | (go_at_call 32; refine (uOk4 _ _ (by simp) (by simp) (by simp) (by simp) (by simp)).mono ?_; rintro e w' ⟨rfl, rfl⟩)
            | (at_mapUpdate; refine wpList_mapUpdate_new rfl _ _ _ 151 rfl 9 4 Tryz.underlying9 Tryz.underlying151 HSZ.out (i := 2) rfl rfl xn rfl HNO.out (.bool true) rfl ?_; intro w6 S6; rw [HPU.out] at S6; have HS6 := Lib.hid (S6.sub (L' := [_, _, _]) (List.sublist_append_left [_, _, _] [_])); clear S6))
          go_roundw
          case rel => exact ⟨k + 1, by omega, by go_num, HS6.out⟩
          case measure => simp [intOf]; omega
        · obtain rfl : nm = k := by omega
          have d2 := S.blk_cell (i := 0) rfl 2
          have HS := Lib.hid S
          clear S hlt hk
          rcases HHS.out with h0 | h0
          · have t0 : ((nh : Int) == 0) = true := by simp [h0]
            have t0' : (nh == 0) = true := by simp [h0]
            clear h0
            go_wp2_with fail
            go_ret
            exact ⟨rfl, HS.out.bel⟩
          · have hn0 : nh ≠ 0 := by
              have := h0.len
              have := HLH.out
              omega
            have t0 : ((nh : Int) == 0) = false := by simp [hn0]
            have t0' : (nh == 0) = false := by simp [hn0]
            have HCH := Lib.hid (checkHoles_ok wr _ nh hs (HRH.out wr HS.out.bel) h0)
            clear h0 hn0
            go_wp2_with (go_at_call 80; refine HCH.out.mono ?_; rintro e w' ⟨rfl, hb2⟩; have HB2 := Lib.hid hb2; clear hb2)
            go_ret
            exact ⟨rfl, (HS.out.ext HB2.out).bel⟩
end Go.Proofs.YtnaafefcijgpkaaGreatDoor
