/- Part 15 of the walks of the golf union's program: US17, L8g, US18, US19, US20, US21, US22. -/
import Derived.Test.YtnaafefcijgpkaaGreatDoorB14
import Derived.Test.YtnaafefcijgpkaaGreatDoorB06
set_option linter.unusedVariables false
set_option linter.unusedSimpArgs false
set_option linter.unusedSectionVars false
set_option linter.constructorNameAsVariable false
/- Chapter 10, the program: CheckUnion of a union without an error; card. -/
namespace Go.Proofs.YtnaafefcijgpkaaGreatDoor
open Go.RowKit Go.Mem Go.Sheet Go.Adj
set_option maxRecDepth 100000 in
set_option maxHeartbeats 4000000 in
theorem uCheckUnion_ok (W : World) (u : UI) (hg : GoodU u 256 200) (h : RdU W (· < W.heap.size) u) :
    Calls Tryz.prog 21 #[u.val] W fun e w' => e = .returned (.int .i64 0) ∧ Below W.heap.size W w' := by
  have H1 := Lib.hid (fun w (hb : Below W.heap.size W w) => uCheckMembers_ok w u hg (h.later hb))
  have H2 := Lib.hid (fun w (hb : Below W.heap.size W w) => uCheckMarks_ok w u hg (h.later hb))
  have H3 := Lib.hid (fun w (hb : Below W.heap.size W w) => uCheckPast_ok w u hg (h.later hb))
  obtain ⟨l1, l2, l3, l4, l5⟩ := hg.len
  obtain ⟨Ac, cc, ec, _, _, _⟩ := h.c.open_
  obtain ⟨Am, cm, em, _, _, _⟩ := h.m.open_
  obtain ⟨Ak, ck, ek, _, _, _⟩ := h.k.open_
  obtain ⟨As, cs, es, _, _, _⟩ := h.s.open_
  obtain ⟨Ap, cp, ep, _, _, _⟩ := h.p.1.open_
  clear h hg
  obtain ⟨vc, nc, cl, vm, nm, ms, vh, nh, hs, vk, nk, ks, vs, ns, sg, vp, np, ps⟩ := u
  simp only [UI.val] at *
  subst ec em ek es ep
  have S0 := (St.refl W).blk_new #[.slice Ac nc cc, .slice Am nm cm, vh, .slice Ak nk ck, .slice As ns cs, .slice Ap np cp] 28
  simp only [List.nil_append] at S0
  obtain ⟨gb, hgb⟩ : ∃ g, g = W.heap.size := ⟨_, rfl⟩
  rw [← hgb] at S0
  have HS0 := Lib.hid S0
  have d0 := S0.blk_cell (i := 0) rfl 0
  have d1 := S0.blk_cell (i := 0) rfl 1
  have d2 := S0.blk_cell (i := 0) rfl 2
  have d3 := S0.blk_cell (i := 0) rfl 3
  have d4 := S0.blk_cell (i := 0) rfl 4
  have d5 := S0.blk_cell (i := 0) rfl 5
  clear S0
  have t1 : decide (256 < (nc : Int)) = false := decide_eq_false (by omega)
  have t2 : decide (200 < (nm : Int)) = false := decide_eq_false (by omega)
  have t3 : decide (1000 < (nk : Int)) = false := decide_eq_false (by omega)
  have t4 : decide (200 < (ns : Int)) = false := decide_eq_false (by omega)
  have t5 : decide (256 < (np : Int)) = false := decide_eq_false (by omega)
  have t1' : decide (256 < nc) = false := decide_eq_false (by omega)
  have t2' : decide (200 < nm) = false := decide_eq_false (by omega)
  have t3' : decide (1000 < nk) = false := decide_eq_false (by omega)
  have t4' : decide (200 < ns) = false := decide_eq_false (by omega)
  have t5' : decide (256 < np) = false := decide_eq_false (by omega)
  go_enter Tryz.func21, Tryz.ntmps21
  go_wp2_with fail
  rw [← hgb]
  generalize W.alloc (.cells #[.slice Ac nc cc, .slice Am nm cm, vh, .slice Ak nk ck, .slice As ns cs, .slice Ap np cp] 28) = w1 at *
  clear hgb t1 t2 t3 t4 t5 t1' t2' t3' t4' t5'
  go_at_call 51
  refine (H1.out w1 HS0.out.bel).mono ?_
  rintro e w2 ⟨rfl, hb⟩
  have HS := Lib.hid (HS0.out.ext hb)
  clear hb HS0 d0 d1 d2 d3 d4 d5 H1
  go_wp2_with fail
  refine wp_cls 4 (fun w' => St W w' [blk gb 28 #[.slice Ac nc cc, .slice Am nm cm, vh, .slice Ak nk ck, .slice As ns cs, .slice Ap np cp]]) (by kernel_rfl) (by kernel_rfl) HS.out.drew ?_
  simp only [List.take_succ_cons, List.take_zero, List.drop_succ_cons, List.drop_zero]
  generalize hK : (fun w' => St W w' [blk gb 28 #[.slice Ac nc cc, .slice Am nm cm, vh, .slice Ak nk ck, .slice As ns cs, .slice Ap np cp]]) = K
  intro hne
  have kS : ∀ y : Wd K, St W y.w [blk gb 28 #[.slice Ac nc cc, .slice Am nm cm, vh, .slice Ak nk ck, .slice As ns cs, .slice Ap np cp]] := by subst hK; exact fun y => y.h
  have hK3 : ∀ w w' : World, K w → Below w.heap.size w w' → K w' := by subst hK; exact fun w w' h h' => h.ext h'
  have k0 : ∀ y : Wd K, y.w.cell? ⟨gb, 0, none⟩ = some (.slice Ac nc cc) := fun y => (kS y).blk_cell (i := 0) rfl 0
  have k1 : ∀ y : Wd K, y.w.cell? ⟨gb, 1, none⟩ = some (.slice Am nm cm) := fun y => (kS y).blk_cell (i := 0) rfl 1
  have k2 : ∀ y : Wd K, y.w.cell? ⟨gb, 2, none⟩ = some vh := fun y => (kS y).blk_cell (i := 0) rfl 2
  have k3 : ∀ y : Wd K, y.w.cell? ⟨gb, 3, none⟩ = some (.slice Ak nk ck) := fun y => (kS y).blk_cell (i := 0) rfl 3
  have k4 : ∀ y : Wd K, y.w.cell? ⟨gb, 4, none⟩ = some (.slice As ns cs) := fun y => (kS y).blk_cell (i := 0) rfl 4
  have k5 : ∀ y : Wd K, y.w.cell? ⟨gb, 5, none⟩ = some (.slice Ap np cp) := fun y => (kS y).blk_cell (i := 0) rfl 5
  have K2 : Hid (∀ y : Wd K, Calls Tryz.prog 52 #[.agg #[.slice Ac nc cc, .slice Am nm cm, vh, .slice Ak nk ck, .slice As ns cs, .slice Ap np cp]] y.w fun e w' => e = .returned (.int .i64 0) ∧ Below y.w.heap.size y.w w') := Lib.hid (fun y => H2.out y.w (kS y).bel)
  have K3 : Hid (∀ y : Wd K, Calls Tryz.prog 53 #[.agg #[.slice Ac nc cc, .slice Am nm cm, vh, .slice Ak nk ck, .slice As ns cs, .slice Ap np cp]] y.w fun e w' => e = .returned (.int .i64 0) ∧ Below y.w.heap.size y.w w') := Lib.hid (fun y => H3.out y.w (kS y).bel)
  have KS := Lib.hid kS
  have HKK := Lib.hid hK3
  clear hK kS hK3 HS H2 H3
  repeat (go_big_quiet_step ((first
    | (go_at_call 52; exact cls_below HKK.out (K2.out _))
    | (go_at_call 53; exact cls_below HKK.out (K3.out _)))))
  refine wpQuiet_nil ?_
  intro y
  have HSZ := Lib.hid ((KS.out y).alloc (.cells #[.int .i64 0, .int .i64 0] 38))
  clear k0 k1 k2 k3 k4 k5 KS HKK hne K2 K3
  generalize y.w = wy at *
  go_wp2_with (go_at_call 32; refine (uOk2 _ _ (by simp) (by simp) (by simp)).mono ?_; rintro e w' ⟨rfl, rfl⟩)
  go_ret
  exact ⟨rfl, HSZ.out.bel⟩
theorem eltE : Elt Tryz.prog 45 65 (.agg #[.int .i64 0, .string ⟨#[]⟩]) 2 24 := ⟨Tryz.underlying45, by kernel_rfl, rfl, by decide⟩
theorem res_ucard (tmps : Array Value) (w : World) (g : Nat) (a b : Value) (hp : tmps.getD 4 undef = .pointer (some ⟨g, 0, none⟩)) (h0 : w.cell? ⟨g, 0, none⟩ = some a) (h1 : w.cell? ⟨g, 1, none⟩ = some b) :
    (results Tryz.f24 tmps).run Tryz.prog w = .ok (.agg #[a, b]) w := by
  have e2 : tmps[4]?.getD undef = .pointer (some ⟨g, 0, none⟩) := by simpa using hp
  simp [results, Tryz.results24, e2, h0, h1, go_sem]
set_option maxRecDepth 100000 in
set_option maxHeartbeats 4000000 in
theorem uCard_any (W : World) (u : UI) (s : ByteArray) (hnh : u.nh ≤ 36) (h : RdU W (· < W.heap.size) u) :
    Calls Tryz.prog 24 #[u.val, .string s] W fun e w' => ∃ v, e = .returned (.agg #[.string s, v]) ∧ St W w' [row 65 2 v u.nh ((esU u.ks s u.nh).flatMap EI.cells)] := by
  have HEN := Lib.hid (fun (i : Nat) w (hb : Below W.heap.size W w) => uEntry_any w u s ((i : Int) + 1) false (h.later hb))
  have hh := h.h
  clear h
  obtain ⟨vc, nc, cl, vm, nm, ms, vh, nh, hs, vk, nk, ks, vs, ns, sg, vp, np, ps⟩ := u
  simp only [UI.val] at *
  obtain ⟨Ah, ch, rfl, _, _, _⟩ := hh.open_
  have S0 := ((((St.refl W).blk_new #[vc, vm, .slice Ah nh ch, vk, vs, vp] 28).blk_new #[.string ⟨#[]⟩, .slice none 0 0] 47).blk_new #[.string s, .slice none 0 0] 47).row_nil 65 2
  simp only [List.cons_append, List.nil_append, World.size_alloc] at S0
  have d2 := S0.blk_cell (i := 0) rfl 2
  go_enter Tryz.func24, Tryz.ntmps24
  go_wp2_with fail
  obtain ⟨gb, hgb⟩ : ∃ g, g = W.heap.size := ⟨_, rfl⟩
  obtain ⟨gr, hgr⟩ : ∃ g, g = W.heap.size + 1 := ⟨_, rfl⟩
  obtain ⟨gq, hgq⟩ : ∃ g, g = W.heap.size + 1 + 1 := ⟨_, rfl⟩
  rw [← hgq, ← hgr, ← hgb] at S0
  rw [← hgq, ← hgr, ← hgb]
  generalize World.alloc (World.alloc (World.alloc W _) _) _ = w1 at *
  have hrq : gr ≠ gq := by omega
  have hqr : gq ≠ gr := by omega
  have hbq : gb ≠ gq := by omega
  have hqb : gq ≠ gb := by omega
  have hbr : gb ≠ gr := by omega
  have hrb : gr ≠ gb := by omega
  clear hgb hgr hgq
  have HS0 := Lib.hid S0
  clear S0
  go_loopw [14] (fun i w' => ∃ (k : Nat) (B : Option Addr) (d : Nat), k ≤ nh ∧ i = .int .i64 k ∧ St W w' [blk gb 28 #[vc, vm, .slice Ah nh ch, vk, vs, vp], blk gr 47 #[.string ⟨#[]⟩, .slice none 0 0], blk gq 47 #[.string s, .slice B k d], row 65 2 (.slice B k d) k ((esU ks s k).flatMap EI.cells)]) (fun i _ => nh - (intOf i).toNat)
  case atStart => exact ⟨0, none, 0, Nat.zero_le _, rfl, HS0.out⟩
  case round =>
    obtain ⟨k, B, d, hk, rfl, S⟩ := hrel
    clear HS0 d2
    by_cases hlt : k < nh
    · have HE1 := Lib.hid (HEN.out k wr S.bel)
      have HSN := Lib.hid (esU_snoc ks s k)
      generalize entK ks s ((k : Int) + 1) false = ea at *
      generalize decide (0 ≤ mkI ks s ((k : Int) + 1) false) = bo at *
      obtain ⟨xs, xm⟩ := ea
      simp only at HE1
      have d0 := S.blk_cell (i := 0) rfl 0
      have d1 := S.blk_cell (i := 0) rfl 1
      have d2 := S.blk_cell (i := 0) rfl 2
      have d3 := S.blk_cell (i := 0) rfl 3
      have d4 := S.blk_cell (i := 0) rfl 4
      have d5 := S.blk_cell (i := 0) rfl 5
      have HS := Lib.hid S
      clear S
      go_wp2_with fail
      go_at_call 58
      refine HE1.out.mono ?_
      rintro e w2 ⟨rfl, hb⟩
      have S2 := (HS.out.ext hb).blk_new #[.int .i64 xs, .string xm] 65
      simp only [List.cons_append, List.nil_append] at S2
      have HS2 := Lib.hid S2
      have e1 := S2.blk_cell (i := 2) rfl 1
      have x0 := S2.blk_cell (i := 4) rfl 0
      have x1 := S2.blk_cell (i := 4) rfl 1
      clear hb HS S2 d0 d1 d2 d3 d4 d5 HE1
      go_wp2_with (at_builtin; refine wpList_append_st eltE rfl _ _ rfl rfl (HS2.out.alloc _) (k := 3) rfl rfl (rd_two (by simp)) (one_net _ _ _) (by omega) (by omega) ?_; intro v' w4 S4 _; simp only [List.set_cons_succ, List.set_cons_zero] at S4; obtain ⟨B2, d2, rfl, _, _, _⟩ := (S4.row_rd (i := 3) rfl).open_; have HS4 := Lib.hid S4; have b1 := S4.blk_cell (i := 2) rfl 1; have f1 := S4.blk_frozen (i := 2) rfl 1; clear S4)
      have S5 := HS4.out.blk_set (i := 2) rfl 1 (.slice B2 (k + 1) d2)
      simp only [List.set_cons_succ, List.set_cons_zero] at S5
      have S6 := S5.sub (L' := [_, _, _, _]) (List.sublist_append_left [_, _, _, _] [_])
      clear S5 b1 f1
      go_roundw
      case rel =>
        refine ⟨k + 1, B2, d2, by omega, by go_num, ?_⟩
        rw [HSN.out, List.flatMap_append]
        simpa [EI.cells] using S6
      case measure => simp [intOf]; omega
    · obtain rfl : nh = k := by omega
      have a0 := S.blk_cell (i := 2) rfl 0
      have a1 := S.blk_cell (i := 2) rfl 1
      have r0 := S.blk_cell (i := 1) rfl 0
      have r1 := S.blk_cell (i := 1) rfl 1
      have f0 := S.blk_frozen (i := 1) rfl 0
      have f1 := S.blk_frozen (i := 1) rfl 1
      have HS := Lib.hid S
      clear S
      go_wp2_with fail
      have S8 := (HS.out.blk_set (i := 1) rfl 0 (.string s)).blk_set (i := 1) rfl 1 (.slice B nh d)
      refine bodyPost_ret (res_ucard _ _ gr _ _ rfl (S8.blk_cell (i := 1) rfl 0) (S8.blk_cell (i := 1) rfl 1)) rfl ?_
      exact ⟨_, rfl, S8.sub (L' := [_]) (.cons _ (.cons _ (.cons _ (List.Sublist.refl _))))⟩
end Go.Proofs.YtnaafefcijgpkaaGreatDoor
/- Chapter 5: Given, without an error. -/
namespace Go.Proofs.YtnaafefcijgpkaaGreatDoor
open Go.RowKit Go.Mem Go.Sheet Go.Adj
set_option maxRecDepth 100000 in
set_option maxHeartbeats 4000000 in
theorem givenE_ok (W : World) (v : Value) (n : Nat) (hs : List HI) (co : Int) (hco : -99 ≤ co ∧ co ≤ 99) (h : Rd W (· < W.heap.size) 2 v n (hs.flatMap HI.cells)) (hg : GoodH hs) :
    Calls Tryz.prog 85 #[v, .int .i64 co] W fun e w' => ∃ v', e = .returned (.tuple #[v', .int .i64 0]) ∧ St W w' [row 3 1 v' n (intsI (gl (givF hs co) n))] := by
  have H := Lib.hid h
  obtain ⟨A, c, rfl, _, _, _⟩ := h.open_
  clear h
  go_enter Tryz.func85, Tryz.ntmps85
  go_wp2_with fail
  go_at_call 80
  refine (checkHoles_ok W _ n hs H.out hg).mono ?_
  rintro e w1 ⟨rfl, hb1⟩
  have HB := Lib.hid (hb1.alloc hb1.size (.cells #[.int .i64 0, .int .i64 0] 38))
  clear hb1
  go_wp2_with (first
    | (go_at_call 92; refine (outside_no _ _ hco).mono ?_; rintro e w' ⟨rfl, rfl⟩)
    | (go_at_call 63; refine (formatNo _ _).mono ?_; rintro e w' ⟨rfl, rfl⟩)
    | (go_at_call 91; refine (formatOk2 _ _ (by simp) (by simp) (by simp)).mono ?_; rintro e w' ⟨rfl, rfl⟩)
    | (go_at_call 93; refine (given_any _ _ n hs co hco (H.out.later HB.out) hg).mono ?_; rintro e w' ⟨v', rfl, S⟩; have HS := Lib.hid S; clear S))
  go_ret2
  exact ⟨_, rfl, (St.of_below HB.out).call HS.out⟩
end Go.Proofs.YtnaafefcijgpkaaGreatDoor
/- Chapter 10, the program: strokes given where there are no holes; check, Card, Board's entries. -/
namespace Go.Proofs.YtnaafefcijgpkaaGreatDoor
open Go.RowKit Go.Mem Go.Sheet Go.Adj
theorem checkHoles_0 (W : World) (A : Option Addr) (c : Nat) : Calls Tryz.prog 80 #[.slice A 0 c] W fun e w' => e = .returned (.int .i64 12) ∧ Below W.heap.size W w' := by
  have HW1 : Hid (∀ w, Calls Tryz.prog 106 #[.bool true, .int .i64 12] w fun r w' => r = .returned (.int .i64 12) ∧ w = w') := Lib.hid (fun w => cardWhen_any true 12 w)
  have HW2 : Hid (∀ w, Calls Tryz.prog 106 #[.bool false, .int .i64 5] w fun r w' => r = .returned (.int .i64 0) ∧ w = w') := Lib.hid (fun w => cardWhen_any false 5 w)
  have HB := Lib.hid ((Below.refl W.heap.size W).alloc (Nat.le_refl _) (.cells #[.int .i64 12, .int .i64 0] 38))
  go_enter Tryz.func80, Tryz.ntmps80
  go_wp2_with fail
  go_at_call 106
  refine (HW1.out _).mono ?_
  rintro e w' ⟨rfl, rfl⟩
  go_wp2_with fail
  go_at_call 106
  refine (HW2.out _).mono ?_
  rintro e w' ⟨rfl, rfl⟩
  go_wp2_with (go_at_call 105; refine (cardFirst2 _ _ 12 0 (by simp) (by simp) (by simp)).mono ?_; rintro e w' ⟨rfl, rfl⟩)
  go_ret
  exact ⟨rfl, HB.out⟩
theorem given_0 (W : World) (A : Option Addr) (c : Nat) (co : Int) (hco : -99 ≤ co ∧ co ≤ 99) : Calls Tryz.prog 85 #[.slice A 0 c, .int .i64 co] W fun e w' => e = .returned (.tuple #[.slice none 0 0, .int .i64 12]) ∧ Below W.heap.size W w' := by
  go_enter Tryz.func85, Tryz.ntmps85
  go_wp2_with fail
  go_at_call 80
  refine (checkHoles_0 W A c).mono ?_
  rintro e w1 ⟨rfl, hb1⟩
  have HB := Lib.hid (hb1.alloc hb1.size (.cells #[.int .i64 12, .int .i64 0] 38))
  clear hb1
  have HF : Hid (∀ (w : World) (g : Nat), g < w.heap.size → w.cell? ⟨g, 0, none⟩ = some (.int .i64 12) → w.cell? ⟨g, 1, none⟩ = some (.int .i64 0) → Calls Tryz.prog 91 #[.slice (some ⟨g, 0, none⟩) 2 2] w fun r w' => r = .returned (.int .i64 12) ∧ w = w') := Lib.hid (fun w g hg h0 h1 =>
    formatFirst_any w (fun _ => True) _ 2 [12, 0] (rd_cells hg (by simp) fun j u hu => by
      match j, hu with
      | 0, hu => cases hu; exact h0
      | 1, hu => cases hu; exact h1))
  go_wp2_with (first
    | (go_at_call 92; refine (outside_no _ _ hco).mono ?_; rintro e w' ⟨rfl, rfl⟩)
    | (go_at_call 63; refine (formatNo _ _).mono ?_; rintro e w' ⟨rfl, rfl⟩)
    | (go_at_call 91; refine (HF.out _ _ (by simp) (by simp) (by simp)).mono ?_; rintro e w' ⟨rfl, rfl⟩))
  go_ret2
  exact ⟨rfl, HB.out⟩
set_option maxRecDepth 100000 in
set_option maxHeartbeats 4000000 in
theorem uCheck_ok (W : World) (u : UI) (s : ByteArray) (hg : GoodU u 256 200) (hs : ∃ j, j < u.nm ∧ (mbAt u.ms j).name = s) (h : RdU W (· < W.heap.size) u) :
    Calls Tryz.prog 25 #[u.val, .string s] W fun e w' => e = .returned (.int .i64 0) ∧ Below W.heap.size W w' := by
  have H1 := Lib.hid (fun w (hb : Below W.heap.size W w) => uCheckUnion_ok w u hg (h.later hb))
  have H2 := Lib.hid (fun w (hb : Below W.heap.size W w) => uMember_any w u s (h.later hb))
  have hp := (mem_pos hg (h.m.count (f := MbI.cells) (size := 3) (fun _ => rfl) (by decide)) hs).1
  clear h hg hs
  obtain ⟨vc, nc, cl, vm, nm, ms, vh, nh, hs, vk, nk, ks, vs, ns, sg, vp, np, ps⟩ := u
  simp only [UI.val] at *
  generalize memI ms s = mi at *
  have t1 : decide (mi < 0) = false := decide_eq_false (by omega)
  have S0 := (St.refl W).blk_new #[vc, vm, vh, vk, vs, vp] 28
  simp only [List.nil_append] at S0
  obtain ⟨gb, hgb⟩ : ∃ g, g = W.heap.size := ⟨_, rfl⟩
  rw [← hgb] at S0
  have HS0 := Lib.hid S0
  have d0 := S0.blk_cell (i := 0) rfl 0
  have d1 := S0.blk_cell (i := 0) rfl 1
  have d2 := S0.blk_cell (i := 0) rfl 2
  have d3 := S0.blk_cell (i := 0) rfl 3
  have d4 := S0.blk_cell (i := 0) rfl 4
  have d5 := S0.blk_cell (i := 0) rfl 5
  clear S0 hp
  go_enter Tryz.func25, Tryz.ntmps25
  go_wp2_with fail
  rw [← hgb]
  generalize W.alloc (.cells #[vc, vm, vh, vk, vs, vp] 28) = w1 at *
  clear hgb
  go_at_call 21
  refine (H1.out w1 HS0.out.bel).mono ?_
  rintro e w2 ⟨rfl, hb⟩
  have HS := Lib.hid (HS0.out.ext hb)
  clear hb HS0 d0 d1 d2 d3 d4 d5 H1
  have d0 := HS.out.blk_cell (i := 0) rfl 0
  have d1 := HS.out.blk_cell (i := 0) rfl 1
  have d2 := HS.out.blk_cell (i := 0) rfl 2
  have d3 := HS.out.blk_cell (i := 0) rfl 3
  have d4 := HS.out.blk_cell (i := 0) rfl 4
  have d5 := HS.out.blk_cell (i := 0) rfl 5
  have HM := Lib.hid (H2.out w2 HS.out.bel)
  go_wp2_with (first
    | (go_at_call 60; refine HM.out.mono ?_; rintro e w3 ⟨rfl, hb⟩; have HS3 := Lib.hid (HS.out.ext hb); clear hb)
    | (go_at_call 59; refine (uNo _ _).mono ?_; rintro e w' ⟨rfl, rfl⟩))
  go_ret
  exact ⟨rfl, HS3.out.bel⟩
theorem res_uCard (tmps : Array Value) (w : World) (g : Nat) (a b v : Value) (hp : tmps.getD 4 undef = .pointer (some ⟨g, 0, none⟩)) (hv : tmps.getD 5 undef = v) (h0 : w.cell? ⟨g, 0, none⟩ = some a) (h1 : w.cell? ⟨g, 1, none⟩ = some b) :
    (results Tryz.f9 tmps).run Tryz.prog w = .ok (.tuple #[.agg #[a, b], v]) w := by
  have e2 : tmps[4]?.getD undef = .pointer (some ⟨g, 0, none⟩) := by simpa using hp
  have e3 : tmps[5]?.getD undef = v := by simpa using hv
  simp [results, Tryz.results9, e2, e3, h0, h1, go_sem]
set_option maxRecDepth 100000 in
set_option maxHeartbeats 4000000 in
theorem uCardE_ok (W : World) (u : UI) (s : ByteArray) (hnh : u.nh ≤ 36) (hg : GoodU u 256 200) (hs : ∃ j, j < u.nm ∧ (mbAt u.ms j).name = s) (h : RdU W (· < W.heap.size) u) :
    Calls Tryz.prog 9 #[u.val, .string s] W fun e w' => ∃ v, e = .returned (.tuple #[.agg #[.string s, v], .int .i64 0]) ∧ St W w' [row 65 2 v u.nh ((esU u.ks s u.nh).flatMap EI.cells)] := by
  have H1 := Lib.hid (fun w (hb : Below W.heap.size W w) => uCheck_ok w u s hg hs (h.later hb))
  have H2 := Lib.hid (fun w (hb : Below W.heap.size W w) => uCard_any w u s hnh (h.later hb))
  clear h hg hs
  obtain ⟨vc, nc, cl, vm, nm, ms, vh, nh, hs, vk, nk, ks, vs, ns, sg, vp, np, ps⟩ := u
  simp only [UI.val] at *
  have S0 := ((St.refl W).blk_new #[vc, vm, vh, vk, vs, vp] 28).blk_new #[.string ⟨#[]⟩, .slice none 0 0] 47
  simp only [List.cons_append, List.nil_append, World.size_alloc] at S0
  have HS0 := Lib.hid S0
  have d0 := S0.blk_cell (i := 0) rfl 0
  have d1 := S0.blk_cell (i := 0) rfl 1
  have d2 := S0.blk_cell (i := 0) rfl 2
  have d3 := S0.blk_cell (i := 0) rfl 3
  have d4 := S0.blk_cell (i := 0) rfl 4
  have d5 := S0.blk_cell (i := 0) rfl 5
  clear S0
  go_enter Tryz.func9, Tryz.ntmps9
  go_wp2_with fail
  obtain ⟨gb, hgb⟩ : ∃ g, g = W.heap.size := ⟨_, rfl⟩
  obtain ⟨gr, hgr⟩ : ∃ g, g = W.heap.size + 1 := ⟨_, rfl⟩
  rw [← hgr, ← hgb] at HS0
  rw [← hgr, ← hgb]
  generalize World.alloc (World.alloc W _) _ = w1 at *
  clear hgb hgr
  go_at_call 25
  refine (H1.out w1 HS0.out.bel).mono ?_
  rintro e w2 ⟨rfl, hb⟩
  have HS := Lib.hid (HS0.out.ext hb)
  clear hb HS0 d0 d1 d2 d3 d4 d5 H1
  have d0 := HS.out.blk_cell (i := 0) rfl 0
  have d1 := HS.out.blk_cell (i := 0) rfl 1
  have d2 := HS.out.blk_cell (i := 0) rfl 2
  have d3 := HS.out.blk_cell (i := 0) rfl 3
  have d4 := HS.out.blk_cell (i := 0) rfl 4
  have d5 := HS.out.blk_cell (i := 0) rfl 5
  go_wp2_with fail
  go_at_call 24
  refine (H2.out w2 HS.out.bel).mono ?_
  rintro e w3 ⟨v, rfl, S3⟩
  have S4 := HS.out.call S3
  simp only [List.cons_append, List.nil_append] at S4
  obtain ⟨B, d, rfl, _, _, _⟩ := (S4.row_rd (i := 2) rfl).open_
  have r0 := S4.blk_cell (i := 1) rfl 0
  have r1 := S4.blk_cell (i := 1) rfl 1
  have f0 := S4.blk_frozen (i := 1) rfl 0
  have f1 := S4.blk_frozen (i := 1) rfl 1
  have HS4 := Lib.hid S4
  clear S3 S4 HS d0 d1 d2 d3 d4 d5
  go_wp2_with fail
  have S8 := (HS4.out.blk_set (i := 1) rfl 0 (.string s)).blk_set (i := 1) rfl 1 (.slice B nh d)
  refine bodyPost_ret (res_uCard _ _ gr _ _ _ rfl rfl (S8.blk_cell (i := 1) rfl 0) (S8.blk_cell (i := 1) rfl 1)) rfl ?_
  exact ⟨_, rfl, S8.sub (L' := [_]) (.cons _ (.cons _ (List.Sublist.refl _)))⟩
set_option maxRecDepth 100000 in
theorem uBoard1_any (W : World) (u : UI) (s : ByteArray) (g : Nat) (hnh : u.nh ≤ 36) (h : RdU W (· < W.heap.size) u)
    (c0 : W.cell? ⟨g, 0, none⟩ = some u.vc) (c1 : W.cell? ⟨g, 1, none⟩ = some u.vm) (c2 : W.cell? ⟨g, 2, none⟩ = some u.vh) (c3 : W.cell? ⟨g, 3, none⟩ = some u.vk) (c4 : W.cell? ⟨g, 4, none⟩ = some u.vs) (c5 : W.cell? ⟨g, 5, none⟩ = some u.vp) :
    Calls Tryz.prog 23 #[.string s, .pointer (some ⟨g, 0, none⟩)] W fun e w' => ∃ v, e = .returned v ∧ St W w' [row 65 2 v u.nh ((esU u.ks s u.nh).flatMap EI.cells)] := by
  have H2 := Lib.hid (uCard_any W u s hnh h)
  clear h
  obtain ⟨vc, nc, cl, vm, nm, ms, vh, nh, hs, vk, nk, ks, vs, ns, sg, vp, np, ps⟩ := u
  simp only [UI.val] at *
  have hfl0 : ∀ v w, (Instr.field 47 (.agg #[.string s, v]) 1).run Tryz.prog w = .ok v w := fun _ _ => by kernel_rfl
  go_enter Tryz.func23, Tryz.ntmps23
  go_wp2_with (go_at_call 24; refine H2.out.mono ?_; rintro e w3 ⟨v, rfl, S3⟩; obtain ⟨B, d, rfl, _, _, _⟩ := (S3.row_rd (i := 0) rfl).open_; have HS3 := Lib.hid S3; have hfl := hfl0 (.slice B nh d); clear S3)
  go_ret
  exact ⟨_, rfl, HS3.out⟩
end Go.Proofs.YtnaafefcijgpkaaGreatDoor
/- Chapter 10, the program: standing. -/
namespace Go.Proofs.YtnaafefcijgpkaaGreatDoor
open Go.RowKit Go.Mem Go.Sheet Go.Adj
theorem given_all (W : World) (v : Value) (n : Nat) (hs : List HI) (co : Int) (hco : -99 ≤ co ∧ co ≤ 99) (h : Rd W (· < W.heap.size) 2 v n (hs.flatMap HI.cells)) (hg : n = 0 ∨ GoodH hs) :
    Calls Tryz.prog 85 #[v, .int .i64 co] W fun e w' => ∃ (v' : Value) (ec : Int), e = .returned (.tuple #[v', .int .i64 ec]) ∧ St W w' [row 3 1 v' n (intsI (gl (givF hs co) n))] := by
  rcases hg with rfl | hg
  · obtain ⟨A, c, rfl, _, _, _⟩ := h.open_
    refine (given_0 W A c co hco).mono ?_
    rintro e w' ⟨rfl, hb⟩
    exact ⟨_, _, rfl, (St.of_below hb).row_nil _ _⟩
  · refine (givenE_ok W v n hs co hco h hg).mono ?_
    rintro e w' ⟨v', rfl, S⟩
    exact ⟨_, _, rfl, S⟩
theorem res_ustand (tmps : Array Value) (w : World) (g : Nat) (a b c : Value) (hp : tmps.getD 6 undef = .pointer (some ⟨g, 0, none⟩)) (h0 : w.cell? ⟨g, 0, none⟩ = some a) (h1 : w.cell? ⟨g, 1, none⟩ = some b) (h2 : w.cell? ⟨g, 2, none⟩ = some c) :
    (results Tryz.f54 tmps).run Tryz.prog w = .ok (.agg #[a, b, c]) w := by
  have e2 : tmps[6]?.getD undef = .pointer (some ⟨g, 0, none⟩) := by simpa using hp
  simp [results, Tryz.results54, e2, h0, h1, h2, go_sem]
theorem par_bd {hs : List HI} {es : List EI} {co : Int} {n k : Nat} (hg : GoodH hs) (hl : n = hs.length) (hco : -99 ≤ co ∧ co ≤ 99) (hk : k < n) (he : GoodE (eAt es k)) : -300 ≤ parE hs co es k ∧ parE hs co es k ≤ 300 := by
  have h1 := good_bd he
  have h2 := giv_bd hg.len hco k
  have h3 := hg.par k (by omega)
  unfold parE
  split
  · omega
  · split <;> omega
set_option maxRecDepth 100000 in
set_option maxHeartbeats 8000000 in
theorem uStanding_any (W : World) (u : UI) (x : MbI) (ve : Value) (es : List EI) (hco : -99 ≤ x.co ∧ x.co ≤ 99) (hgh : u.nh = 0 ∨ GoodH u.hs) (hge : ∀ i, i < u.nh → GoodE (eAt es i)) (h : RdU W (· < W.heap.size) u) (hre : Rd W (· < W.heap.size) 2 ve u.nh (es.flatMap EI.cells)) :
    Calls Tryz.prog 54 #[u.val, .agg #[.string x.name, .string x.club, .int .i64 x.co], ve] W fun e w' => e = .returned (.agg #[.string x.name, .int .i64 (stdF u.hs x es u.nh).th, .int .i64 (stdF u.hs x es u.nh).par]) ∧ Below W.heap.size W w' := by
  have hl : u.nh = u.hs.length := h.h.count (f := HI.cells) (size := 2) (fun _ => rfl) (by decide)
  have hnh : u.nh ≤ 36 := by
    rcases hgh with h0 | h0
    · omega
    · have := h0.len; omega
  have HRH : Hid (∀ w, Below W.heap.size W w → Rd w (· < w.heap.size) 2 u.vh u.nh (u.hs.flatMap HI.cells)) := fun w hb => h.h.later hb
  have HRE : Hid (∀ w, Below W.heap.size W w → Rd w (· < w.heap.size) 2 ve u.nh (es.flatMap EI.cells)) := fun w hb => hre.later hb
  have HGV : Hid (∀ w, Below W.heap.size W w → Calls Tryz.prog 85 #[u.vh, .int .i64 x.co] w fun e w' => ∃ (v' : Value) (ec : Int), e = .returned (.tuple #[v', .int .i64 ec]) ∧ St w w' [row 3 1 v' u.nh (intsI (gl (givF u.hs x.co) u.nh))]) := Lib.hid (fun w hb => given_all w _ _ _ _ hco (h.h.later hb) hgh)
  have HPB : Hid (∀ k, k < u.nh → -300 ≤ parE u.hs x.co es k ∧ parE u.hs x.co es k ≤ 300) := Lib.hid (fun k hk => by
    rcases hgh with h0 | h0
    · omega
    · exact par_bd h0 hl hco hk (hge k hk))
  have HIB : Hid (∀ k, k < u.nh → (-100 ≤ givF u.hs x.co k ∧ givF u.hs x.co k ≤ 100) ∧ (3 ≤ (hAt u.hs k).par ∧ (hAt u.hs k).par ≤ 6)) := Lib.hid (fun k hk => by
    rcases hgh with h0 | h0
    · omega
    · exact ⟨giv_bd h0.len hco k, h0.par k (by omega)⟩)
  have HGE := Lib.hid hge
  obtain ⟨Ah, ch, eh, _, _, _⟩ := h.h.open_
  obtain ⟨Ae, ce, ee, _, _, _⟩ := hre.open_
  clear h hre hl hgh hge
  obtain ⟨vc, nc, cl, vm, nm, ms, vh, nh, hs, vk, nk, ks, vs, ns, sg, vp, np, ps⟩ := u
  simp only [UI.val] at *
  subst eh ee
  obtain ⟨xn, xc, xo⟩ := x
  simp only [stdF] at *
  have S0 := ((((St.refl W).blk_new #[vc, vm, .slice Ah nh ch, vk, vs, vp] 28).blk_new #[.string xn, .string xc, .int .i64 xo] 52).blk_new #[.string ⟨#[]⟩, .int .i64 0, .int .i64 0] 44).blk_new #[.string xn, .int .i64 0, .int .i64 0] 44
  simp only [List.cons_append, List.nil_append, World.size_alloc] at S0
  have HS0 := Lib.hid S0
  have d2 := S0.blk_cell (i := 0) rfl 2
  have m0 := S0.blk_cell (i := 1) rfl 0
  have m2 := S0.blk_cell (i := 1) rfl 2
  clear S0
  go_enter Tryz.func54, Tryz.ntmps54
  go_wp2_with fail
  obtain ⟨gb, hgb⟩ : ∃ g, g = W.heap.size := ⟨_, rfl⟩
  obtain ⟨gm, hgm⟩ : ∃ g, g = W.heap.size + 1 := ⟨_, rfl⟩
  obtain ⟨gr, hgr⟩ : ∃ g, g = W.heap.size + 1 + 1 := ⟨_, rfl⟩
  obtain ⟨gq, hgq⟩ : ∃ g, g = W.heap.size + 1 + 1 + 1 := ⟨_, rfl⟩
  rw [← hgq, ← hgr, ← hgm, ← hgb] at HS0
  rw [← hgq, ← hgr, ← hgm, ← hgb]
  have hrq : gr ≠ gq := by omega
  have hqr : gq ≠ gr := by omega
  have hbq : gb ≠ gq := by omega
  have hqb : gq ≠ gb := by omega
  clear hgb hgm hgr hgq d2 m0 m2
  generalize World.alloc (World.alloc (World.alloc (World.alloc W _) _) _) _ = w1 at *
  go_at_call 85
  refine (HGV.out w1 HS0.out.bel).mono ?_
  rintro e w2 ⟨v8, ec, rfl, S2⟩
  have S3 := HS0.out.call S2
  simp only [List.cons_append, List.nil_append] at S3
  obtain ⟨Bg, dg, rfl, _, _, _⟩ := (S3.row_rd (i := 4) rfl).open_
  have HS3 := Lib.hid S3
  clear S2 S3 HS0 HGV
  go_wp2_with fail
  go_loopw [25] (fun i w' => ∃ k : Nat, k ≤ nh ∧ i = .int .i64 k ∧ St W w' [blk gb 28 #[vc, vm, .slice Ah nh ch, vk, vs, vp], blk gm 52 #[.string xn, .string xc, .int .i64 xo], blk gr 44 #[.string ⟨#[]⟩, .int .i64 0, .int .i64 0], blk gq 44 #[.string xn, .int .i64 (sumTo (thrE es) k), .int .i64 (sumTo (parE hs xo es) k)], row 3 1 (.slice Bg nh dg) nh (intsI (gl (givF hs xo) nh))]) (fun i _ => nh - (intOf i).toNat)
  case atStart => exact ⟨0, Nat.zero_le _, rfl, HS3.out⟩
  case round =>
    obtain ⟨k, hk, rfl, S⟩ := hrel
    clear HS3
    by_cases hlt : k < nh
    · obtain ⟨be_, oe, y, rfl, hy, c0, c1⟩ := (HRE.out wr S.bel).elem2 (k := k) (fun s : EI => .int .i64 s.s) (fun s : EI => .string s.m) (fun _ => rfl) hlt
      have hye := eAt_eq hy
      have hge := HGE.out k hlt
      have hpb := HPB.out k hlt
      obtain ⟨hib, hpr⟩ := HIB.out k hlt
      have htb := thr_bd es k
      have hsb := sumTo_bd (f := parE hs xo es) (a := -300) (b := 300) (n := k) (fun i hi => HPB.out i (by omega))
      have HT1 : Hid (sumTo (thrE es) (k + 1) = sumTo (thrE es) k + thrE es k) := Lib.hid rfl
      have HT2 : Hid (sumTo (parE hs xo es) (k + 1) = sumTo (parE hs xo es) k + parE hs xo es k) := Lib.hid rfl
      have HTE : Hid (thrE es k = if y.m = bd then 0 else 1) := Lib.hid (by unfold thrE; rw [hye])
      have HPE : Hid (parE hs xo es k = if y.m = bd then 0 else if y.m = bx then 2 else y.s - givF hs xo k - (hAt hs k).par) := Lib.hid (by unfold parE; rw [hye])
      rw [hye] at hge
      have hgb := good_bd hge
      have HGO := Lib.hid hge
      clear hy hye hge
      obtain ⟨bg, og, gx, hbg, hgx, hgc⟩ := (S.row_rd (i := 4) rfl).int hlt
      cases hbg
      have hgx2 : gx = givF hs xo k := by
        rw [gl_at _ hlt] at hgx
        exact (Option.some.inj hgx).symm
      subst hgx2
      obtain ⟨bh, oh, xh, hah, hxh, e0, e1⟩ := (HRH.out wr S.bel).elem2 (k := k) (fun s : HI => .int .i64 s.par) (fun s : HI => .int .i64 s.idx) (fun _ => rfl) hlt
      subst hah
      rw [← hAt_eq hxh] at e0
      clear hxh hgx e1
      generalize hgv : givF hs xo k = gv at *
      generalize hpr0 : (hAt hs k).par = pr at *
      have HGV := Lib.hid hgv
      have HPR := Lib.hid hpr0
      clear hgv hpr0
      generalize parE hs xo es k = pk at *
      generalize thrE es k = tk at *
      generalize hth : sumTo (thrE es) k = th at *
      generalize hpa : sumTo (parE hs xo es) k = pa at *
      have HPA := Lib.hid hpa
      have HTH := Lib.hid hth
      clear hpa hth
      obtain ⟨ys, ym⟩ := y
      simp only at c0 c1 HTE HPE HGO hgb
      have SA := S.blk_new #[.int .i64 ys, .string ym] 65
      simp only [List.cons_append, List.nil_append] at SA
      have q0 := SA.blk_cell (i := 3) rfl 1
      have q2 := SA.blk_cell (i := 3) rfl 2
      have f1 := SA.blk_frozen (i := 3) rfl 1
      have f2 := SA.blk_frozen (i := 3) rfl 2
      have HS := Lib.hid SA
      clear S SA
      by_cases hbd : ym = bd
      · have q1 : (ym.toList == [45]) = true := by rw [hbd]; show ((ByteArray.mk ⟨[45]⟩).toList == [45]) = true; rw [tl_mk]; rfl
        have HT3 : Hid (tk = 0 ∧ pk = 0) := Lib.hid ⟨by rw [HTE.out, if_pos hbd], by rw [HPE.out, if_pos hbd]⟩
        have HSE := Lib.hid (HS.out.sub (L' := [_, _, _, _, _]) (List.sublist_append_left [_, _, _, _, _] [_]))
        clear hbd HS q0 q2 f1 f2
        go_wp2_with fail
        go_roundw
        case rel =>
          refine ⟨k + 1, by omega, by go_num, ?_⟩
          rw [HT1.out, HT2.out, HT3.out.1, HT3.out.2, Int.add_zero, Int.add_zero]
          exact HSE.out
        case measure => simp [intOf]; omega
      have q1 : (ym.toList == [45]) = false := bytes_ne hbd
      have HTK : Hid (tk = 1) := Lib.hid (by rw [HTE.out, if_neg hbd])
      have HPK : Hid (pk = if ym = bx then 2 else ys - gv - pr) := Lib.hid (by rw [HPE.out, if_neg hbd])
      have HPL := Lib.hid (fun w => uPlayed_any w ys ym)
      have HBX : Hid (plyd ym = false → ym = bx) := Lib.hid (fun hp => (plyd_no (x := ⟨ys, ym⟩) HGO.out hp).1.resolve_right hbd)
      have HNX : Hid (plyd ym = true → ym ≠ bx) := Lib.hid (fun hp e => by
        rw [plyd, decide_eq_true_eq, e] at hp
        rcases hp with hp | hp <;> cases hp)
      have x0 := HS.out.blk_cell (i := 5) rfl 0
      have x1 := HS.out.blk_cell (i := 5) rfl 1
      clear hbd HTE HPE q0 q2 f1 f2
      go_wp2_with fail
      generalize wr.heap.size = gx at *
      generalize World.alloc wr _ = w3 at *
      clear c0 c1 x0 x1 e0 hgc
      go_at_call 86
      refine (HPL.out w3).mono ?_
      rintro e w4 ⟨rfl, hb⟩
      have HS4 := Lib.hid (HS.out.ext hb)
      clear hb HS HPL
      have q2 := HS4.out.blk_cell (i := 3) rfl 2
      have q1' := HS4.out.blk_cell (i := 3) rfl 1
      have f1 := HS4.out.blk_frozen (i := 3) rfl 1
      have f2 := HS4.out.blk_frozen (i := 3) rfl 2
      cases hp : plyd ym with
      | false =>
        have HP2 : Hid (pk = 2) := Lib.hid (by rw [HPK.out, if_pos (HBX.out hp)])
        have S5 := (HS4.out.blk_set (i := 3) rfl 2 (.int .i64 (pa + 2))).blk_set (i := 3) rfl 1 (.int .i64 (th + 1))
        simp only [List.set_cons_succ, List.set_cons_zero] at S5
        have HS5 := Lib.hid (S5.sub (L' := [_, _, _, _, _]) (List.sublist_append_left [_, _, _, _, _] [_]))
        clear S5 hp HBX HNX HPK
        go_wp2_with fail
        go_roundw
        case rel =>
          refine ⟨k + 1, by omega, by go_num, ?_⟩
          rw [HT1.out, HT2.out, HTK.out, HP2.out]
          exact HS5.out
        case measure => simp [intOf]; omega
      | true =>
        have HP2 : Hid (pk = ys - gv - pr) := Lib.hid (by rw [HPK.out, if_neg (HNX.out hp)])
        have x0 := HS4.out.blk_cell (i := 5) rfl 0
        have d2 := HS4.out.blk_cell (i := 0) rfl 2
        obtain ⟨bg', og', gx', hbg, hgx, hgc⟩ := (HS4.out.row_rd (i := 4) rfl).int hlt
        cases hbg
        have hgx2 : gx' = gv := by
          rw [gl_at _ hlt] at hgx
          exact (Option.some.inj hgx).symm.trans HGV.out
        subst hgx2
        obtain ⟨bh', oh', xh, hah, hxh, e0, e1⟩ := (HRH.out w4 HS4.out.bel).elem2 (k := k) (fun s : HI => .int .i64 s.par) (fun s : HI => .int .i64 s.idx) (fun _ => rfl) hlt
        cases hah
        rw [← hAt_eq hxh, HPR.out] at e0
        clear hxh hgx e1 hp HBX HNX HPK q2 q1' f1 f2
        have q2 := HS4.out.blk_cell (i := 3) rfl 2
        go_wp2_with fail
        refine wp_cls 18 (fun w' => ∃ n, w' = w4.drewN n) (by kernel_rfl) (by kernel_rfl) ⟨1, rfl⟩ ?_
        simp only [List.take_succ_cons, List.take_zero, List.drop_succ_cons, List.drop_zero]
        generalize hK : (fun w' => ∃ n, w' = w4.drewN n) = K
        intro hne
        have kw : ∀ y : Wd K, ∃ n, y.w = w4.drewN n := by subst hK; exact fun y => y.h
        have k0 : ∀ y : Wd K, y.w.cell? ⟨gq, 2, none⟩ = some (.int .i64 pa) := fun y => by obtain ⟨n, e⟩ := kw y; rw [e]; exact q2
        have k1 : ∀ y : Wd K, y.w.cell? ⟨gx, 0, none⟩ = some (.int .i64 ys) := fun y => by obtain ⟨n, e⟩ := kw y; rw [e]; exact x0
        have k2 : ∀ y : Wd K, y.w.cell? ⟨gb, 2, none⟩ = some (.slice (some ⟨bh, oh, none⟩) nh ch) := fun y => by obtain ⟨n, e⟩ := kw y; rw [e]; exact d2
        have k3 : ∀ y : Wd K, y.w.cell? ⟨bg, og + k, none⟩ = some (.int .i64 gx') := fun y => by obtain ⟨n, e⟩ := kw y; rw [e]; exact hgc
        have k4 : ∀ y : Wd K, y.w.cell? ⟨bh, oh + k * 2, none⟩ = some (.int .i64 pr) := fun y => by obtain ⟨n, e⟩ := kw y; rw [e]; exact e0
        clear hK q2 x0 d2 hgc e0
        repeat (go_big_quiet_step ((fail)))
        refine wpQuiet_nil ?_
        intro y
        obtain ⟨nn, hyn⟩ := kw y
        have HSY := HS4.out.drewN nn
        rw [← hyn] at HSY
        clear kw k0 k1 k2 k3 k4 hyn hne HS4
        have q1' := HSY.blk_cell (i := 3) rfl 1
        have q2 := HSY.blk_cell (i := 3) rfl 2
        have f1 := HSY.blk_frozen (i := 3) rfl 1
        have f2 := HSY.blk_frozen (i := 3) rfl 2
        have S5 := (HSY.blk_set (i := 3) rfl 2 (.int .i64 (pa + (ys - gx' - pr)))).blk_set (i := 3) rfl 1 (.int .i64 (th + 1))
        simp only [List.set_cons_succ, List.set_cons_zero] at S5
        have HS5 := Lib.hid (S5.sub (L' := [_, _, _, _, _]) (List.sublist_append_left [_, _, _, _, _] [_]))
        clear S5 HSY
        generalize y.w = w5 at *
        go_wp2_with fail
        go_roundw
        case rel =>
          refine ⟨k + 1, by omega, by go_num, ?_⟩
          rw [HT1.out, HT2.out, HTK.out, HP2.out]
          exact HS5.out
        case measure => simp [intOf]; omega
    · obtain rfl : nh = k := by omega
      have a0 := S.blk_cell (i := 3) rfl 0
      have a1 := S.blk_cell (i := 3) rfl 1
      have a2 := S.blk_cell (i := 3) rfl 2
      have r0 := S.blk_cell (i := 2) rfl 0
      have r1 := S.blk_cell (i := 2) rfl 1
      have r2 := S.blk_cell (i := 2) rfl 2
      have f0 := S.blk_frozen (i := 2) rfl 0
      have f1 := S.blk_frozen (i := 2) rfl 1
      have f2 := S.blk_frozen (i := 2) rfl 2
      have HS := Lib.hid S
      clear S
      go_wp2_with fail
      have S8 := ((HS.out.blk_set (i := 2) rfl 0 (.string xn)).blk_set (i := 2) rfl 1 (.int .i64 (sumTo (thrE es) nh))).blk_set (i := 2) rfl 2 (.int .i64 (sumTo (parE hs xo es) nh))
      refine bodyPost_ret (res_ustand _ _ gr _ _ _ rfl (S8.blk_cell (i := 2) rfl 0) (S8.blk_cell (i := 2) rfl 1) (S8.blk_cell (i := 2) rfl 2)) rfl ?_
      exact ⟨rfl, S8.bel⟩
end Go.Proofs.YtnaafefcijgpkaaGreatDoor
/- The library's stable sort of a short list of union.Standing: plain cells; the insertion sort; up to 19 elements. -/
namespace Go.Adj
open Go.RowKit Go.Mem
def SdI.val (x : SdI) : Value := .agg #[.string x.name, .int .i64 x.th, .int .i64 x.par]
def pcS (Y : Nat → SdI) (q : Nat) : List Value := (List.range q).flatMap fun i => (Y i).cells
theorem pcS_snoc (Y : Nat → SdI) (q : Nat) : pcS Y (q + 1) = pcS Y q ++ (Y q).cells := by unfold pcS; rw [List.range_succ, List.flatMap_append]; simp
theorem pcS_len (Y : Nat → SdI) : ∀ q, (pcS Y q).length = q * 3
  | 0 => by unfold pcS; simp
  | q + 1 => by rw [pcS_snoc, List.length_append, pcS_len Y q]; show q * 3 + 3 = _; omega
theorem pcS_at (Y : Nat → SdI) : ∀ {q a b : Nat}, a < q → b < 3 → (pcS Y q)[a * 3 + b]? = (Y a).cells[b]?
  | q + 1, a, b, ha, hb => by
    rw [pcS_snoc]
    rcases Nat.lt_or_ge a q with h | h
    · rw [List.getElem?_append_left (by rw [pcS_len]; omega)]
      exact pcS_at Y h hb
    · obtain rfl : a = q := by omega
      rw [List.getElem?_append_right (by rw [pcS_len]; omega), pcS_len]
      congr 1; omega
def upS (Y : Nat → SdI) (j : Nat) (p : SdI) (a : Nat) : SdI := if a = j then p else Y a
theorem pcS_upd (Y : Nat → SdI) {q j : Nat} (hj : j < q) (p : SdI) : (((pcS Y q).set (j * 3) (.string p.name)).set (j * 3 + 1) (.int .i64 p.th)).set (j * 3 + 2) (.int .i64 p.par) = pcS (upS Y j p) q := by
  apply List.ext_getElem?
  intro i
  rcases Nat.lt_or_ge i (q * 3) with hi | hi
  · obtain ⟨a, b, hb, e⟩ : ∃ a b, b < 3 ∧ i = a * 3 + b := ⟨i / 3, i % 3, Nat.mod_lt _ (by decide), by omega⟩
    subst e
    have ha : a < q := by omega
    rw [pcS_at _ ha hb]
    simp only [List.getElem?_set, List.length_set, pcS_len]
    by_cases hja : a = j
    · subst hja
      have e2 : upS Y a p a = p := by unfold upS; rw [if_pos rfl]
      rw [e2]
      have : b = 0 ∨ b = 1 ∨ b = 2 := by omega
      rcases this with rfl | rfl | rfl
      · rw [if_neg (by omega), if_neg (by omega), if_pos (by omega), if_pos (by omega)]; rfl
      · rw [if_neg (by omega), if_pos (by omega), if_pos (by omega)]; rfl
      · rw [if_pos (by omega), if_pos (by omega)]; rfl
    · rw [if_neg (by omega), if_neg (by omega), if_neg (by omega), pcS_at _ ha hb]
      unfold upS
      rw [if_neg hja]
  · rw [List.getElem?_eq_none (by simp only [List.length_set, pcS_len]; omega), List.getElem?_eq_none (by rw [pcS_len]; omega)]
theorem upS_swp (Y : Nat → SdI) (j jp : Nat) (h : jp + 1 = j) : upS (upS Y j (Y jp)) jp (Y j) = swpG Y j := by
  funext a
  subst h
  unfold upS swpG
  by_cases h1 : a = jp
  · rw [if_pos h1, if_neg (by omega), if_pos (by omega)]
  · rw [if_neg h1]
    by_cases h2 : a = jp + 1
    · rw [if_pos h2, if_pos h2]; rfl
    · rw [if_neg h2, if_neg h2, if_neg (by omega)]
def MemS (P : SdI → Prop) (Y : Nat → SdI) (q : Nat) : Prop := ∀ a, a < q → P (Y a)
theorem MemS.swap {P : SdI → Prop} {Y : Nat → SdI} {q j : Nat} (h : MemS P Y q) (hj : 1 ≤ j) (hq : j < q) : MemS P (swpG Y j) q := by
  intro a ha
  unfold swpG
  split
  · exact h _ (by omega)
  · split
    · exact h _ hq
    · exact h _ ha
end Go.Adj
namespace Go.Proofs.YtnaafefcijgpkaaGreatDoor
open Go.RowKit Go.Mem Go.Sheet Go.Adj
theorem row_pcS {W w : World} {L : List Asr} {i j g n c : Nat} {Y : Nat → SdI} (h : St W w L) (hi : L[i]? = some (row 44 3 (.slice (some ⟨g, 0, none⟩) n c) n (pcS Y n))) (hj : j < n) :
    (w.cell? ⟨g, j * 3, none⟩ = some (.string (Y j).name) ∧ w.cell? ⟨g, j * 3 + 1, none⟩ = some (.int .i64 (Y j).th) ∧ w.cell? ⟨g, j * 3 + 2, none⟩ = some (.int .i64 (Y j).par)) ∧ ∀ k, w.frozen? ⟨g, k, none⟩ = false := by
  obtain ⟨g', cap, hv, _, _, _, hc, hf⟩ := h.row_form hi (by omega)
  cases hv
  refine ⟨⟨?_, ?_, ?_⟩, hf⟩
  · rw [hc _ (by omega)]; exact pcS_at Y (b := 0) hj (by decide)
  · rw [hc _ (by omega)]; exact pcS_at Y (b := 1) hj (by decide)
  · rw [hc _ (by omega)]; exact pcS_at Y (b := 2) hj (by decide)
theorem row_pcSset {W w : World} {L : List Asr} {i j g n c : Nat} {Y : Nat → SdI} (h : St W w L) (hi : L[i]? = some (row 44 3 (.slice (some ⟨g, 0, none⟩) n c) n (pcS Y n))) (hj : j < n) (p : SdI) :
    St W (((w.setCell ⟨g, j * 3, none⟩ (.string p.name)).setCell ⟨g, j * 3 + 1, none⟩ (.int .i64 p.th)).setCell ⟨g, j * 3 + 2, none⟩ (.int .i64 p.par)) (L.set i (row 44 3 (.slice (some ⟨g, 0, none⟩) n c) n (pcS (upS Y j p) n))) := by
  have hl : i < L.length := (List.getElem?_eq_some_iff.1 hi).1
  have ix : ∀ (A : Asr), (L.set i A)[i]? = some A := fun A => by rw [List.getElem?_set, if_pos rfl, if_pos hl]
  have h0 := h.row_set hi (j * 3) (.string p.name)
  have h1 := h0.row_set (ix _) (j * 3 + 1) (.int .i64 p.th)
  have h2 := h1.row_set (by simp only [List.set_set]; exact ix _) (j * 3 + 2) (.int .i64 p.par)
  simp only [List.set_set] at h2
  rw [pcS_upd Y hj p] at h2
  exact h2
set_option maxRecDepth 100000 in
set_option maxHeartbeats 16000000 in
theorem insS_any (W w : World) (L : List Asr) (k0 g c q : Nat) (O : SdI → Int) (P : SdI → Prop) (Y : Nat → SdI) (hq : q ≤ 20) (S : St W w L) (hL : L[k0]? = some (row 44 3 (.slice (some ⟨g, 0, none⟩) q c) q (pcS Y q))) (hP : MemS P Y q)
    (hC : ∀ (x y : SdI), P x → P y → ∃ cv : Int, decide (cv < 0) = decide (O x < O y) ∧ ∀ w', Calls Tryz.prog 56 #[x.val, y.val] w' fun e w2 => e = .returned (.int .i64 cv) ∧ Below w'.heap.size w' w2) :
    Calls Tryz.prog 111 #[.slice (some ⟨g, 0, none⟩) q c, .int .i64 0, .int .i64 q, .func (.func 56) #[] #[]] w fun e w' =>
      e = .returned (.tuple #[]) ∧ St W w' (L.set k0 (row 44 3 (.slice (some ⟨g, 0, none⟩) q c) q (pcS (insG O Y q) q))) := by
  have S0 : St W w (L.set k0 (row 44 3 (.slice (some ⟨g, 0, none⟩) q c) q (pcS (insG O Y 1) q))) := by
    have e : L.set k0 (row 44 3 (.slice (some ⟨g, 0, none⟩) q c) q (pcS (insG O Y 1) q)) = L := by
      show L.set k0 (row 44 3 (.slice (some ⟨g, 0, none⟩) q c) q (pcS Y q)) = L
      apply List.ext_getElem?
      intro i
      rw [List.getElem?_set]
      split
      · rename_i h; subst h; split
        · exact hL.symm
        · rename_i h2; rw [List.getElem?_eq_none (by omega)] at hL; cases hL
      · rfl
    rw [e]; exact S
  have hk0 : k0 < L.length := by
    rcases Nat.lt_or_ge k0 L.length with h | h
    · exact h
    · rw [List.getElem?_eq_none h] at hL; cases hL
  have HIX : Hid (∀ Y' : Nat → SdI, (L.set k0 (row 44 3 (.slice (some ⟨g, 0, none⟩) q c) q (pcS Y' q)))[k0]? = some (row 44 3 (.slice (some ⟨g, 0, none⟩) q c) q (pcS Y' q))) := fun Y' => by rw [List.getElem?_set, if_pos rfl, if_pos hk0]
  have HSS : Hid (∀ A B : Asr, (L.set k0 A).set k0 B = L.set k0 B) := fun A B => List.set_set ..
  have HP := Lib.hid hP
  have HCC := Lib.hid hC
  clear S hL hk0 hP hC
  have hE := enters Tryz.func56 (by kernel_rfl) rfl
  unfold Enters at hE
  go_enter Tryz.func111, Tryz.ntmps111
  go_wp2
  go_loopw [8] (fun i w' => ∃ k : Nat, 1 ≤ k ∧ (k ≤ q ∨ k = 1) ∧ i = .int .i64 k ∧ Hid (MemS P (insG O Y k) q) ∧ St W w' (L.set k0 (row 44 3 (.slice (some ⟨g, 0, none⟩) q c) q (pcS (insG O Y k) q)))) (fun i _ => q - (intOf i).toNat)
  case atStart => exact ⟨1, Nat.le_refl _, .inr rfl, rfl, HP, S0⟩
  case round =>
    obtain ⟨k, hk1, hk, rfl, hm1, S1⟩ := hrel
    clear S0
    by_cases hlt : k < q
    · have hlt' : (k : Int) < q := by omega
      have HS1 := Lib.hid S1
      clear S1
      have HST0 : Hid (siftG O (insG O Y k) k = insG O Y (k + 1)) := Lib.hid rfl
      generalize insG O Y k = Y1 at *
      generalize hyk : insG O Y (k + 1) = YK at *
      have HYK := Lib.hid hyk
      clear hyk
      go_wp2_with fail
      go_loopw [9] (fun i w' => ∃ (j : Nat) (Y' : Nat → SdI), j ≤ k ∧ i = .int .i64 j ∧ Hid (MemS P Y' q) ∧ Hid (siftG O Y' j = YK) ∧ St W w' (L.set k0 (row 44 3 (.slice (some ⟨g, 0, none⟩) q c) q (pcS Y' q)))) (fun i _ => (intOf i).toNat)
      case atStart => exact ⟨k, Y1, Nat.le_refl _, rfl, hm1, HST0, HS1.out⟩
      case round =>
        obtain ⟨j, Y2, hjk, rfl, hm2, hs2, S2⟩ := hrel
        clear HS1 hm1 HST0
        have hjq : j < q := by omega
        have HS2 := Lib.hid S2
        clear S2
        obtain ⟨LY, hLY⟩ : ∃ LY, LY = L.set k0 (row 44 3 (.slice (some ⟨g, 0, none⟩) q c) q (pcS Y2 q)) := ⟨_, rfl⟩
        rw [← hLY] at HS2
        have HLY := Lib.hid hLY
        have HCE : Hid (∀ w', St W w' LY → ∀ a, a < q → (w'.cell? ⟨g, a * 3, none⟩ = some (.string (Y2 a).name) ∧ w'.cell? ⟨g, a * 3 + 1, none⟩ = some (.int .i64 (Y2 a).th) ∧ w'.cell? ⟨g, a * 3 + 2, none⟩ = some (.int .i64 (Y2 a).par)) ∧ ∀ k, w'.frozen? ⟨g, k, none⟩ = false) := fun w' h a ha => by
          rw [hLY] at h
          exact row_pcS h (HIX.out Y2) ha
        clear hLY
        by_cases hj0 : j = 0
        · subst hj0
          have t0 : decide ((0 : Int) < (0 : Nat)) = false := by simp
          go_wp2_with fail
          refine wp_cls 16 (fun w' => ∃ n, w' = wr.drewN n) (by kernel_rfl) (by kernel_rfl) ⟨1, rfl⟩ ?_
          simp only [List.take_succ_cons, List.take_zero, List.drop_succ_cons, List.drop_zero]
          generalize hK : (fun w' => ∃ n, w' = wr.drewN n) = K
          intro hne
          have kw : ∀ y : Wd K, ∃ n, y.w = wr.drewN n := by subst hK; exact fun y => y.h
          clear hK
          repeat (go_big_quiet_step ((fail)))
          refine wpQuiet_nil ?_
          intro y
          obtain ⟨nn, hyn⟩ := kw y
          have HSY := HS2.out.drewN nn
          rw [← hyn, HLY.out] at HSY
          clear kw hyn hne
          have HSF := Lib.hid HSY
          have HFE : Hid (Y2 = YK) := Lib.hid hs2.out
          clear HSY
          generalize y.w = w3 at *
          go_wp2_with fail
          go_roundw
          case rel => exact ⟨k + 1, by omega, by omega, by go_num, by rw [HYK.out, ← HFE.out]; exact hm2, by rw [HYK.out, ← HFE.out]; exact HSF.out⟩
          case measure => simp [intOf]; omega
        · obtain ⟨jp, hjp⟩ : ∃ jp, jp = j - 1 := ⟨_, rfl⟩
          have hjm : (j : Int) - 1 = (jp : Int) := by omega
          have hjw : IntKind.i64.wrap ((j : Int) - 1) = (jp : Int) := by rw [hjm]; exact IntWalk.i64_in _ (by omega)
          have hjpq : jp < q := by omega
          have hj1 : jp + 1 = j := by omega
          have HJ1 := Lib.hid hj1
          have t0 : decide ((0 : Int) < (j : Int)) = true := by simp; omega
          have t0' : decide (0 < j) = true := by simp; omega
          obtain ⟨cv, hcv, hcl⟩ := HCC.out (Y2 j) (Y2 jp) (hm2.out j hjq) (hm2.out jp hjpq)
          have HCL := Lib.hid hcl
          clear hcl
          have HMS := Lib.hid (hm2.out.swap (j := j) (by omega) hjq)
          have HSW : Hid (O (Y2 j) < O (Y2 jp) → siftG O (swpG Y2 j) jp = YK) := Lib.hid (fun h => by
            have h2 := hs2.out
            rw [← hj1] at h2 h
            unfold siftG at h2
            rw [if_pos h, hj1] at h2
            exact h2)
          have HNS : Hid (¬ O (Y2 j) < O (Y2 jp) → Y2 = YK) := Lib.hid (fun h => by
            have h2 := hs2.out
            rw [← hj1] at h2 h
            unfold siftG at h2
            rw [if_neg h] at h2
            exact h2)
          have HUS := Lib.hid (upS_swp Y2 j jp hj1)
          have HCJ : Hid (∀ w', St W w' LY → (w'.cell? ⟨g, j * 3, none⟩ = some (.string (Y2 j).name) ∧ w'.cell? ⟨g, j * 3 + 1, none⟩ = some (.int .i64 (Y2 j).th) ∧ w'.cell? ⟨g, j * 3 + 2, none⟩ = some (.int .i64 (Y2 j).par)) ∧ ∀ k, w'.frozen? ⟨g, k, none⟩ = false) := fun w' h => HCE.out w' h j hjq
          have HCK : Hid (∀ w', St W w' LY → (w'.cell? ⟨g, jp * 3, none⟩ = some (.string (Y2 jp).name) ∧ w'.cell? ⟨g, jp * 3 + 1, none⟩ = some (.int .i64 (Y2 jp).th) ∧ w'.cell? ⟨g, jp * 3 + 2, none⟩ = some (.int .i64 (Y2 jp).par)) ∧ ∀ k, w'.frozen? ⟨g, k, none⟩ = false) := fun w' h => HCE.out w' h jp hjpq
          have HST : Hid (∀ w', St W w' LY → St W ((((((w'.setCell ⟨g, j * 3, none⟩ (.string (Y2 jp).name)).setCell ⟨g, j * 3 + 1, none⟩ (.int .i64 (Y2 jp).th)).setCell ⟨g, j * 3 + 2, none⟩ (.int .i64 (Y2 jp).par)).setCell ⟨g, jp * 3, none⟩ (.string (Y2 j).name)).setCell ⟨g, jp * 3 + 1, none⟩ (.int .i64 (Y2 j).th)).setCell ⟨g, jp * 3 + 2, none⟩ (.int .i64 (Y2 j).par)) (L.set k0 (row 44 3 (.slice (some ⟨g, 0, none⟩) q c) q (pcS (swpG Y2 j) q)))) := fun w' h => by
            rw [HLY.out] at h
            have h1 := row_pcSset h (HIX.out Y2) hjq (Y2 jp)
            rw [HSS.out] at h1
            have h2 := row_pcSset h1 (HIX.out _) hjpq (Y2 j)
            rw [HSS.out, HUS.out] at h2
            exact h2
          obtain ⟨LZ, hLZ⟩ : ∃ LZ, LZ = L.set k0 (row 44 3 (.slice (some ⟨g, 0, none⟩) q c) q (pcS (swpG Y2 j) q)) := ⟨_, rfl⟩
          rw [← hLZ] at HST
          have HLZ := Lib.hid hLZ
          clear hjp hj1 HCE hLZ HUS
          generalize O (Y2 j) = oa at *
          generalize O (Y2 jp) = ob at *
          generalize hya : Y2 j = ya at *
          generalize hyb : Y2 jp = yb at *
          obtain ⟨a0, a1, a2⟩ := ya
          obtain ⟨b0, b1, b2⟩ := yb
          unfold SdI.val at HCL
          simp only at HCL HCJ HCK HST
          have HYA := Lib.hid hya
          have HYB := Lib.hid hyb
          clear hya hyb
          by_cases hlo : oa < ob
          · have hcv0 : decide (cv < 0) = true := by rw [hcv]; exact decide_eq_true hlo
            have HSN := Lib.hid (HSW.out hlo)
            clear hlo hcv HSW HNS
            go_wp2_with fail
            refine wp_cls 16 (fun w' => St W w' LY) (by kernel_rfl) (by kernel_rfl) HS2.out.drew ?_
            simp only [List.take_succ_cons, List.take_zero, List.drop_succ_cons, List.drop_zero]
            generalize hK : (fun w' => St W w' LY) = K
            intro hne
            have kS : ∀ y : Wd K, St W y.w LY := by subst hK; exact fun y => y.h
            have hK3 : ∀ w w' : World, K w → Below w.heap.size w w' → K w' := by subst hK; exact fun w w' h h' => h.ext h'
            have HC3 : Hid (∀ y : Wd K, Calls Tryz.prog 56 #[.agg #[.string a0, .int .i64 a1, .int .i64 a2], .agg #[.string b0, .int .i64 b1, .int .i64 b2]] y.w fun e w2 => e = .returned (.int .i64 cv) ∧ ∃ z : Wd K, w2 = z.w) := fun y => cls_below hK3 (HCL.out _)
            have y0 : ∀ y : Wd K, y.w.cell? ⟨g, j * 3, none⟩ = some (.string a0) := fun y => (HCJ.out _ (kS y)).1.1
            have y1 : ∀ y : Wd K, y.w.cell? ⟨g, j * 3 + 1, none⟩ = some (.int .i64 a1) := fun y => (HCJ.out _ (kS y)).1.2.1
            have y2 : ∀ y : Wd K, y.w.cell? ⟨g, j * 3 + 2, none⟩ = some (.int .i64 a2) := fun y => (HCJ.out _ (kS y)).1.2.2
            have y3 : ∀ y : Wd K, y.w.cell? ⟨g, jp * 3, none⟩ = some (.string b0) := fun y => (HCK.out _ (kS y)).1.1
            have y4 : ∀ y : Wd K, y.w.cell? ⟨g, jp * 3 + 1, none⟩ = some (.int .i64 b1) := fun y => (HCK.out _ (kS y)).1.2.1
            have y5 : ∀ y : Wd K, y.w.cell? ⟨g, jp * 3 + 2, none⟩ = some (.int .i64 b2) := fun y => (HCK.out _ (kS y)).1.2.2
            have KS := Lib.hid kS
            clear hK kS
            repeat (go_big_quiet_step ((exact HC3.out _)))
            refine wpQuiet_nil ?_
            intro y
            have HSY := Lib.hid (KS.out y)
            clear y0 y1 y2 y3 y4 y5 hK3 HC3 hne KS
            generalize y.w = w3 at *
            go_wp2_with fail
            refine wp_pre_tail 5 15 (fun w' => ∃ n, w' = w3.drewN n) (by kernel_rfl) (by kernel_rfl) ⟨1, rfl⟩ ?_
            simp only [List.take_succ_cons, List.take_zero, List.drop_succ_cons, List.drop_zero, Nat.reduceSub]
            generalize hK : (fun w' => ∃ n, w' = w3.drewN n) = K
            intro hne
            have kS : ∀ y : Wd K, St W y.w LY := by subst hK; exact fun y => by obtain ⟨n, e⟩ := y.h; rw [e]; exact HSY.out.drewN n
            have y0 : ∀ y : Wd K, y.w.cell? ⟨g, j * 3, none⟩ = some (.string a0) := fun y => (HCJ.out _ (kS y)).1.1
            have y1 : ∀ y : Wd K, y.w.cell? ⟨g, j * 3 + 1, none⟩ = some (.int .i64 a1) := fun y => (HCJ.out _ (kS y)).1.2.1
            have y2 : ∀ y : Wd K, y.w.cell? ⟨g, j * 3 + 2, none⟩ = some (.int .i64 a2) := fun y => (HCJ.out _ (kS y)).1.2.2
            have y3 : ∀ y : Wd K, y.w.cell? ⟨g, jp * 3, none⟩ = some (.string b0) := fun y => (HCK.out _ (kS y)).1.1
            have y4 : ∀ y : Wd K, y.w.cell? ⟨g, jp * 3 + 1, none⟩ = some (.int .i64 b1) := fun y => (HCK.out _ (kS y)).1.2.1
            have y5 : ∀ y : Wd K, y.w.cell? ⟨g, jp * 3 + 2, none⟩ = some (.int .i64 b2) := fun y => (HCK.out _ (kS y)).1.2.2
            have KS := Lib.hid kS
            clear hK kS
            change wpQuiet _ _ _ _ (_ :: _ :: _ :: _ :: _ :: []) _
            iterate 5 (go_big_quiet_step ((fail)))
            refine wpQuiet_nil ?_
            repeat (go_big_quiet_step ((fail)))
            refine wpQuiet_nil ?_
            intro y
            have hsy := KS.out y
            clear y0 y1 y2 y3 y4 y5 hne KS HSY
            generalize y.w = w4 at *
            obtain ⟨⟨c0, c1, c2⟩, f0⟩ := HCJ.out _ hsy
            obtain ⟨⟨d0, d1, d2⟩, _⟩ := HCK.out _ hsy
            have f00 := f0 (j * 3)
            have f01 := f0 (j * 3 + 1)
            have f02 := f0 (j * 3 + 2)
            have f10 := f0 (jp * 3)
            have f11 := f0 (jp * 3 + 1)
            have f12 := f0 (jp * 3 + 2)
            have HSG := Lib.hid (HST.out _ hsy)
            have hj1 := HJ1.out
            have n0_0 : j * 3 ≠ jp * 3 := by omega
            have n0_1 : j * 3 ≠ jp * 3 + 1 := by omega
            have n0_2 : j * 3 ≠ jp * 3 + 2 := by omega
            have n1_0 : j * 3 + 1 ≠ jp * 3 := by omega
            have n1_1 : j * 3 + 1 ≠ jp * 3 + 1 := by omega
            have n1_2 : j * 3 + 1 ≠ jp * 3 + 2 := by omega
            have n2_0 : j * 3 + 2 ≠ jp * 3 := by omega
            have n2_1 : j * 3 + 2 ≠ jp * 3 + 1 := by omega
            have n2_2 : j * 3 + 2 ≠ jp * 3 + 2 := by omega
            clear hsy f0 hj1
            go_wp2_with fail
            refine NoPanic.normal ?_
            go_wp2_with fail
            go_roundw
            case rel => exact ⟨jp, _, by have := HJ1.out; omega, by go_num, HMS, HSN, by have h := HSG.out; rw [HLZ.out] at h; exact h⟩
            case measure => have := HJ1.out; simp [intOf]; omega
          · have hcv0 : decide (cv < 0) = false := by rw [hcv]; exact decide_eq_false hlo
            have HFE := Lib.hid (HNS.out hlo)
            clear hlo hcv HSW HNS
            go_wp2_with fail
            refine wp_cls 16 (fun w' => St W w' LY) (by kernel_rfl) (by kernel_rfl) HS2.out.drew ?_
            simp only [List.take_succ_cons, List.take_zero, List.drop_succ_cons, List.drop_zero]
            generalize hK : (fun w' => St W w' LY) = K
            intro hne
            have kS : ∀ y : Wd K, St W y.w LY := by subst hK; exact fun y => y.h
            have hK3 : ∀ w w' : World, K w → Below w.heap.size w w' → K w' := by subst hK; exact fun w w' h h' => h.ext h'
            have HC3 : Hid (∀ y : Wd K, Calls Tryz.prog 56 #[.agg #[.string a0, .int .i64 a1, .int .i64 a2], .agg #[.string b0, .int .i64 b1, .int .i64 b2]] y.w fun e w2 => e = .returned (.int .i64 cv) ∧ ∃ z : Wd K, w2 = z.w) := fun y => cls_below hK3 (HCL.out _)
            have y0 : ∀ y : Wd K, y.w.cell? ⟨g, j * 3, none⟩ = some (.string a0) := fun y => (HCJ.out _ (kS y)).1.1
            have y1 : ∀ y : Wd K, y.w.cell? ⟨g, j * 3 + 1, none⟩ = some (.int .i64 a1) := fun y => (HCJ.out _ (kS y)).1.2.1
            have y2 : ∀ y : Wd K, y.w.cell? ⟨g, j * 3 + 2, none⟩ = some (.int .i64 a2) := fun y => (HCJ.out _ (kS y)).1.2.2
            have y3 : ∀ y : Wd K, y.w.cell? ⟨g, jp * 3, none⟩ = some (.string b0) := fun y => (HCK.out _ (kS y)).1.1
            have y4 : ∀ y : Wd K, y.w.cell? ⟨g, jp * 3 + 1, none⟩ = some (.int .i64 b1) := fun y => (HCK.out _ (kS y)).1.2.1
            have y5 : ∀ y : Wd K, y.w.cell? ⟨g, jp * 3 + 2, none⟩ = some (.int .i64 b2) := fun y => (HCK.out _ (kS y)).1.2.2
            have KS := Lib.hid kS
            clear hK kS
            repeat (go_big_quiet_step ((exact HC3.out _)))
            refine wpQuiet_nil ?_
            intro y
            have hsy := KS.out y
            rw [HLY.out] at hsy
            have HSF := Lib.hid hsy
            clear y0 y1 y2 y3 y4 y5 hK3 HC3 hne KS hsy
            generalize y.w = w3 at *
            go_wp2_with fail
            go_roundw
            case rel => exact ⟨k + 1, by omega, by omega, by go_num, by rw [HYK.out, ← HFE.out]; exact hm2, by rw [HYK.out, ← HFE.out]; exact HSF.out⟩
            case measure => simp [intOf]; omega
    · have hge : ¬ (k : Int) < q := by omega
      have HS1 := Lib.hid S1
      have HQE : Hid (q = k ∨ q = 0) := Lib.hid (by omega)
      clear S1
      go_wp2_with fail
      go_end0
      refine ⟨rfl, ?_⟩
      rcases HQE.out with h | h
      · rw [h]
        have h2 := HS1.out
        rw [h] at h2
        exact h2
      · have h2 := HS1.out
        rw [h] at h2 ⊢
        exact h2
set_option maxRecDepth 100000 in
set_option maxHeartbeats 4000000 in
theorem sortS_any (W w : World) (L : List Asr) (k0 g c q : Nat) (O : SdI → Int) (P : SdI → Prop) (Y : Nat → SdI) (hq : q ≤ 19) (S : St W w L) (hL : L[k0]? = some (row 44 3 (.slice (some ⟨g, 0, none⟩) q c) q (pcS Y q))) (hP : MemS P Y q)
    (hC : ∀ (x y : SdI), P x → P y → ∃ cv : Int, decide (cv < 0) = decide (O x < O y) ∧ ∀ w', Calls Tryz.prog 56 #[x.val, y.val] w' fun e w2 => e = .returned (.int .i64 cv) ∧ Below w'.heap.size w' w2) :
    Calls Tryz.prog 55 #[.slice (some ⟨g, 0, none⟩) q c, .func (.func 56) #[] #[]] w fun e w' =>
      e = .returned (.tuple #[]) ∧ St W w' (L.set k0 (row 44 3 (.slice (some ⟨g, 0, none⟩) q c) q (pcS (insG O Y q) q))) := by
  have HI := Lib.hid (insS_any W w L k0 g c q O P Y (by omega) S hL hP hC)
  clear S hL hP hC
  have t1 : decide ((20 : Int) ≤ (q : Int)) = false := by simp; omega
  have t2 : decide ((20 : Int) < (q : Int)) = false := by simp; omega
  have HS : Hid (Calls Tryz.prog 87 #[.slice (some ⟨g, 0, none⟩) q c, .int .i64 q, .func (.func 56) #[] #[]] w fun e w' =>
      e = .returned (.tuple #[]) ∧ St W w' (L.set k0 (row 44 3 (.slice (some ⟨g, 0, none⟩) q c) q (pcS (insG O Y q) q)))) := by
    show Calls _ _ _ _ _
    go_enter Tryz.func87, Tryz.ntmps87
    go_wp2_with fail
    go_loopw [7, 8] (fun i j w' => i = .int .i64 0 ∧ j = .int .i64 20 ∧ w' = w) (fun _ _ _ => 0)
    case atStart => exact ⟨rfl, rfl, rfl⟩
    case round =>
      obtain ⟨rfl, rfl, rfl⟩ := hrel
      go_wp2_with fail
      go_at_call 111
      refine HI.out.mono ?_
      rintro e w2 ⟨rfl, hr⟩
      have HR := Lib.hid hr
      clear hr
      go_wp2_with fail
      go_loopw [6] (fun i w' => i = .int .i64 20 ∧ w' = w2) (fun _ _ => 0)
      case atStart => exact ⟨rfl, rfl⟩
      case round =>
        obtain ⟨rfl, rfl⟩ := hrel
        go_wp2_with fail
        go_end0
        exact ⟨rfl, HR.out⟩
  go_enter Tryz.func55, Tryz.ntmps55
  go_wp2_with fail
  go_at_call 87
  refine HS.out.mono ?_
  rintro e w2 ⟨rfl, hr⟩
  have HR := Lib.hid hr
  clear hr
  go_wp2_with fail
  go_end0
  exact ⟨rfl, HR.out⟩
end Go.Proofs.YtnaafefcijgpkaaGreatDoor
/- Chapter 10, the program: the order of standings. -/
namespace Go.Proofs.YtnaafefcijgpkaaGreatDoor
open Go.RowKit Go.Mem Go.Sheet Go.Adj
def cmpU (a b : Int) : Int := if a < b then -1 else if b < a then 1 else 0
theorem cmpU_any (a b : Int) (w : World) : Calls Tryz.prog 39 #[.int .i64 a, .int .i64 b] w fun e w' => e = .returned (.int .i64 (cmpU a b)) ∧ w = w' := by
  by_cases h1 : a < b
  · have e : cmpU a b = -1 := by unfold cmpU; rw [if_pos h1]
    rw [e]
    go_enter Tryz.func39, Tryz.ntmps39
    go_wp2
    go_ret
    exact ⟨rfl, rfl⟩
  by_cases h2 : b < a
  · have e : cmpU a b = 1 := by unfold cmpU; rw [if_neg h1, if_pos h2]
    rw [e]
    go_enter Tryz.func39, Tryz.ntmps39
    go_wp2
    go_ret
    exact ⟨rfl, rfl⟩
  have e : cmpU a b = 0 := by unfold cmpU; rw [if_neg h1, if_neg h2]
  rw [e]
  go_enter Tryz.func39, Tryz.ntmps39
  go_wp2
  go_ret
  exact ⟨rfl, rfl⟩
set_option maxHeartbeats 400000 in
theorem orI_any (w : World) (F : Nat → Prop) (v : Value) (n : Nat) (es : List Int) (h : Rd w F 1 v n (es.map (Value.int .i64))) :
    Calls Tryz.prog 57 #[v] w fun r w' => r = .returned (.int .i64 (fst es)) ∧ w = w' := by
  have HL := Lib.hid h.count1
  have hn := h.le
  obtain ⟨A, c, rfl, _, _, h⟩ := h.open_
  go_enter Tryz.func57, Tryz.ntmps57
  go_wp2
  go_loop [8] (fun i => ∃ k : Nat, k ≤ n ∧ i = .int .i64 k ∧ Hid (fst (es.drop k) = fst es)) (fun i => n - (intOf i).toNat)
  case atStart => exact ⟨0, Nat.zero_le _, rfl, rfl⟩
  case round =>
    obtain ⟨k, hk, rfl, he⟩ := hrel
    by_cases hlt : k < n
    · obtain ⟨b, o, x, rfl, hx, hc⟩ := h.int hlt
      have HX := Lib.hid hx
      clear hx
      go_wp2
      · go_ret
        exact ⟨ret_i64 (fst_stop HX.out (by simpa using ‹(x != 0) = true›) he.out), rfl⟩
      · go_round
        case rel => exact ⟨k + 1, by omega, by go_num, fst_go HX.out (by simpa using ‹(x != 0) = false›) he.out⟩
        case measure => simp [intOf]; omega
    · go_wp2
      go_ret
      obtain rfl : k = n := by omega
      exact ⟨ret_i64 (fst_end (Nat.le_of_eq HL.out.symm) he.out).symm, rfl⟩
theorem or2 (w : World) (g : Nat) (a b : Int) (hg : g < w.heap.size) (h0 : w.cell? ⟨g, 0, none⟩ = some (.int .i64 a)) (h1 : w.cell? ⟨g, 1, none⟩ = some (.int .i64 b)) :
    Calls Tryz.prog 57 #[.slice (some ⟨g, 0, none⟩) 2 2] w fun r w' => r = .returned (.int .i64 (fst [a, b])) ∧ w = w' :=
  orI_any w (fun _ => True) _ 2 [a, b] (rd_cells hg (by simp) fun j u hu => by
    match j, hu with
    | 0, hu => cases hu; exact h0
    | 1, hu => cases hu; exact h1)
def thOk (n : Nat) (x : SdI) : Prop := 0 ≤ x.th ∧ x.th ≤ n
theorem ord_or {n : Nat} (hn : n ≤ 36) {x y : SdI} (hx : thOk n x) (hy : thOk n y) : decide (fst [cmpU x.par y.par, cmpU y.th x.th] < 0) = decide (ordS x < ordS y) := by
  unfold thOk at hx hy
  rw [decide_eq_decide]
  have e : fst [cmpU x.par y.par, cmpU y.th x.th] = if x.par < y.par then -1 else if y.par < x.par then 1 else if y.th < x.th then -1 else if x.th < y.th then 1 else 0 := by
    unfold cmpU
    by_cases h1 : x.par < y.par
    · rw [if_pos h1, if_pos h1]; rfl
    · rw [if_neg h1, if_neg h1]
      by_cases h2 : y.par < x.par
      · rw [if_pos h2, if_pos h2]; rfl
      · rw [if_neg h2, if_neg h2]
        by_cases h3 : y.th < x.th
        · rw [if_pos h3]; rfl
        · rw [if_neg h3]
          by_cases h4 : x.th < y.th
          · rw [if_pos h4]; rfl
          · rw [if_neg h4]; rfl
  rw [e]
  unfold ordS
  split
  · omega
  · split
    · omega
    · split
      · omega
      · split <;> omega
set_option maxRecDepth 100000 in
set_option maxHeartbeats 4000000 in
theorem board1_any (x y : SdI) (w : World) : Calls Tryz.prog 56 #[x.val, y.val] w fun e w' => e = .returned (.int .i64 (fst [cmpU x.par y.par, cmpU y.th x.th])) ∧ Below w.heap.size w w' := by
  obtain ⟨xn, xt, xp⟩ := x
  obtain ⟨yn, yt, yp⟩ := y
  unfold SdI.val
  simp only
  have S0 := ((St.refl w).blk_new #[.string xn, .int .i64 xt, .int .i64 xp] 44).blk_new #[.string yn, .int .i64 yt, .int .i64 yp] 44
  simp only [List.cons_append, List.nil_append, World.size_alloc] at S0
  have HS := Lib.hid S0
  have HC1 := Lib.hid (fun w => cmpU_any xp yp w)
  have HC2 := Lib.hid (fun w => cmpU_any yt xt w)
  generalize cmpU xp yp = ca at *
  generalize cmpU yt xt = cb at *
  clear S0
  go_enter Tryz.func56, Tryz.ntmps56
  go_wp2_with fail
  obtain ⟨g2, hg2⟩ : ∃ g, g = w.heap.size := ⟨_, rfl⟩
  obtain ⟨g3, hg3⟩ : ∃ g, g = w.heap.size + 1 := ⟨_, rfl⟩
  rw [← hg3, ← hg2] at HS
  rw [← hg3, ← hg2]
  generalize World.alloc (World.alloc w _) _ = w1 at *
  clear hg2 hg3
  refine wp_cls 10 (fun w' => St w w' [blk g2 44 #[.string xn, .int .i64 xt, .int .i64 xp], blk g3 44 #[.string yn, .int .i64 yt, .int .i64 yp]]) (by kernel_rfl) (by kernel_rfl) HS.out.drew ?_
  simp only [List.take_succ_cons, List.take_zero, List.drop_succ_cons, List.drop_zero]
  generalize hK : (fun w' => St w w' [blk g2 44 #[.string xn, .int .i64 xt, .int .i64 xp], blk g3 44 #[.string yn, .int .i64 yt, .int .i64 yp]]) = K
  intro hne
  have kS : ∀ y : Wd K, St w y.w [blk g2 44 #[.string xn, .int .i64 xt, .int .i64 xp], blk g3 44 #[.string yn, .int .i64 yt, .int .i64 yp]] := by subst hK; exact fun y => y.h
  have k0 : ∀ y : Wd K, y.w.cell? ⟨g2, 1, none⟩ = some (.int .i64 xt) := fun y => (kS y).blk_cell (i := 0) rfl 1
  have k1 : ∀ y : Wd K, y.w.cell? ⟨g2, 2, none⟩ = some (.int .i64 xp) := fun y => (kS y).blk_cell (i := 0) rfl 2
  have k2 : ∀ y : Wd K, y.w.cell? ⟨g3, 1, none⟩ = some (.int .i64 yt) := fun y => (kS y).blk_cell (i := 1) rfl 1
  have k3 : ∀ y : Wd K, y.w.cell? ⟨g3, 2, none⟩ = some (.int .i64 yp) := fun y => (kS y).blk_cell (i := 1) rfl 2
  have KS := Lib.hid kS
  clear hK kS HS
  iterate 4 (go_big_quiet_step ((fail)))
  go_big_quiet_step ((go_at_call 39; exact cls_same (HC1.out _)))
  iterate 4 (go_big_quiet_step ((fail)))
  go_big_quiet_step ((go_at_call 39; exact cls_same (HC2.out _)))
  refine wpQuiet_nil ?_
  intro y
  have SY := Lib.hid ((KS.out y).alloc (.cells #[.int .i64 ca, .int .i64 cb] 3))
  clear k0 k1 k2 k3 KS hne HC1 HC2
  generalize y.w = wy at *
  go_wp2_with (go_at_call 57; refine (or2 _ _ ca cb (by simp) (by simp) (by simp)).mono ?_; rintro e w' ⟨rfl, rfl⟩)
  go_ret
  exact ⟨rfl, SY.out.bel⟩
theorem board1_ord {n : Nat} (hn : n ≤ 36) (x y : SdI) (hx : thOk n x) (hy : thOk n y) : ∃ cv : Int, decide (cv < 0) = decide (ordS x < ordS y) ∧ ∀ w', Calls Tryz.prog 56 #[x.val, y.val] w' fun e w2 => e = .returned (.int .i64 cv) ∧ Below w'.heap.size w' w2 :=
  ⟨_, ord_or hn hx hy, fun w => board1_any x y w⟩
end Go.Proofs.YtnaafefcijgpkaaGreatDoor
/- Chapter 10, the program: board. -/
namespace Go.Adj
theorem flatMap_getD {α : Type} (f : Nat → List α) : ∀ l : List Nat, l.flatMap f = (List.range l.length).flatMap fun i => f (l.getD i 0)
  | [] => rfl
  | x :: l => by
    rw [List.length_cons, List.range_succ_eq_map, List.flatMap_cons, List.flatMap_cons, List.flatMap_map, flatMap_getD f l]
    rfl
theorem on_pcs (u : UI) (E : Nat → List EI) : (onE u E u.nm).flatMap (fun j => (sdE u E j).cells) = pcS (brd0 u E) (brdN u E) := by
  rw [flatMap_getD]
  rfl
end Go.Adj
namespace Go.Proofs.YtnaafefcijgpkaaGreatDoor
open Go.RowKit Go.Mem Go.Sheet Go.Adj
theorem eltSd : Elt Tryz.prog 37 44 (.agg #[.string ⟨#[]⟩, .int .i64 0, .int .i64 0]) 3 32 := ⟨Tryz.underlying37, by kernel_rfl, rfl, by decide⟩
theorem one_sd (a : ByteArray) (x y : Int) : ∀ u ∈ [Value.string a, Value.int .i64 x, Value.int .i64 y], u.oneCell' = true := by simp [Value.oneCell']
set_option maxRecDepth 100000 in
theorem sortS_0 (A : Option Addr) (c : Nat) (w : World) : Calls Tryz.prog 55 #[.slice A 0 c, .func (.func 56) #[] #[]] w fun e w' => e = .returned (.tuple #[]) ∧ w = w' := by
  have HI : Hid (Calls Tryz.prog 111 #[.slice A 0 c, .int .i64 0, .int .i64 0, .func (.func 56) #[] #[]] w fun e w' => e = .returned (.tuple #[]) ∧ w = w') := by
    show Calls _ _ _ _ _
    go_enter Tryz.func111, Tryz.ntmps111
    go_wp2
    go_loopw [8] (fun i w' => i = .int .i64 1 ∧ w' = w) (fun _ _ => 0)
    case atStart => exact ⟨rfl, rfl⟩
    case round =>
      obtain ⟨rfl, rfl⟩ := hrel
      go_wp2_with fail
      go_end0
      exact ⟨rfl, rfl⟩
  have HS : Hid (Calls Tryz.prog 87 #[.slice A 0 c, .int .i64 0, .func (.func 56) #[] #[]] w fun e w' => e = .returned (.tuple #[]) ∧ w = w') := by
    show Calls _ _ _ _ _
    go_enter Tryz.func87, Tryz.ntmps87
    go_wp2_with fail
    go_loopw [7, 8] (fun i j w' => i = .int .i64 0 ∧ j = .int .i64 20 ∧ w' = w) (fun _ _ _ => 0)
    case atStart => exact ⟨rfl, rfl, rfl⟩
    case round =>
      obtain ⟨rfl, rfl, rfl⟩ := hrel
      go_wp2_with fail
      go_at_call 111
      refine HI.out.mono ?_
      rintro e w2 ⟨rfl, rfl⟩
      go_wp2_with fail
      go_loopw [6] (fun i w' => i = .int .i64 20 ∧ w' = wr) (fun _ _ => 0)
      case atStart => exact ⟨rfl, rfl⟩
      case round =>
        obtain ⟨rfl, rfl⟩ := hrel
        go_wp2_with fail
        go_end0
        exact ⟨rfl, rfl⟩
  go_enter Tryz.func55, Tryz.ntmps55
  go_wp2_with fail
  go_at_call 87
  refine HS.out.mono ?_
  rintro e w2 ⟨rfl, rfl⟩
  go_wp2_with fail
  go_end0
  exact ⟨rfl, rfl⟩
set_option maxRecDepth 100000 in
set_option maxHeartbeats 8000000 in
theorem uBoardB_any (W : World) (u : UI) (E : Nat → List EI) (gp : Nat) (hnm : u.nm ≤ 19) (hnh : u.nh ≤ 36) (hgh : u.nh = 0 ∨ GoodH u.hs) (hco : ∀ i, i < u.nm → -99 ≤ (mbAt u.ms i).co ∧ (mbAt u.ms i).co ≤ 99) (hge : ∀ k, k < u.nm → ∀ i, i < u.nh → GoodE (eAt (E k) i)) (h : RdU W (· < W.heap.size) u)
    (hcl : ∀ k, k < u.nm → ∀ w, Below W.heap.size W w → Calls Tryz.prog 23 (#[.string (mbAt u.ms k).name] ++ #[.pointer (some ⟨gp, 0, none⟩)]) w fun e w' => ∃ v, e = .returned v ∧ Below w.heap.size w w' ∧ Rd w' (· < w'.heap.size) 2 v u.nh ((E k).flatMap EI.cells)) :
    Calls Tryz.prog 22 #[u.val, .func (.func 23) #[] #[.pointer (some ⟨gp, 0, none⟩)]] W fun e w' => ∃ v, e = .returned v ∧ St W w' [row 44 3 v (brdN u E) (pcS (brdF u E) (brdN u E))] := by
  have HCL := Lib.hid hcl
  have HSTA : Hid (∀ k, k < u.nm → ∀ w v, Below W.heap.size W w → Rd w (· < w.heap.size) 2 v u.nh ((E k).flatMap EI.cells) → Calls Tryz.prog 54 #[u.val, .agg #[.string (mbAt u.ms k).name, .string (mbAt u.ms k).club, .int .i64 (mbAt u.ms k).co], v] w fun e w' => e = .returned (.agg #[.string (mbAt u.ms k).name, .int .i64 (sdE u E k).th, .int .i64 (sdE u E k).par]) ∧ Below w.heap.size w w') := Lib.hid (fun k hk w v hb hr => uStanding_any w u _ v _ (hco k hk) hgh (hge k hk) (h.later hb) hr)
  have HMS : Hid (∀ w, Below W.heap.size W w → Rd w (· < w.heap.size) 3 u.vm u.nm (u.ms.flatMap MbI.cells)) := fun w hb => h.m.later hb
  have HTH : Hid (∀ a, thOk 36 (brd0 u E a)) := Lib.hid (fun a => by
    have := sd_th u E ((onE u E u.nm).getD a 0)
    unfold thOk brd0
    omega)
  have HLE := Lib.hid (onE_len u E)
  have HBN : Hid ((onE u E u.nm).length = brdN u E) := Lib.hid rfl
  have HBF : Hid (brdF u E = insG ordS (brd0 u E) (brdN u E)) := Lib.hid rfl
  have HBR : Hid ((onE u E u.nm).flatMap (fun j => (sdE u E j).cells) = pcS (brd0 u E) (brdN u E)) := Lib.hid (on_pcs u E)
  have HON0 : Hid (onE u E 0 = []) := Lib.hid rfl
  have HY1 : Hid (∀ k, 0 < (sdE u E k).th → onE u E (k + 1) = onE u E k ++ [k]) := Lib.hid (fun k h0 => by show (if _ then _ else _) = _; rw [if_pos h0])
  have HY2 : Hid (∀ k, ¬ 0 < (sdE u E k).th → onE u E (k + 1) = onE u E k) := Lib.hid (fun k h0 => by show (if _ then _ else _) = _; rw [if_neg h0])
  have HSN : Hid (∀ k, (sdE u E k).name = (mbAt u.ms k).name) := Lib.hid (fun k => rfl)
  obtain ⟨Am, cm, em, _, _, _⟩ := h.m.open_
  clear h hcl hgh hco hge
  generalize onE u E = ON at *
  generalize sdE u E = SD at *
  generalize brd0 u E = B0 at *
  generalize brdN u E = BN at *
  generalize brdF u E = BF at *
  obtain ⟨vc, nc, cl, vm, nm, ms, vh, nh, hs, vk, nk, ks, vs, ns, sg, vp, np, ps⟩ := u
  simp only [UI.val] at *
  subst em
  have S0 := ((St.refl W).blk_new #[vc, .slice Am nm cm, vh, vk, vs, vp] 28).row_nil 44 3
  simp only [List.cons_append, List.nil_append] at S0
  obtain ⟨gb, hgb⟩ : ∃ g, g = W.heap.size := ⟨_, rfl⟩
  rw [← hgb] at S0
  have d1 := S0.blk_cell (i := 0) rfl 1
  have HS0 := Lib.hid S0
  clear S0
  have hE := enters Tryz.func23 (by kernel_rfl) rfl
  unfold Enters at hE
  go_enter Tryz.func22, Tryz.ntmps22
  go_wp2_with fail
  rw [← hgb]
  generalize W.alloc (.cells #[vc, .slice Am nm cm, vh, vk, vs, vp] 28) = w1 at *
  clear hgb
  go_loopw [12, 5] (fun i lv w' => ∃ (k m : Nat) (Bl : Option Addr) (dl : Nat), k ≤ nm ∧ m ≤ k ∧ i = .int .i64 k ∧ lv = .slice Bl m dl ∧ Hid ((ON k).length = m) ∧ St W w' [blk gb 28 #[vc, .slice Am nm cm, vh, vk, vs, vp], row 44 3 (.slice Bl m dl) m ((ON k).flatMap fun j => (SD j).cells)]) (fun i _ _ => nm - (intOf i).toNat)
  case atStart =>
    refine ⟨0, 0, none, 0, Nat.zero_le _, Nat.le_refl _, rfl, rfl, Lib.hid (by rw [HON0.out]; rfl), ?_⟩
    rw [HON0.out]
    exact HS0.out
  case round =>
    obtain ⟨k, m, Bl, dl, hk, hmk, rfl, rfl, hml, S⟩ := hrel
    clear HS0 d1
    by_cases hlt : k < nm
    · obtain ⟨b, o, rfl, hx, c0, c1, c2⟩ := rd_mb (HMS.out wr S.bel) hlt
      have HCL1 : Hid (∀ w, Below W.heap.size W w → Calls Tryz.prog 23 (#[.string (mbAt ms k).name] ++ #[.pointer (some ⟨gp, 0, none⟩)]) w fun e w' => ∃ v, e = .returned v ∧ Below w.heap.size w w' ∧ Rd w' (· < w'.heap.size) 2 v nh ((E k).flatMap EI.cells)) := Lib.hid (fun w hb => HCL.out k hlt w hb)
      have HSTD := Lib.hid (fun w v hb hr => HSTA.out k hlt w v hb hr)
      have HYES : Hid (0 < (SD k).th → (ON (k + 1)).length = m + 1 ∧ (ON (k + 1)).flatMap (fun j => (SD j).cells) = (ON k).flatMap (fun j => (SD j).cells) ++ [.string (mbAt ms k).name, .int .i64 (SD k).th, .int .i64 (SD k).par]) := Lib.hid (fun h0 => by
        rw [HY1.out k h0, List.length_append, hml.out, List.flatMap_append]
        refine ⟨rfl, ?_⟩
        rw [← HSN.out k]
        simp [SdI.cells])
      have HNOT := Lib.hid (HY2.out k)
      generalize (SD k).th = th at *
      generalize (SD k).par = pa at *
      clear hx
      generalize mbAt ms k = x at *
      obtain ⟨xn, xc, xo⟩ := x
      simp only at c0 c1 c2 HCL1 HSTD HYES
      have SA := S.blk_new #[.string xn, .string xc, .int .i64 xo] 52
      simp only [List.cons_append, List.nil_append] at SA
      have HS := Lib.hid SA
      clear S SA
      go_wp2_with fail
      clear c0 c1 c2
      generalize wr.heap.size = gx at *
      generalize wr.alloc (.cells #[.string xn, .string xc, .int .i64 xo] 52) = w3 at *
      refine wp_head_tail3 0 8 3 [] [0, 1, 2, 3, 4] rfl (fun w' => St W w' [blk gb 28 #[vc, .slice (some ⟨b, o, none⟩) nm cm, vh, vk, vs, vp], row 44 3 (.slice Bl m dl) m ((ON k).flatMap fun j => (SD j).cells), blk gx 52 #[.string xn, .string xc, .int .i64 xo]])
        (fun a a' w' => ∃ (gk : Nat) (v : Value), a' = ((a.put (some 21) v).put (some 22) (.agg #[.string xn, .int .i64 th, .int .i64 pa])).put (some 8) (.pointer (some ⟨gk, 0, none⟩)) ∧ St W w' [blk gb 28 #[vc, .slice (some ⟨b, o, none⟩) nm cm, vh, vk, vs, vp], row 44 3 (.slice Bl m dl) m ((ON k).flatMap fun j => (SD j).cells), blk gx 52 #[.string xn, .string xc, .int .i64 xo], blk gk 44 #[.string ⟨#[]⟩, .int .i64 0, .int .i64 0]]) (by kernel_rfl) (by kernel_rfl) HS.out.drew ?_
      simp only [pick, List.filterMap_cons, List.filterMap_nil, List.getElem?_toArray, List.getElem?_cons_succ, List.getElem?_cons_zero]
      have HSD := Lib.hid HS.out.drew
      generalize hK : (fun w' : World => St W w' [blk gb 28 #[vc, .slice (some ⟨b, o, none⟩) nm cm, vh, vk, vs, vp], row 44 3 (.slice Bl m dl) m ((ON k).flatMap fun j => (SD j).cells), blk gx 52 #[.string xn, .string xc, .int .i64 xo]]) = K
      have kS : ∀ y : Wd K, St W y.w [blk gb 28 #[vc, .slice (some ⟨b, o, none⟩) nm cm, vh, vk, vs, vp], row 44 3 (.slice Bl m dl) m ((ON k).flatMap fun j => (SD j).cells), blk gx 52 #[.string xn, .string xc, .int .i64 xo]] := by subst hK; exact fun y => y.h
      have hne : Nonempty (Wd K) := ⟨⟨_, by subst hK; exact HSD.out⟩⟩
      have hKd : ∀ (w' : World) (M : List Asr), St W w' ([blk gb 28 #[vc, .slice (some ⟨b, o, none⟩) nm cm, vh, vk, vs, vp], row 44 3 (.slice Bl m dl) m ((ON k).flatMap fun j => (SD j).cells), blk gx 52 #[.string xn, .string xc, .int .i64 xo]] ++ M) → K w' := by
        intro w' M h
        subst hK
        exact h.sub (List.sublist_append_left _ _)
      have k0 : ∀ y : Wd K, y.w.cell? ⟨gb, 0, none⟩ = some (vc) := fun y => (kS y).blk_cell (i := 0) rfl 0
      have k1 : ∀ y : Wd K, y.w.cell? ⟨gb, 1, none⟩ = some (Value.slice (some ⟨b, o, none⟩) nm cm) := fun y => (kS y).blk_cell (i := 0) rfl 1
      have k2 : ∀ y : Wd K, y.w.cell? ⟨gb, 2, none⟩ = some (vh) := fun y => (kS y).blk_cell (i := 0) rfl 2
      have k3 : ∀ y : Wd K, y.w.cell? ⟨gb, 3, none⟩ = some (vk) := fun y => (kS y).blk_cell (i := 0) rfl 3
      have k4 : ∀ y : Wd K, y.w.cell? ⟨gb, 4, none⟩ = some (vs) := fun y => (kS y).blk_cell (i := 0) rfl 4
      have k5 : ∀ y : Wd K, y.w.cell? ⟨gb, 5, none⟩ = some (vp) := fun y => (kS y).blk_cell (i := 0) rfl 5
      have k6 : ∀ y : Wd K, y.w.cell? ⟨gx, 0, none⟩ = some (.string xn) := fun y => (kS y).blk_cell (i := 2) rfl 0
      have k7 : ∀ y : Wd K, y.w.cell? ⟨gx, 1, none⟩ = some (.string xc) := fun y => (kS y).blk_cell (i := 2) rfl 1
      have k8 : ∀ y : Wd K, y.w.cell? ⟨gx, 2, none⟩ = some (.int .i64 xo) := fun y => (kS y).blk_cell (i := 2) rfl 2
      clear hK
      generalize (w3).drew = w0 at *
      refine wpQuiet_nil ?_
      change wpQuiet _ _ _ _ (_ :: _ :: _ :: _ :: _ :: []) _
      repeat (go_big_quiet_step ((fail)))
      refine wpQuiet_nil ?_
      clear kS k0 k1 k2 k3 k4 k5 k6 k7 k8
      have S := HSD.out
      clear HS HSD
      refine ⟨?_, ?_⟩
      · as_aux_lemma =>
        refine headW_all (rs := [5, 7]) (by kernel_rfl) (by decide) (by decide) (List.forall_mem_cons.2 ⟨?_, List.forall_mem_cons.2 ⟨?_, List.forall_mem_nil _⟩⟩)
        · as_aux_lemma =>
          refine wpOp_list (o := _) rfl ?_
          intro Q' hQ'
          go_wp2_with fail
          refine (HCL1.out _ S.bel).mono ?_
          rintro e w5 ⟨v, rfl, hb, hr⟩
          obtain ⟨Bv, dv, rfl, _, _, _⟩ := hr.open_
          have HR := Lib.hid hr
          have S := S.ext hb
          clear hb hr
          go_wp2_with fail
          refine ⟨hKd _ _ S, ?_⟩
          refine headW_all (rs := [6, 7]) (by kernel_rfl) (by decide) (by decide) (List.forall_mem_cons.2 ⟨?_, List.forall_mem_cons.2 ⟨?_, List.forall_mem_nil _⟩⟩)
          · as_aux_lemma =>
            refine wpOp_list (o := _) rfl ?_
            intro Q' hQ'
            have HSW := Lib.hid (HSTD.out _ _ S.bel HR.out)
            go_wp2_with (go_at_call 54; refine HSW.out.mono ?_; rintro e w6 ⟨rfl, hb⟩; have HB6 := Lib.hid hb; clear hb)
            have S := S.ext HB6.out
            clear HSW HB6
            refine ⟨hKd _ _ S, ?_⟩
            refine headW_all (rs := [7]) (by kernel_rfl) (by decide) (by decide) (List.forall_mem_cons.2 ⟨?_, List.forall_mem_nil _⟩)
            refine wpOp_list (o := _) rfl ?_
            intro Q' hQ'
            have SA := S.blk_new #[.string ⟨#[]⟩, .int .i64 0, .int .i64 0] 44
            simp only [List.cons_append, List.nil_append] at SA
            go_wp2_with fail
            clear S
            have HR := Lib.hid (HR.out.later ((Below.refl _ _).alloc (Nat.le_refl _) (.cells #[.string ⟨#[]⟩, .int .i64 0, .int .i64 0] 44)))
            generalize Array.size _ = gk at SA ⊢
            generalize World.alloc _ _ = wx at *
            have S := SA
            clear SA
            refine ⟨hKd _ _ S, ?_⟩
            exact ⟨by kernel_rfl, gk, .slice Bv nh dv, by kernel_rfl, S⟩
          · as_aux_lemma =>
            refine wpOp_list (o := _) rfl ?_
            intro Q' hQ'
            have SA := S.blk_new #[.string ⟨#[]⟩, .int .i64 0, .int .i64 0] 44
            simp only [List.cons_append, List.nil_append] at SA
            go_wp2_with fail
            clear S
            have HR := Lib.hid (HR.out.later ((Below.refl _ _).alloc (Nat.le_refl _) (.cells #[.string ⟨#[]⟩, .int .i64 0, .int .i64 0] 44)))
            generalize Array.size _ = gk at SA ⊢
            generalize World.alloc _ _ = wx at *
            have S := SA
            clear SA
            refine ⟨hKd _ _ S, ?_⟩
            refine headW_all (rs := [6]) (by kernel_rfl) (by decide) (by decide) (List.forall_mem_cons.2 ⟨?_, List.forall_mem_nil _⟩)
            refine wpOp_list (o := _) rfl ?_
            intro Q' hQ'
            have HSW := Lib.hid (HSTD.out _ _ S.bel HR.out)
            go_wp2_with (go_at_call 54; refine HSW.out.mono ?_; rintro e w6 ⟨rfl, hb⟩; have HB6 := Lib.hid hb; clear hb)
            have S := S.ext HB6.out
            clear HSW HB6
            refine ⟨hKd _ _ S, ?_⟩
            exact ⟨by kernel_rfl, gk, .slice Bv nh dv, by kernel_rfl, S⟩
        · as_aux_lemma =>
          refine wpOp_list (o := _) rfl ?_
          intro Q' hQ'
          have SA := S.blk_new #[.string ⟨#[]⟩, .int .i64 0, .int .i64 0] 44
          simp only [List.cons_append, List.nil_append] at SA
          go_wp2_with fail
          clear S
          generalize Array.size _ = gk at SA ⊢
          generalize World.alloc _ _ = wx at *
          have S := SA
          clear SA
          refine ⟨hKd _ _ S, ?_⟩
          refine headW_all (rs := [5]) (by kernel_rfl) (by decide) (by decide) (List.forall_mem_cons.2 ⟨?_, List.forall_mem_nil _⟩)
          refine wpOp_list (o := _) rfl ?_
          intro Q' hQ'
          go_wp2_with fail
          refine (HCL1.out _ S.bel).mono ?_
          rintro e w5 ⟨v, rfl, hb, hr⟩
          obtain ⟨Bv, dv, rfl, _, _, _⟩ := hr.open_
          have HR := Lib.hid hr
          have S := S.ext hb
          clear hb hr
          go_wp2_with fail
          refine ⟨hKd _ _ S, ?_⟩
          refine headW_all (rs := [6]) (by kernel_rfl) (by decide) (by decide) (List.forall_mem_cons.2 ⟨?_, List.forall_mem_nil _⟩)
          refine wpOp_list (o := _) rfl ?_
          intro Q' hQ'
          have HSW := Lib.hid (HSTD.out _ _ S.bel HR.out)
          go_wp2_with (go_at_call 54; refine HSW.out.mono ?_; rintro e w6 ⟨rfl, hb⟩; have HB6 := Lib.hid hb; clear hb)
          have S := S.ext HB6.out
          clear HSW HB6
          refine ⟨hKd _ _ S, ?_⟩
          exact ⟨by kernel_rfl, gk, .slice Bv nh dv, by kernel_rfl, S⟩
      · rintro a' w9 ⟨gk, v9, rfl, S9⟩
        have S4 := S9.blk_row (i := 3) rfl #[.string xn, .int .i64 th, .int .i64 pa]
        simp only [List.set_cons_zero, List.set_cons_succ] at S4
        have HS4 := Lib.hid S4
        refine wpList_store_row rfl 44 (.tmp 8) (.tmp 22) rfl gk #[.string xn, .int .i64 th, .int .i64 pa] rfl rfl 44 _ (S9.blk_at (i := 3) rfl).2.2 (by kernel_rfl) rfl (by simp [Value.oneCell']) ?_
        clear S4 S9 HCL1 HSTD
        generalize World.setRow _ _ _ = w4 at *
        go_wp2_with fail
        refine NoPanic.normal ?_
        have q0 := HS4.out.blk_cell (i := 3) rfl 0
        have q1 := HS4.out.blk_cell (i := 3) rfl 1
        have q2 := HS4.out.blk_cell (i := 3) rfl 2
        by_cases hth : 0 < th
        · have t1 : decide (0 < th) = true := decide_eq_true hth
          have HN := Lib.hid (HYES.out hth)
          clear hth
          go_wp2_with (at_builtin; refine wpList_append_st eltSd rfl _ _ rfl rfl (HS4.out.alloc _) (k := 1) rfl rfl (rd_three (by simp)) (one_sd _ _ _) (by omega) (by omega) ?_; intro v' w5 S5 _; simp only [List.set_cons_succ, List.set_cons_zero] at S5; obtain ⟨B2, d2, rfl, _, _, _⟩ := (S5.row_rd (i := 1) rfl).open_; have HS5 := Lib.hid (S5.sub (L' := [_, _]) (List.sublist_append_left [_, _] [_, _])); clear S5)
          go_roundw
          case rel =>
            refine ⟨k + 1, m + 1, B2, d2, by omega, by omega, by go_num, rfl, HN.out.1, ?_⟩
            rw [HN.out.2]
            exact HS5.out
          case measure => simp [intOf]; omega
        · have t1 : decide (0 < th) = false := decide_eq_false hth
          have HN := Lib.hid (HNOT.out (by omega))
          have HS5 := Lib.hid (HS4.out.sub (L' := [_, _]) (List.sublist_append_left [_, _] [_, _]))
          clear hth
          go_wp2_with fail
          go_roundw
          case rel =>
            refine ⟨k + 1, m, Bl, dl, by omega, by omega, by go_num, rfl, ?_, ?_⟩
            · rw [HN.out]; exact hml.out
            · rw [HN.out]; exact HS5.out
          case measure => simp [intOf]; omega
    · obtain rfl : nm = k := by omega
      rw [HBR.out] at S
      have hmb : m = BN := by rw [← hml.out]; exact HBN.out
      subst hmb
      have HF := Lib.hid (fun g (e : Bl = some ⟨g, 0, none⟩) => sortS_any W wr [blk gb 28 #[vc, .slice Am nm cm, vh, vk, vs, vp], row 44 3 (.slice (some ⟨g, 0, none⟩) m dl) m (pcS B0 m)] 1 g dl m ordS (thOk 36) B0 (by omega) (e ▸ S) rfl (fun a _ => HTH.out a) (fun x y hx hy => board1_ord (Nat.le_refl _) x y hx hy))
      rcases Nat.eq_zero_or_pos m with h0 | h0
      · subst h0
        have HS := Lib.hid (S.sub (L' := [_]) (.cons _ (List.Sublist.refl _)))
        have HZ := Lib.hid (fun A c w => sortS_0 A c w)
        clear S HF
        go_wp2_with fail
        go_at_call 55
        refine (HZ.out _ _ _).mono ?_
        rintro e w' ⟨rfl, rfl⟩
        go_wp2_with fail
        go_ret
        refine ⟨_, rfl, ?_⟩
        rw [HBF.out]
        exact HS.out
      · obtain ⟨g, cap, hv, _⟩ := S.row_form (i := 1) rfl h0
        cases hv
        have HF2 := Lib.hid (HF.out g rfl)
        clear S HF
        go_wp2_with fail
        go_at_call 55
        refine HF2.out.mono ?_
        rintro e w' ⟨rfl, hs⟩
        simp only [List.set_cons_succ, List.set_cons_zero] at hs
        rw [← HBF.out] at hs
        have HS := Lib.hid (hs.sub (L' := [_]) (.cons _ (List.Sublist.refl _)))
        clear hs HF2
        go_wp2_with fail
        go_ret
        exact ⟨_, rfl, HS.out⟩
end Go.Proofs.YtnaafefcijgpkaaGreatDoor
