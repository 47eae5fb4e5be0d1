/- Part 34 of the walks of the golf union's program: LF3. -/
import Derived.Test.YtbakoldmfpbnaaaGreatDoorB33
import Derived.Test.YtbakoldmfpbnaaaGreatDoorB09
set_option linter.unusedVariables false
set_option linter.unusedSimpArgs false
set_option linter.unusedSectionVars false
set_option linter.constructorNameAsVariable false
/- Chapter 5: the reference's check of a field; a field with few players. -/
namespace Go.Proofs.YtbakoldmfpbnaaaGreatDoor
open Go.RowKit Go.Mem Go.Sheet Go.Adj
theorem eltRP : Elt Tryz.prog 67 70 (.agg #[.string ⟨#[]⟩, .slice none 0 0, .int .i64 0]) 3 48 := ⟨Tryz.underlying67, by kernel_rfl, rfl, by decide⟩
theorem rd_three {w : World} {a b c : Value} {t : TypeId} {g : Nat} (hg : w.heap.size = g) : Rd (w.alloc (.cells #[a, b, c] t)) (fun _ => True) 3 (.slice (some ⟨g, 0, none⟩) 1 1) 1 [a, b, c] :=
  hg ▸ rd_new (m := 1) w #[a, b, c] t rfl (by omega) (fun _ => True) trivial
theorem one_play (s : ByteArray) (A : Option Addr) (m c : Nat) (k : IntKind) (x : Int) : ∀ u ∈ [Value.string s, Value.slice A m c, Value.int k x], u.oneCell' = true := by simp [Value.oneCell']
set_option maxRecDepth 100000 in
set_option maxHeartbeats 4000000 in
theorem refCheckField_any (W : World) (v vp : Value) (n m : Nat) (hs : List HI) (ps : List PI) (h : Rd W (· < W.heap.size) 2 v n (hs.flatMap HI.cells)) (hp : RdPl W (· < W.heap.size) vp m ps) :
    Calls Tryz.prog 58 #[.agg #[v, vp]] W fun e w' => IsE (GoodH hs ∧ m ≤ 200 ∧ GoodPs hs ps m) e ∧ Below W.heap.size W w' := by
  have hm := hp.1.le
  obtain ⟨A, c, rfl, _, _, _⟩ := h.open_
  obtain ⟨Ap, cp, rfl, _, _, _⟩ := hp.1.open_
  have hb := (Below.refl W.heap.size W).alloc (Nat.le_refl _) (.cells #[.slice A n c, .slice Ap m cp] 69)
  have c0 : (W.alloc (.cells #[.slice A n c, .slice Ap m cp] 69)).cell? ⟨W.heap.size, 0, none⟩ = some (.slice A n c) := by simp
  have c1 : (W.alloc (.cells #[.slice A n c, .slice Ap m cp] 69)).cell? ⟨W.heap.size, 1, none⟩ = some (.slice Ap m cp) := by simp
  have H := Lib.hid (h.later hb)
  have HPL := Lib.hid (hp.later hb)
  have HB := Lib.hid hb
  clear h hp hb
  go_enter Tryz.func58, Tryz.ntmps58
  go_wp2_with fail
  generalize W.alloc (.cells #[.slice A n c, .slice Ap m cp] 69) = W1 at *
  have hlt := World.block_lt_of_cell? _ _ c0
  have HCH := Lib.hid (refCheckHoles_any W1 _ n hs H.out)
  go_at_call 86
  refine HCH.out.mono ?_
  rintro e w2 ⟨⟨ec, rfl, hg⟩, q, rfl⟩
  have hb2 := below_drewN (Below.refl W1.heap.size W1) q
  have d0 := (hb2.cell (p := ⟨W.heap.size, 0, none⟩) hlt).trans c0
  have d1 := (hb2.cell (p := ⟨W.heap.size, 1, none⟩) hlt).trans c1
  have H2 := Lib.hid (H.out.later hb2)
  have HPL2 := Lib.hid (HPL.out.later hb2)
  have HB2 := Lib.hid (HB.out.trans (hb2.mono HB.out.size))
  have HG := Lib.hid hg
  clear hg hb2 c0 c1 HB HCH hlt H HPL
  generalize W1.drewN q = w2 at *
  by_cases h0 : ec = 0
  case neg =>
    have e0 : (ec == 0) = false := by simpa using h0
    have H0 := Lib.hid h0
    clear h0
    go_wp2
    go_ret
    exact ⟨isE_ne H0.out, HB2.out⟩
  subst h0
  have HG2 := Lib.hid (HG.out rfl)
  clear HG
  by_cases h2 : 200 < m
  · have t2 : decide (200 < (m : Int)) = true := by simp; omega
    clear h2
    go_wp2
    go_ret
    exact ⟨isE_ne (by decide), HB2.out⟩
  have t2 : decide (200 < (m : Int)) = false := by simp; omega
  have HM : Hid (m ≤ 200) := by show m ≤ 200; omega
  have HCP := Lib.hid (refCheckPlayers_any w2 _ _ n m hs ps H2.out HPL2.out)
  clear h2 H2 HPL2
  go_wp2_with (go_at_call 87; refine HCP.out.mono ?_; rintro e w3 ⟨⟨ed, rfl, hg3⟩, hb3⟩; have HG3 := Lib.hid hg3; have HB3 := Lib.hid hb3; clear hg3 hb3)
  go_ret
  exact ⟨ret_isE (fun h => ⟨HG2.out, HM.out, HG3.out h⟩), HB2.out.trans (HB3.out.mono HB2.out.size)⟩
set_option maxRecDepth 100000 in
set_option maxHeartbeats 4000000 in
theorem refFew_any (W : World) (v vp : Value) (n m : Nat) (hs : List HI) (ps : List PI) (h : Rd W (· < W.heap.size) 2 v n (hs.flatMap HI.cells)) (hp : RdPl W (· < W.heap.size) vp m ps) :
    Calls Tryz.prog 22 #[.agg #[v, vp], .int .i64 5] W fun e w' => IsBo (GoodH hs ∧ m ≤ 5 ∧ GoodPs hs ps m) e ∧ Below W.heap.size W w' := by
  have hm := hp.1.le
  have hn := h.le
  obtain ⟨A, c, rfl, _, _, _⟩ := h.open_
  obtain ⟨Ap, cp, rfl, _, _, _⟩ := hp.1.open_
  have hb := (Below.refl W.heap.size W).alloc (Nat.le_refl _) (.cells #[.slice A n c, .slice Ap m cp] 69)
  have c0 : (W.alloc (.cells #[.slice A n c, .slice Ap m cp] 69)).cell? ⟨W.heap.size, 0, none⟩ = some (.slice A n c) := by simp
  have c1 : (W.alloc (.cells #[.slice A n c, .slice Ap m cp] 69)).cell? ⟨W.heap.size, 1, none⟩ = some (.slice Ap m cp) := by simp
  have H := Lib.hid (h.later hb)
  have HPL := Lib.hid (hp.later hb)
  have HB := Lib.hid hb
  clear h hp hb
  go_enter Tryz.func22, Tryz.ntmps22
  generalize hW1 : W.alloc (.cells #[.slice A n c, .slice Ap m cp] 69) = W1 at *
  by_cases h1 : 36 < n
  · have t1 : decide ((n : Int) ≤ 36) = false := by simp; omega
    clear h1
    subst hW1
    go_wp2_with fail
    go_ret
    exact ⟨isBo_no, HB.out⟩
  have t1 : decide ((n : Int) ≤ 36) = true := by simp; omega
  clear h1
  subst hW1
  go_wp2_with fail
  generalize W.alloc (.cells #[.slice A n c, .slice Ap m cp] 69) = W1 at *
  have hlt := World.block_lt_of_cell? _ _ c0
  have HSP := Lib.hid (shortPlayers_any W1 _ m ps HPL.out)
  go_at_call 57
  refine HSP.out.mono ?_
  rintro e w2 ⟨⟨b, rfl, hg⟩, hb2⟩
  have d0 := (hb2.cell (p := ⟨W.heap.size, 0, none⟩) hlt).trans c0
  have d1 := (hb2.cell (p := ⟨W.heap.size, 1, none⟩) hlt).trans c1
  have H2 := Lib.hid (H.out.later hb2)
  have HPL2 := Lib.hid (HPL.out.later hb2)
  have HB2 := Lib.hid (HB.out.trans (hb2.mono HB.out.size))
  have HG := Lib.hid hg
  clear hg hb2 c0 c1 HB HSP hlt H HPL
  cases b
  · go_wp2
    go_ret
    exact ⟨isBo_no, HB2.out⟩
  have HG2 := Lib.hid (HG.out rfl)
  clear HG
  have HCF := Lib.hid (refCheckField_any w2 _ _ n m hs ps H2.out HPL2.out)
  clear H2 HPL2
  go_wp2_with (go_at_call 58; refine HCF.out.mono ?_; rintro e w3 ⟨⟨ed, rfl, hg3⟩, hb3⟩; have HG3 := Lib.hid hg3; have HB3 := Lib.hid hb3; clear hg3 hb3)
  go_ret
  refine ⟨isBo_of fun h => ?_, HB2.out.trans (HB3.out.mono HB2.out.size)⟩
  have h0 : ed = 0 := by simpa using h
  obtain ⟨g1, g2, g3⟩ := HG3.out h0
  exact ⟨g1, by have := HG2.out; omega, g3⟩
set_option maxRecDepth 100000 in
set_option maxHeartbeats 4000000 in
theorem linksFew_any (W : World) (v vp : Value) (n m : Nat) (hs : List HI) (ps : List PI) (hbd : m * 48 ≤ 140737488351232) (h : Rd W (· < W.heap.size) 2 v n (hs.flatMap HI.cells)) (hp : RdPl W (· < W.heap.size) vp m ps) :
    Calls Tryz.prog 6 #[.agg #[v, vp]] W fun e w' => IsBo (GoodH hs ∧ m ≤ 5 ∧ GoodPs hs ps m) e ∧ Below W.heap.size W w' := by
  have hl := hp.count
  obtain ⟨A, c, rfl, _, _, _⟩ := h.open_
  obtain ⟨Ap, cp, rfl, _, _, _⟩ := hp.1.open_
  have H := Lib.hid h
  have HPL := Lib.hid hp
  have HL := Lib.hid hl
  clear h hp hl
  go_enter Tryz.func6, Tryz.ntmps6
  go_wp2_with fail
  have S0 := (((St.refl W).alloc (.cells #[.slice A n c, .slice Ap m cp] 25)).blk_new #[.slice A n c, .slice none 0 0] 69).row_nil 70 3
  simp only [List.cons_append, List.nil_append] at S0
  have e1 : (W.alloc (.cells #[.slice A n c, .slice Ap m cp] 25)).heap.size = W.heap.size + 1 := by simp
  rw [e1] at S0
  clear e1
  generalize (W.alloc (.cells #[.slice A n c, .slice Ap m cp] 25)).alloc (.cells #[.slice A n c, .slice none 0 0] 69) = W1 at *
  generalize W.heap.size + 1 = gq at *
  go_loopw [12, 5] (fun i _ w' => ∃ (k : Nat) (B : Option Addr) (d : Nat), k ≤ m ∧ i = .int .i64 k ∧ St W w' [blk gq 69 #[.slice A n c, .slice B k d], row 70 3 (.slice B k d) k ((ps.take k).flatMap PI.cells)]) (fun i _ _ => m - (intOf i).toNat)
  case atStart => exact ⟨0, none, 0, Nat.zero_le _, rfl, S0⟩
  case round =>
    obtain ⟨k, B, d, hk, rfl, S⟩ := hrel
    clear S0
    by_cases hlt : k < m
    · obtain ⟨b, o, x, hA, hx, c0, c1, c2⟩ := (HPL.out.later S.bel).elem hlt
      subst hA
      have HT := Lib.hid (take_at hx)
      have SA := S.blk_new #[.string x.name, .slice x.a x.m x.c, .int .i64 x.co] 33
      simp only [List.cons_append, List.nil_append] at SA
      have a0 := SA.blk_cell (i := 0) rfl 1
      obtain ⟨xn, xa, xm, xc, xes, xco⟩ := x
      simp only at c0 c1 c2 HT SA
      have HS := Lib.hid SA
      have hbd1 : (k + 1) * 48 ≤ 140737488351232 := by omega
      clear hx S SA
      go_wp2_with (at_builtin; refine wpList_append_st eltRP rfl _ _ rfl rfl (HS.out.alloc _) (k := 1) rfl rfl (rd_three (by simp)) (one_play _ _ _ _ _ _) (by omega) (by omega) ?_; intro v' w4 S4 _; simp only [List.set_cons_succ, List.set_cons_zero] at S4; obtain ⟨B2, d2, rfl, _, _, _⟩ := (S4.row_rd (i := 1) rfl).open_; have HS4 := Lib.hid S4; have b1 := S4.blk_cell (i := 0) rfl 1; have f1 := S4.blk_frozen (i := 0) rfl 1; clear S4)
      have S5 := HS4.out.blk_set (i := 0) rfl 1 (.slice B2 (k + 1) d2)
      simp only [List.set_cons_succ, List.set_cons_zero] at S5
      have S6 := S5.sub (L' := [_, _]) (List.sublist_append_left [_, _] [_])
      clear S5 b1 f1
      go_roundw
      case rel =>
        refine ⟨k + 1, B2, d2, by omega, by go_num, ?_⟩
        rw [HT.out, List.flatMap_append]
        simpa [PI.cells] using S6
      case measure => simp [intOf]; omega
    · obtain rfl : k = m := by omega
      have ht : ps.take k = ps := List.take_of_length_le (by rw [← HL.out]; exact Nat.le_refl _)
      rw [ht] at S
      have a0 := S.blk_cell (i := 0) rfl 0
      have a1 := S.blk_cell (i := 0) rfl 1
      have HF := Lib.hid (refFew_any wr (.slice A n c) (.slice B k d) n k hs ps (H.out.later S.bel) ⟨(S.row_rd (i := 1) rfl).now, fun p hp => (HPL.out.later S.bel).2 p hp⟩)
      have HS := Lib.hid S
      clear S ht
      go_wp2_with (go_at_call 22; refine HF.out.mono ?_; rintro e w5 ⟨⟨bo, rfl, hg⟩, hb5⟩; have HG := Lib.hid hg; have HB5 := Lib.hid hb5; clear hg hb5)
      go_ret
      exact ⟨isBo_of HG.out, (HS.out.ext HB5.out).bel⟩
end Go.Proofs.YtbakoldmfpbnaaaGreatDoor
