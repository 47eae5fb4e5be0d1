/- Part 47 of the walks of the golf union's program: DF1, DF2, DF3, DW2. -/
import Derived.Test.YtkkkfjinflepmaaGreatDoorB06
import Derived.Test.YtkkkfjinflepmaaGreatDoorB07
import Derived.Test.YtkkkfjinflepmaaGreatDoorB10
import Derived.Test.YtkkkfjinflepmaaGreatDoorB46
set_option linter.unusedVariables false
set_option linter.unusedSimpArgs false
set_option linter.unusedSectionVars false
set_option linter.constructorNameAsVariable false
/- The reference's check that players are few: with any limit. -/
namespace Go.Proofs.YtkkkfjinflepmaaGreatDoor
open Go.RowKit Go.Mem Go.Sheet Go.Adj
set_option maxRecDepth 100000 in
set_option maxHeartbeats 4000000 in
theorem shortPlayers_n (mx : Nat) (hmx : mx ≤ 200) (W : World) (v : Value) (n : Nat) (ps : List PI) (h : RdPl W (· < W.heap.size) v n ps) :
    Calls Tryz.prog 30 #[v, .int .i64 mx] W fun e w' => IsBo (n ≤ mx ∨ 200 < n) e ∧ Below W.heap.size W w' := by
  have hn := h.1.le
  obtain ⟨A, c, rfl, _, _, _⟩ := h.1.open_
  have H := Lib.hid h
  clear h
  go_enter Tryz.func30, Tryz.ntmps30
  by_cases h1 : (mx : Int) < (n : Int)
  · have t1 : decide ((mx : Int) < (n : Int)) = true := by simpa using h1
    have t1' : decide (mx < n) = true := by simp; omega
    by_cases h2 : (n : Int) ≤ 200
    · have t2 : decide ((n : Int) ≤ 200) = true := by simpa using h2
      go_wp2
      go_ret
      exact ⟨isBo_no, Below.refl _ _⟩
    · have t2 : decide ((n : Int) ≤ 200) = false := by simpa using h2
      have HN : Hid (n ≤ mx ∨ 200 < n) := .inr (by omega)
      by_cases h3 : 203 < (n : Int)
      · have t3 : decide (203 < (n : Int)) = true := by simpa using h3
        go_wp2
        go_ret
        exact ⟨isBo_no, Below.refl _ _⟩
      have t3 : decide (203 < (n : Int)) = false := by simpa using h3
      clear h1 h2 h3
      go_wp2
      go_loopw [5] (fun i w' => ∃ k : Nat, k ≤ n ∧ i = .int .i64 k ∧ Below W.heap.size W w') (fun i _ => n - (intOf i).toNat)
      case atStart => exact ⟨0, Nat.zero_le _, rfl, Below.refl _ _⟩
      case round =>
        obtain ⟨k, hk, rfl, hbw⟩ := hrel
        have HB := Lib.hid hbw
        by_cases hlt : k < n
        · obtain ⟨b, o, x, rfl, hx, d0, d1, d2⟩ := (H.out.later hbw).elem hlt
          have HS := Lib.hid (shortPlayer_any wr x.name x.a x.m x.c x.es x.co ((H.out.later hbw).2 x (List.mem_of_getElem? hx)).1)
          clear hx hbw
          go_wp2_with (go_at_call 77; refine HS.out.mono ?_; rintro e w' ⟨⟨bo, rfl, _⟩, hb2⟩; have HB2 := Lib.hid hb2; clear hb2)
          · go_ret
            exact ⟨isBo_no, HB.out.trans (HB2.out.mono HB.out.size)⟩
          · go_roundw
            case rel => exact ⟨k + 1, by omega, by go_num, HB.out.trans (HB2.out.mono HB.out.size)⟩
            case measure => simp [intOf]; omega
        · clear hbw
          go_wp2
          go_ret
          exact ⟨isBo_yes HN.out, HB.out⟩
  · have t1 : decide ((mx : Int) < (n : Int)) = false := by simpa using h1
    have t1' : decide (mx < n) = false := by simp; omega
    have HN : Hid (n ≤ mx ∨ 200 < n) := .inl (by omega)
    have t3 : decide (203 < (n : Int)) = false := by simp; omega
    clear h1
    go_wp2
    go_loopw [5] (fun i w' => ∃ k : Nat, k ≤ n ∧ i = .int .i64 k ∧ Below W.heap.size W w') (fun i _ => n - (intOf i).toNat)
    case atStart => exact ⟨0, Nat.zero_le _, rfl, Below.refl _ _⟩
    case round =>
      obtain ⟨k, hk, rfl, hbw⟩ := hrel
      have HB := Lib.hid hbw
      by_cases hlt : k < n
      · obtain ⟨b, o, x, rfl, hx, d0, d1, d2⟩ := (H.out.later hbw).elem hlt
        have HS := Lib.hid (shortPlayer_any wr x.name x.a x.m x.c x.es x.co ((H.out.later hbw).2 x (List.mem_of_getElem? hx)).1)
        clear hx hbw
        go_wp2_with (go_at_call 77; refine HS.out.mono ?_; rintro e w' ⟨⟨bo, rfl, _⟩, hb2⟩; have HB2 := Lib.hid hb2; clear hb2)
        · go_ret
          exact ⟨isBo_no, HB.out.trans (HB2.out.mono HB.out.size)⟩
        · go_roundw
          case rel => exact ⟨k + 1, by omega, by go_num, HB.out.trans (HB2.out.mono HB.out.size)⟩
          case measure => simp [intOf]; omega
      · clear hbw
        go_wp2
        go_ret
        exact ⟨isBo_yes HN.out, HB.out⟩
end Go.Proofs.YtkkkfjinflepmaaGreatDoor
/- Chapter 5: the reference's check of a field; few players, with any limit. -/
namespace Go.Proofs.YtkkkfjinflepmaaGreatDoor
open Go.RowKit Go.Mem Go.Sheet Go.Adj
theorem eltRP : Elt Tryz.prog 26 82 (.agg #[.string ⟨#[]⟩, .slice none 0 0, .int .i64 0]) 3 48 := ⟨Tryz.underlying26, by kernel_rfl, rfl, by decide⟩
theorem rd_three {w : World} {a b c : Value} {t : TypeId} {g : Nat} (hg : w.heap.size = g) : Rd (w.alloc (.cells #[a, b, c] t)) (fun _ => True) 3 (.slice (some ⟨g, 0, none⟩) 1 1) 1 [a, b, c] :=
  hg ▸ rd_new (m := 1) w #[a, b, c] t rfl (by omega) (fun _ => True) trivial
theorem one_play (s : ByteArray) (A : Option Addr) (m c : Nat) (k : IntKind) (x : Int) : ∀ u ∈ [Value.string s, Value.slice A m c, Value.int k x], u.oneCell' = true := by simp [Value.oneCell']
set_option maxRecDepth 100000 in
set_option maxHeartbeats 4000000 in
theorem refCheckField_any (W : World) (v vp : Value) (n m : Nat) (hs : List HI) (ps : List PI) (h : Rd W (· < W.heap.size) 2 v n (hs.flatMap HI.cells)) (hp : RdPl W (· < W.heap.size) vp m ps) :
    Calls Tryz.prog 31 #[.agg #[v, vp]] W fun e w' => IsE (GoodH hs ∧ m ≤ 200 ∧ GoodPs hs ps m) e ∧ Below W.heap.size W w' := by
  have hm := hp.1.le
  obtain ⟨A, c, rfl, _, _, _⟩ := h.open_
  obtain ⟨Ap, cp, rfl, _, _, _⟩ := hp.1.open_
  have hb := (Below.refl W.heap.size W).alloc (Nat.le_refl _) (.cells #[.slice A n c, .slice Ap m cp] 28)
  have c0 : (W.alloc (.cells #[.slice A n c, .slice Ap m cp] 28)).cell? ⟨W.heap.size, 0, none⟩ = some (.slice A n c) := by simp
  have c1 : (W.alloc (.cells #[.slice A n c, .slice Ap m cp] 28)).cell? ⟨W.heap.size, 1, none⟩ = some (.slice Ap m cp) := by simp
  have H := Lib.hid (h.later hb)
  have HPL := Lib.hid (hp.later hb)
  have HB := Lib.hid hb
  clear h hp hb
  go_enter Tryz.func31, Tryz.ntmps31
  go_wp2_with fail
  generalize W.alloc (.cells #[.slice A n c, .slice Ap m cp] 28) = W1 at *
  have hlt := World.block_lt_of_cell? _ _ c0
  have HCH := Lib.hid (refCheckHoles_any W1 _ n hs H.out)
  go_at_call 78
  refine HCH.out.mono ?_
  rintro e w2 ⟨⟨ec, rfl, hg⟩, q, rfl⟩
  have hb2 := below_drewN (Below.refl W1.heap.size W1) q
  have d0 := (hb2.cell (p := ⟨W.heap.size, 0, none⟩) hlt).trans c0
  have d1 := (hb2.cell (p := ⟨W.heap.size, 1, none⟩) hlt).trans c1
  have H2 := Lib.hid (H.out.later hb2)
  have HPL2 := Lib.hid (HPL.out.later hb2)
  have HB2 := Lib.hid (HB.out.trans (hb2.mono HB.out.size))
  have HG := Lib.hid hg
  clear hg hb2 c0 c1 HB HCH hlt H HPL
  generalize W1.drewN q = w2 at *
  by_cases h0 : ec = 0
  case neg =>
    have e0 : (ec == 0) = false := by simpa using h0
    have H0 := Lib.hid h0
    clear h0
    go_wp2
    go_ret
    exact ⟨isE_ne H0.out, HB2.out⟩
  subst h0
  have HG2 := Lib.hid (HG.out rfl)
  clear HG
  by_cases h2 : 200 < m
  · have t2 : decide (200 < (m : Int)) = true := by simp; omega
    clear h2
    go_wp2
    go_ret
    exact ⟨isE_ne (by decide), HB2.out⟩
  have t2 : decide (200 < (m : Int)) = false := by simp; omega
  have HM : Hid (m ≤ 200) := by show m ≤ 200; omega
  have HCP := Lib.hid (refCheckPlayers_any w2 _ _ n m hs ps H2.out HPL2.out)
  clear h2 H2 HPL2
  go_wp2_with (go_at_call 79; refine HCP.out.mono ?_; rintro e w3 ⟨⟨ed, rfl, hg3⟩, hb3⟩; have HG3 := Lib.hid hg3; have HB3 := Lib.hid hb3; clear hg3 hb3)
  go_ret
  exact ⟨ret_isE (fun h => ⟨HG2.out, HM.out, HG3.out h⟩), HB2.out.trans (HB3.out.mono HB2.out.size)⟩
set_option maxRecDepth 100000 in
set_option maxHeartbeats 4000000 in
theorem refFew_n (mx : Nat) (hmx : mx ≤ 200) (W : World) (v vp : Value) (n m : Nat) (hs : List HI) (ps : List PI) (h : Rd W (· < W.heap.size) 2 v n (hs.flatMap HI.cells)) (hp : RdPl W (· < W.heap.size) vp m ps) :
    Calls Tryz.prog 8 #[.agg #[v, vp], .int .i64 mx] W fun e w' => IsBo (GoodH hs ∧ m ≤ mx ∧ GoodPs hs ps m) e ∧ Below W.heap.size W w' := by
  have hm := hp.1.le
  have hn := h.le
  obtain ⟨A, c, rfl, _, _, _⟩ := h.open_
  obtain ⟨Ap, cp, rfl, _, _, _⟩ := hp.1.open_
  have hb := (Below.refl W.heap.size W).alloc (Nat.le_refl _) (.cells #[.slice A n c, .slice Ap m cp] 28)
  have c0 : (W.alloc (.cells #[.slice A n c, .slice Ap m cp] 28)).cell? ⟨W.heap.size, 0, none⟩ = some (.slice A n c) := by simp
  have c1 : (W.alloc (.cells #[.slice A n c, .slice Ap m cp] 28)).cell? ⟨W.heap.size, 1, none⟩ = some (.slice Ap m cp) := by simp
  have H := Lib.hid (h.later hb)
  have HPL := Lib.hid (hp.later hb)
  have HB := Lib.hid hb
  clear h hp hb
  go_enter Tryz.func8, Tryz.ntmps8
  generalize hW1 : W.alloc (.cells #[.slice A n c, .slice Ap m cp] 28) = W1 at *
  by_cases h1 : 36 < n
  · have t1 : decide ((n : Int) ≤ 36) = false := by simp; omega
    clear h1
    subst hW1
    go_wp2_with fail
    go_ret
    exact ⟨isBo_no, HB.out⟩
  have t1 : decide ((n : Int) ≤ 36) = true := by simp; omega
  clear h1
  subst hW1
  go_wp2_with fail
  generalize W.alloc (.cells #[.slice A n c, .slice Ap m cp] 28) = W1 at *
  have hlt := World.block_lt_of_cell? _ _ c0
  have HSP := Lib.hid (shortPlayers_n mx hmx W1 _ m ps HPL.out)
  go_at_call 30
  refine HSP.out.mono ?_
  rintro e w2 ⟨⟨b, rfl, hg⟩, hb2⟩
  have d0 := (hb2.cell (p := ⟨W.heap.size, 0, none⟩) hlt).trans c0
  have d1 := (hb2.cell (p := ⟨W.heap.size, 1, none⟩) hlt).trans c1
  have H2 := Lib.hid (H.out.later hb2)
  have HPL2 := Lib.hid (HPL.out.later hb2)
  have HB2 := Lib.hid (HB.out.trans (hb2.mono HB.out.size))
  have HG := Lib.hid hg
  clear hg hb2 c0 c1 HB HSP hlt H HPL
  cases b
  · go_wp2
    go_ret
    exact ⟨isBo_no, HB2.out⟩
  have HG2 := Lib.hid (HG.out rfl)
  clear HG
  have HCF := Lib.hid (refCheckField_any w2 _ _ n m hs ps H2.out HPL2.out)
  clear H2 HPL2
  go_wp2_with (go_at_call 31; refine HCF.out.mono ?_; rintro e w3 ⟨⟨ed, rfl, hg3⟩, hb3⟩; have HG3 := Lib.hid hg3; have HB3 := Lib.hid hb3; clear hg3 hb3)
  go_ret
  refine ⟨isBo_of fun h => ?_, HB2.out.trans (HB3.out.mono HB2.out.size)⟩
  have h0 : ed = 0 := by simpa using h
  obtain ⟨g1, g2, g3⟩ := HG3.out h0
  exact ⟨g1, by have := HG2.out; omega, g3⟩
end Go.Proofs.YtkkkfjinflepmaaGreatDoor
/- divotOwn: the field for the reference. -/
namespace Go.Proofs.YtkkkfjinflepmaaGreatDoor
open Go.RowKit Go.Mem Go.Sheet Go.Adj
theorem res_own (tmps : Array Value) (w : World) (g2 : Nat) (a b : Value) (h2 : tmps.getD 2 undef = .pointer (some ⟨g2, 0, none⟩)) (c0 : w.cell? ⟨g2, 0, none⟩ = some a) (c1 : w.cell? ⟨g2, 1, none⟩ = some b) : (results Tryz.f7 tmps).run Tryz.prog w = .ok (.agg #[a, b]) w := by
  have e2 : tmps[2]?.getD undef = .pointer (some ⟨g2, 0, none⟩) := by simpa using h2
  simp [results, Tryz.results7, e2, c0, c1, go_sem]
set_option maxRecDepth 100000 in
set_option maxHeartbeats 4000000 in
theorem divotOwn_any (W : World) (v vp : Value) (n m : Nat) (hs : List HI) (ps : List PI) (hbd : m * 48 ≤ 140737488351232) (h : Rd W (· < W.heap.size) 2 v n (hs.flatMap HI.cells)) (hp : RdPl W (· < W.heap.size) vp m ps) :
    Calls Tryz.prog 7 #[.agg #[v, vp]] W fun e w' => ∃ B d, e = .returned (.agg #[v, .slice B m d]) ∧ St W w' [row 82 3 (.slice B m d) m (ps.flatMap PI.cells)] := by
  have hl := hp.count
  obtain ⟨A, c, rfl, _, _, _⟩ := h.open_
  obtain ⟨Ap, cp, rfl, _, _, _⟩ := hp.1.open_
  have H := Lib.hid h
  have HPL := Lib.hid hp
  have HL := Lib.hid hl
  clear h hp hl
  go_enter Tryz.func7, Tryz.ntmps7
  go_wp2_with fail
  have S0 := ((((St.refl W).alloc (.cells #[.slice A n c, .slice Ap m cp] 25)).blk_new #[.slice none 0 0, .slice none 0 0] 28).blk_new #[.slice A n c, .slice none 0 0] 28).row_nil 82 3
  simp only [List.cons_append, List.nil_append, World.size_alloc] at S0
  generalize ((W.alloc (.cells #[.slice A n c, .slice Ap m cp] 25)).alloc (.cells #[.slice none 0 0, .slice none 0 0] 28)).alloc (.cells #[.slice A n c, .slice none 0 0] 28) = W1 at *
  obtain ⟨gr, hgr⟩ : ∃ g, g = W.heap.size + 1 := ⟨_, rfl⟩
  obtain ⟨gq, hgq⟩ : ∃ g, g = W.heap.size + 1 + 1 := ⟨_, rfl⟩
  rw [← hgq, ← hgr] at S0 ⊢
  have hrq : gr ≠ gq := by omega
  have hqr : gq ≠ gr := by omega
  clear hgr hgq
  go_loopw [12] (fun i w' => ∃ (k : Nat) (B : Option Addr) (d : Nat), k ≤ m ∧ i = .int .i64 k ∧ St W w' [blk gr 28 #[.slice none 0 0, .slice none 0 0], blk gq 28 #[.slice A n c, .slice B k d], row 82 3 (.slice B k d) k ((ps.take k).flatMap PI.cells)]) (fun i _ => m - (intOf i).toNat)
  case atStart => exact ⟨0, none, 0, Nat.zero_le _, rfl, S0⟩
  case round =>
    obtain ⟨k, B, d, hk, rfl, S⟩ := hrel
    clear S0
    by_cases hlt : k < m
    · obtain ⟨b, o, x, hA, hx, c0, c1, c2⟩ := (HPL.out.later S.bel).elem hlt
      subst hA
      have HT := Lib.hid (take_at hx)
      have SA := S.blk_new #[.string x.name, .slice x.a x.m x.c, .int .i64 x.co] 37
      simp only [List.cons_append, List.nil_append] at SA
      have a0 := SA.blk_cell (i := 1) rfl 1
      obtain ⟨xn, xa, xm, xc, xes, xco⟩ := x
      simp only at c0 c1 c2 HT SA
      have HS := Lib.hid SA
      have hbd1 : (k + 1) * 48 ≤ 140737488351232 := by omega
      clear hx S SA
      go_wp2_with (at_builtin; refine wpList_append_st eltRP rfl _ _ rfl rfl (HS.out.alloc _) (k := 2) rfl rfl (rd_three (by simp)) (one_play _ _ _ _ _ _) (by omega) (by omega) ?_; intro v' w4 S4 _; simp only [List.set_cons_succ, List.set_cons_zero] at S4; obtain ⟨B2, d2, rfl, _, _, _⟩ := (S4.row_rd (i := 2) rfl).open_; have HS4 := Lib.hid S4; have b1 := S4.blk_cell (i := 1) rfl 1; have f1 := S4.blk_frozen (i := 1) rfl 1; clear S4)
      have S5 := HS4.out.blk_set (i := 1) rfl 1 (.slice B2 (k + 1) d2)
      simp only [List.set_cons_succ, List.set_cons_zero] at S5
      have S6 := S5.sub (L' := [_, _, _]) (List.sublist_append_left [_, _, _] [_])
      clear S5 b1 f1
      go_roundw
      case rel =>
        refine ⟨k + 1, B2, d2, by omega, by go_num, ?_⟩
        rw [HT.out, List.flatMap_append]
        simpa [PI.cells] using S6
      case measure => simp [intOf]; omega
    · obtain rfl : k = m := by omega
      have ht : ps.take k = ps := List.take_of_length_le (by rw [← HL.out]; exact Nat.le_refl _)
      rw [ht] at S
      have a0 := S.blk_cell (i := 1) rfl 0
      have a1 := S.blk_cell (i := 1) rfl 1
      have r0 := S.blk_cell (i := 0) rfl 0
      have r1 := S.blk_cell (i := 0) rfl 1
      have f0 := S.blk_frozen (i := 0) rfl 0
      have f1 := S.blk_frozen (i := 0) rfl 1
      have HS := Lib.hid S
      clear S ht
      go_wp2_with fail
      have S8 := (HS.out.blk_set (i := 0) rfl 0 (.slice A n c)).blk_set (i := 0) rfl 1 (.slice B k d)
      refine bodyPost_ret (res_own _ _ gr _ _ rfl (S8.blk_cell (i := 0) rfl 0) (S8.blk_cell (i := 0) rfl 1)) rfl ?_
      exact ⟨B, d, rfl, S8.sub (L' := [_]) (.cons _ (.cons _ (List.Sublist.refl _)))⟩
end Go.Proofs.YtkkkfjinflepmaaGreatDoor
/- TopDivotMatches: the law. -/
namespace Go.Proofs.YtkkkfjinflepmaaGreatDoor
open Go.RowKit Go.Mem Go.Sheet Go.Adj
set_option maxRecDepth 100000 in
set_option maxHeartbeats 4000000 in
theorem divotSeedO_ok (w : World) (F : Nat → Prop) (v : Value) (n j : Nat) (f : Nat → ByteArray) (S : List (Option Nat)) (s : ByteArray) (h : Rd w F 1 v n (strsO f S)) (hn : n = S.length) (hj : j < n) (hne : ∀ i, i < j → nmO f (S.getD i none) ≠ s) (hs : nmO f (S.getD j none) = s) :
    Calls Tryz.prog 11 #[v, .string s] w fun e w' => e = .returned (.int .i64 (j : Nat)) ∧ w = w' := by
  have hn63 := h.le
  obtain ⟨A, c, rfl, _, _, h⟩ := h.open_
  have H := Lib.hid h
  have HNE := Lib.hid hne
  have HN := Lib.hid hn
  have HSS := Lib.hid hs
  clear h hne hs hn
  go_enter Tryz.func11, Tryz.ntmps11
  go_wp2
  go_loop [9] (fun i => ∃ k : Nat, k ≤ j ∧ i = .int .i64 k) (fun i => n - (intOf i).toNat)
  case atStart => exact ⟨0, Nat.zero_le _, rfl⟩
  case round =>
    obtain ⟨k, hk, rfl⟩ := hrel
    obtain ⟨b, o, u, hA, _, hu, hc⟩ := H.out.at_ (k := k) (by omega)
    subst hA
    rw [strsO_at (by rw [← HN.out]; omega)] at hu
    cases hu
    have hkn : k < n := by omega
    by_cases hkj : k = j
    · subst hkj
      rw [HSS.out] at hc
      go_wp2
      go_ret
      exact ⟨rfl, rfl⟩
    · have hb := bytes_neL (HNE.out k (by omega))
      generalize nmO f (S.getD k none) = fk at *
      go_wp2
      go_round
      case rel => exact ⟨k + 1, by omega, by go_num⟩
      case measure => simp [intOf]; omega
end Go.Proofs.YtkkkfjinflepmaaGreatDoor
