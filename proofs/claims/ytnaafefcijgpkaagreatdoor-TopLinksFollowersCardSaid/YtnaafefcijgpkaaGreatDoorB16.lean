/- Part 16 of the walks of the golf union's program: US5, US23. -/
import Derived.Test.YtnaafefcijgpkaaGreatDoorB14
import Derived.Test.YtnaafefcijgpkaaGreatDoorB15
set_option linter.unusedVariables false
set_option linter.unusedSimpArgs false
set_option linter.unusedSectionVars false
set_option linter.constructorNameAsVariable false
/- Chapter 10: a union as one of the reference (linksOwn). -/
namespace Go.Proofs.YtnaafefcijgpkaaGreatDoor
open Go.RowKit Go.Mem Go.Sheet Go.Adj
set_option maxRecDepth 100000 in
set_option maxHeartbeats 8000000 in
theorem linksOwn_any (W : World) (u : UI) (hbd : u.nm * 40 ≤ 140737488351232 ∧ u.nk * 64 ≤ 140737488351232 ∧ u.np * 64 ≤ 140737488351232) (h : RdU W (· < W.heap.size) u) :
    Calls Tryz.prog 6 #[u.val] W fun e w' => ∃ vm' vk' vp', e = .returned (UI.val { u with vm := vm', vk := vk', vp := vp' }) ∧ RdU w' (· < w'.heap.size) { u with vm := vm', vk := vk', vp := vp' } ∧ Below W.heap.size W w' := by
  have HEND : Hid (∀ vm' vk' vp' w', Below W.heap.size W w' → Rd w' (· < w'.heap.size) 3 vm' u.nm (u.ms.flatMap MbI.cells) → Rd w' (· < w'.heap.size) 5 vk' u.nk (u.ks.flatMap MkI.cells) → Rd w' (· < w'.heap.size) 3 vp' u.np (u.ps.flatMap KpI.cells) → RdU w' (· < w'.heap.size) { u with vm := vm', vk := vk', vp := vp' }) := fun vm' vk' vp' w' hb a b c =>
    ⟨h.c.later hb, a, h.h.later hb, b, h.s.later hb, ⟨c, (h.p.later hb).2⟩, h.so⟩
  have HL0 : Hid (u.nm = u.ms.length) := h.m.count (f := MbI.cells) (size := 3) (fun _ => rfl) (by decide)
  have HL1 : Hid (u.nk = u.ks.length) := h.k.count (f := MkI.cells) (size := 5) (fun _ => rfl) (by decide)
  have HL2 : Hid (u.np = u.ps.length) := h.p.1.count (f := KpI.cells) (size := 3) (fun _ => rfl) (by decide)
  have HM : Hid (∀ w, Below W.heap.size W w → Rd w (· < w.heap.size) 3 u.vm u.nm (u.ms.flatMap MbI.cells)) := fun w hb => h.m.later hb
  have HK : Hid (∀ w, Below W.heap.size W w → Rd w (· < w.heap.size) 5 u.vk u.nk (u.ks.flatMap MkI.cells)) := fun w hb => h.k.later hb
  have HP : Hid (∀ w, Below W.heap.size W w → Rd w (· < w.heap.size) 3 u.vp u.np (u.ps.flatMap KpI.cells)) := fun w hb => h.p.1.later hb
  have hm0 := h.m.le
  have hk0 := h.k.le
  have hp0 := h.p.1.le
  obtain ⟨Ac, cc, ec, _, _, _⟩ := h.c.open_
  obtain ⟨Am, cm, em, _, _, _⟩ := h.m.open_
  obtain ⟨Ah, ch, eh, _, _, _⟩ := h.h.open_
  obtain ⟨Ak, ck, ek, _, _, _⟩ := h.k.open_
  obtain ⟨As, cs, es, _, _, _⟩ := h.s.open_
  obtain ⟨Ap, cp, ep, _, _, _⟩ := h.p.1.open_
  clear h
  obtain ⟨vc, nc, cl, vm, nm, ms, vh, nh, hs, vk, nk, ks, vs, ns, sg, vp, np, ps⟩ := u
  simp only [UI.val] at *
  subst ec em eh ek es ep
  have HB0 := Lib.hid hbd.1
  have HB1 := Lib.hid hbd.2.1
  have HB2 := Lib.hid hbd.2.2
  clear hbd
  have S0 := ((((St.refl W).blk_new #[.slice Ac nc cc, .slice Am nm cm, .slice Ah nh ch, .slice Ak nk ck, .slice As ns cs, .slice Ap np cp] 28).blk_new #[.slice none 0 0, .slice none 0 0, .slice none 0 0, .slice none 0 0, .slice none 0 0, .slice none 0 0] 34).blk_new #[.slice Ac nc cc, .slice none 0 0, .slice Ah nh ch, .slice none 0 0, .slice As ns cs, .slice none 0 0] 34).row_nil 83 3
  simp only [List.cons_append, List.nil_append, World.size_alloc] at S0
  go_enter Tryz.func6, Tryz.ntmps6
  go_wp2_with fail
  generalize ((W.alloc (.cells #[.slice Ac nc cc, .slice Am nm cm, .slice Ah nh ch, .slice Ak nk ck, .slice As ns cs, .slice Ap np cp] 28)).alloc (.cells #[.slice none 0 0, .slice none 0 0, .slice none 0 0, .slice none 0 0, .slice none 0 0, .slice none 0 0] 34)).alloc (.cells #[.slice Ac nc cc, .slice none 0 0, .slice Ah nh ch, .slice none 0 0, .slice As ns cs, .slice none 0 0] 34) = W1 at *
  obtain ⟨gb, hgb⟩ : ∃ g, g = W.heap.size := ⟨_, rfl⟩
  obtain ⟨gr, hgr⟩ : ∃ g, g = W.heap.size + 1 := ⟨_, rfl⟩
  obtain ⟨gq, hgq⟩ : ∃ g, g = W.heap.size + 1 + 1 := ⟨_, rfl⟩
  rw [← hgq, ← hgr, ← hgb] at S0
  rw [← hgq, ← hgr, ← hgb]
  have hrq : gr ≠ gq := by omega
  have hqr : gq ≠ gr := by omega
  have hbq : gb ≠ gq := by omega
  have hqb : gq ≠ gb := by omega
  have hbr : gb ≠ gr := by omega
  have hrb : gr ≠ gb := by omega
  clear hgr hgq hgb
  have HS0 := Lib.hid S0
  clear S0
  go_loopw [20] (fun iv w' => ∃ (k : Nat) (Bm : Option Addr) (dm : Nat), k ≤ nm ∧ iv = .int .i64 k ∧ St W w' [blk gb 28 #[.slice Ac nc cc, .slice Am nm cm, .slice Ah nh ch, .slice Ak nk ck, .slice As ns cs, .slice Ap np cp], blk gr 34 #[.slice none 0 0, .slice none 0 0, .slice none 0 0, .slice none 0 0, .slice none 0 0, .slice none 0 0], blk gq 34 #[.slice Ac nc cc, .slice Bm k dm, .slice Ah nh ch, .slice none 0 0, .slice As ns cs, .slice none 0 0], row 83 3 (.slice Bm k dm) k ((ms.take k).flatMap MbI.cells)]) (fun iv _ => nm - (intOf iv).toNat)
  case atStart => exact ⟨0, none, 0, Nat.zero_le _, rfl, HS0.out⟩
  case round =>
    obtain ⟨k, Bm, dm, hk, rfl, S⟩ := hrel
    clear HS0
    by_cases hlt : k < nm
    · obtain ⟨b, o, rfl, hx, c0, c1, c2⟩ := rd_mb (HM.out wr S.bel) hlt
      have HT := Lib.hid (take_at hx)
      clear hx
      generalize mbAt ms k = x at *
      obtain ⟨xn, xc, xo⟩ := x
      simp only at c0 c1 c2 HT
      have SA := S.blk_new #[.string xn, .string xc, .int .i64 xo] 52
      simp only [List.cons_append, List.nil_append] at SA
      have a0 := SA.blk_cell (i := 2) rfl 1
      have HS := Lib.hid SA
      have hbd1 : (k + 1) * 40 ≤ 140737488351232 := by have := HB0.out; omega
      clear S SA
      go_wp2_with (at_builtin; refine wpList_append_st eltRM rfl _ _ rfl rfl (HS.out.alloc _) (k := 3) rfl rfl (rd_three (by simp)) (one_mb _ _ _) (by omega) (by omega) ?_; intro v' w4 S4 _; simp only [List.set_cons_succ, List.set_cons_zero] at S4; obtain ⟨B2, d2, rfl, _, _, _⟩ := (S4.row_rd (i := 3) rfl).open_; have HS4 := Lib.hid S4; have b1 := S4.blk_cell (i := 2) rfl 1; have f1 := S4.blk_frozen (i := 2) rfl 1; clear S4)
      have S5 := HS4.out.blk_set (i := 2) rfl 1 (.slice B2 (k + 1) d2)
      simp only [List.set_cons_succ, List.set_cons_zero] at S5
      have S6 := S5.sub (L' := [_, _, _, _]) (List.sublist_append_left [_, _, _, _] [_])
      clear S5 b1 f1
      go_roundw
      case rel =>
        refine ⟨k + 1, B2, d2, by omega, by go_num, ?_⟩
        rw [HT.out, List.flatMap_append]
        simpa [MbI.cells] using S6
      case measure => simp [intOf]; omega
    · obtain rfl : nm = k := by omega
      have ht : ms.take nm = ms := List.take_of_length_le (by rw [← HL0.out]; exact Nat.le_refl _)
      rw [ht] at S
      have a0 := S.blk_cell (i := 0) rfl 3
      have S0 := S.row_nil 84 5
      simp only [List.cons_append, List.nil_append] at S0
      have HS0 := Lib.hid S0
      clear S S0 ht
      go_wp2_with fail
      go_loopw [34] (fun iv w' => ∃ (k : Nat) (Bk : Option Addr) (dk : Nat), k ≤ nk ∧ iv = .int .i64 k ∧ St W w' [blk gb 28 #[.slice Ac nc cc, .slice Am nm cm, .slice Ah nh ch, .slice Ak nk ck, .slice As ns cs, .slice Ap np cp], blk gr 34 #[.slice none 0 0, .slice none 0 0, .slice none 0 0, .slice none 0 0, .slice none 0 0, .slice none 0 0], blk gq 34 #[.slice Ac nc cc, .slice Bm nm dm, .slice Ah nh ch, .slice Bk k dk, .slice As ns cs, .slice none 0 0], row 83 3 (.slice Bm nm dm) nm (ms.flatMap MbI.cells), row 84 5 (.slice Bk k dk) k ((ks.take k).flatMap MkI.cells)]) (fun iv _ => nk - (intOf iv).toNat)
      case atStart => exact ⟨0, none, 0, Nat.zero_le _, rfl, HS0.out⟩
      case round =>
        obtain ⟨k, Bk, dk, hk, rfl, S⟩ := hrel
        clear HS0
        by_cases hlt : k < nk
        · obtain ⟨b, o, rfl, hx, c0, c1, c2, c3, c4⟩ := rd_mk (HK.out wr S.bel) hlt
          have HT := Lib.hid (take_at hx)
          clear hx
          generalize mkAt ks k = x at *
          obtain ⟨xp, xb, xh, xs, xm⟩ := x
          simp only at c0 c1 c2 c3 c4 HT
          have SA := S.blk_new #[.string xp, .string xb, .int .i64 xh, .int .i64 xs, .string xm] 67
          simp only [List.cons_append, List.nil_append] at SA
          have a0 := SA.blk_cell (i := 2) rfl 3
          have HS := Lib.hid SA
          have hbd1 : (k + 1) * 64 ≤ 140737488351232 := by have := HB1.out; omega
          clear S SA
          go_wp2_with (at_builtin; refine wpList_append_st eltRK rfl _ _ rfl rfl (HS.out.alloc _) (k := 4) rfl rfl (rd_five (by simp)) (one_mk _ _ _ _ _) (by omega) (by omega) ?_; intro v' w4 S4 _; simp only [List.set_cons_succ, List.set_cons_zero] at S4; obtain ⟨B2, d2, rfl, _, _, _⟩ := (S4.row_rd (i := 4) rfl).open_; have HS4 := Lib.hid S4; have b1 := S4.blk_cell (i := 2) rfl 3; have f1 := S4.blk_frozen (i := 2) rfl 3; clear S4)
          have S5 := HS4.out.blk_set (i := 2) rfl 3 (.slice B2 (k + 1) d2)
          simp only [List.set_cons_succ, List.set_cons_zero] at S5
          have S6 := S5.sub (L' := [_, _, _, _, _]) (List.sublist_append_left [_, _, _, _, _] [_])
          clear S5 b1 f1
          go_roundw
          case rel =>
            refine ⟨k + 1, B2, d2, by omega, by go_num, ?_⟩
            rw [HT.out, List.flatMap_append]
            simpa [MkI.cells] using S6
          case measure => simp [intOf]; omega
        · obtain rfl : nk = k := by omega
          have ht : ks.take nk = ks := List.take_of_length_le (by rw [← HL1.out]; exact Nat.le_refl _)
          rw [ht] at S
          have a0 := S.blk_cell (i := 0) rfl 5
          have S0 := S.row_nil 88 3
          simp only [List.cons_append, List.nil_append] at S0
          have HS0 := Lib.hid S0
          clear S S0 ht
          go_wp2_with fail
          go_loopw [48] (fun iv w' => ∃ (k : Nat) (Bp : Option Addr) (dp : Nat), k ≤ np ∧ iv = .int .i64 k ∧ St W w' [blk gb 28 #[.slice Ac nc cc, .slice Am nm cm, .slice Ah nh ch, .slice Ak nk ck, .slice As ns cs, .slice Ap np cp], blk gr 34 #[.slice none 0 0, .slice none 0 0, .slice none 0 0, .slice none 0 0, .slice none 0 0, .slice none 0 0], blk gq 34 #[.slice Ac nc cc, .slice Bm nm dm, .slice Ah nh ch, .slice Bk nk dk, .slice As ns cs, .slice Bp k dp], row 83 3 (.slice Bm nm dm) nm (ms.flatMap MbI.cells), row 84 5 (.slice Bk nk dk) nk (ks.flatMap MkI.cells), row 88 3 (.slice Bp k dp) k ((ps.take k).flatMap KpI.cells)]) (fun iv _ => np - (intOf iv).toNat)
          case atStart => exact ⟨0, none, 0, Nat.zero_le _, rfl, HS0.out⟩
          case round =>
            obtain ⟨k, Bp, dp, hk, rfl, S⟩ := hrel
            clear HS0
            by_cases hlt : k < np
            · obtain ⟨b, o, rfl, hx, c0, c1, c2⟩ := rd_kp (HP.out wr S.bel) hlt
              have HT := Lib.hid (take_at hx)
              clear hx
              generalize kpAt ps k = x at *
              obtain ⟨xn, xha, xhn, xhc, xhs, xca, xcn, xcc, xcs⟩ := x
              simp only at c0 c1 c2 HT
              have SA := S.blk_new #[.string xn, .slice xha xhn xhc, .slice xca xcn xcc] 87
              simp only [List.cons_append, List.nil_append] at SA
              have a0 := SA.blk_cell (i := 2) rfl 5
              have HS := Lib.hid SA
              have hbd1 : (k + 1) * 64 ≤ 140737488351232 := by have := HB2.out; omega
              clear S SA
              go_wp2_with (at_builtin; refine wpList_append_st eltRP rfl _ _ rfl rfl (HS.out.alloc _) (k := 5) rfl rfl (rd_three (by simp)) (one_kp _ _ _ _ _ _ _) (by omega) (by omega) ?_; intro v' w4 S4 _; simp only [List.set_cons_succ, List.set_cons_zero] at S4; obtain ⟨B2, d2, rfl, _, _, _⟩ := (S4.row_rd (i := 5) rfl).open_; have HS4 := Lib.hid S4; have b1 := S4.blk_cell (i := 2) rfl 5; have f1 := S4.blk_frozen (i := 2) rfl 5; clear S4)
              have S5 := HS4.out.blk_set (i := 2) rfl 5 (.slice B2 (k + 1) d2)
              simp only [List.set_cons_succ, List.set_cons_zero] at S5
              have S6 := S5.sub (L' := [_, _, _, _, _, _]) (List.sublist_append_left [_, _, _, _, _, _] [_])
              clear S5 b1 f1
              go_roundw
              case rel =>
                refine ⟨k + 1, B2, d2, by omega, by go_num, ?_⟩
                rw [HT.out, List.flatMap_append]
                simpa [KpI.cells] using S6
              case measure => simp [intOf]; omega
            · obtain rfl : np = k := by omega
              have ht : ps.take np = ps := List.take_of_length_le (by rw [← HL2.out]; exact Nat.le_refl _)
              rw [ht] at S
              have a0 := S.blk_cell (i := 2) rfl 0
              have a1 := S.blk_cell (i := 2) rfl 1
              have a2 := S.blk_cell (i := 2) rfl 2
              have a3 := S.blk_cell (i := 2) rfl 3
              have a4 := S.blk_cell (i := 2) rfl 4
              have a5 := S.blk_cell (i := 2) rfl 5
              have r0 := S.blk_cell (i := 1) rfl 0
              have r1 := S.blk_cell (i := 1) rfl 1
              have r2 := S.blk_cell (i := 1) rfl 2
              have r3 := S.blk_cell (i := 1) rfl 3
              have r4 := S.blk_cell (i := 1) rfl 4
              have r5 := S.blk_cell (i := 1) rfl 5
              have f0 := S.blk_frozen (i := 1) rfl 0
              have f1 := S.blk_frozen (i := 1) rfl 1
              have f2 := S.blk_frozen (i := 1) rfl 2
              have f3 := S.blk_frozen (i := 1) rfl 3
              have f4 := S.blk_frozen (i := 1) rfl 4
              have f5 := S.blk_frozen (i := 1) rfl 5
              have HS := Lib.hid S
              clear S ht
              go_wp2_with fail
              have S8 := (((((HS.out.blk_set (i := 1) rfl 0 (.slice Ac nc cc)).blk_set (i := 1) rfl 1 (.slice Bm nm dm)).blk_set (i := 1) rfl 2 (.slice Ah nh ch)).blk_set (i := 1) rfl 3 (.slice Bk nk dk)).blk_set (i := 1) rfl 4 (.slice As ns cs)).blk_set (i := 1) rfl 5 (.slice Bp np dp)
              refine bodyPost_ret (res_lown _ _ gr _ _ _ _ _ _ rfl (S8.blk_cell (i := 1) rfl 0) (S8.blk_cell (i := 1) rfl 1) (S8.blk_cell (i := 1) rfl 2) (S8.blk_cell (i := 1) rfl 3) (S8.blk_cell (i := 1) rfl 4) (S8.blk_cell (i := 1) rfl 5)) rfl ?_
              exact ⟨_, _, _, rfl, HEND.out _ _ _ _ S8.bel (S8.row_rd (i := 3) rfl).now (S8.row_rd (i := 4) rfl).now (S8.row_rd (i := 5) rfl).now, S8.bel⟩
end Go.Proofs.YtnaafefcijgpkaaGreatDoor
/- Chapter 10, the program: Board; the fixed example of the union's laws. -/
namespace Go.Proofs.YtnaafefcijgpkaaGreatDoor
open Go.RowKit Go.Mem Go.Sheet Go.Adj
attribute [local go_sem] Oper.semAt_some
def EU (u : UI) (k : Nat) : List EI := esU u.ks (mbAt u.ms k).name u.nh
theorem goodU_nh {u : UI} {a b : Nat} (hg : GoodU u a b) (hl : u.nh = u.hs.length) : u.nh ≤ 36 := by
  rcases hg.hs with h0 | h0
  · omega
  · have := h0.len; omega
set_option maxRecDepth 100000 in
set_option maxHeartbeats 4000000 in
theorem uBoard_ok (W : World) (u : UI) (hg : GoodU u 256 200) (hnm : u.nm ≤ 19) (h : RdU W (· < W.heap.size) u) :
    Calls Tryz.prog 8 #[u.val] W fun e w' => ∃ v, e = .returned (.tuple #[v, .int .i64 0]) ∧ St W w' [row 44 3 v (brdN u (EU u)) (pcS (brdF u (EU u)) (brdN u (EU u)))] := by
  have hnh : u.nh ≤ 36 := goodU_nh hg (h.h.count (f := HI.cells) (size := 2) (fun _ => rfl) (by decide))
  have hlk : u.nk = u.ks.length := h.k.count (f := MkI.cells) (size := 5) (fun _ => rfl) (by decide)
  have H1 := Lib.hid (fun w (hb : Below W.heap.size W w) => uCheckUnion_ok w u hg (h.later hb))
  have H2 : Hid (∀ (w : World) (gp : Nat), Below W.heap.size W w → gp < w.heap.size → w.cell? ⟨gp, 0, none⟩ = some u.vc → w.cell? ⟨gp, 1, none⟩ = some u.vm → w.cell? ⟨gp, 2, none⟩ = some u.vh → w.cell? ⟨gp, 3, none⟩ = some u.vk → w.cell? ⟨gp, 4, none⟩ = some u.vs → w.cell? ⟨gp, 5, none⟩ = some u.vp →
      Calls Tryz.prog 22 #[u.val, .func (.func 23) #[] #[.pointer (some ⟨gp, 0, none⟩)]] w fun e w' => ∃ v, e = .returned v ∧ St w w' [row 44 3 v (brdN u (EU u)) (pcS (brdF u (EU u)) (brdN u (EU u)))]) := Lib.hid (fun w gp hb hl c0 c1 c2 c3 c4 c5 =>
    uBoardB_any w u (EU u) gp hnm hnh hg.hs (fun i hi => ⟨(hg.mb i hi).2.1, (hg.mb i hi).2.2.1⟩) (fun k hk i hi => esU_good hg hlk _ _ i hi) (h.later hb) (fun k hk w1 hb1 => by
      refine (uBoard1_any w1 u (mbAt u.ms k).name gp hnh ((h.later hb).later hb1) ((hb1.cell (p := ⟨gp, 0, none⟩) hl).trans c0) ((hb1.cell (p := ⟨gp, 1, none⟩) hl).trans c1) ((hb1.cell (p := ⟨gp, 2, none⟩) hl).trans c2) ((hb1.cell (p := ⟨gp, 3, none⟩) hl).trans c3) ((hb1.cell (p := ⟨gp, 4, none⟩) hl).trans c4) ((hb1.cell (p := ⟨gp, 5, none⟩) hl).trans c5)).mono ?_
      rintro e w2 ⟨v, rfl, S⟩
      exact ⟨v, rfl, S.bel, (S.row_rd (i := 0) rfl).now⟩))
  clear h hg hlk
  generalize brdN u (EU u) = BN at *
  generalize brdF u (EU u) = BF at *
  obtain ⟨vc, nc, cl, vm, nm, ms, vh, nh, hs, vk, nk, ks, vs, ns, sg, vp, np, ps⟩ := u
  simp only [UI.val] at *
  have S0 := (St.refl W).blk_new #[vc, vm, vh, vk, vs, vp] 28
  simp only [List.nil_append] at S0
  obtain ⟨gb, hgb⟩ : ∃ g, g = W.heap.size := ⟨_, rfl⟩
  rw [← hgb] at S0
  have HS0 := Lib.hid S0
  have d0 := S0.blk_cell (i := 0) rfl 0
  have d1 := S0.blk_cell (i := 0) rfl 1
  have d2 := S0.blk_cell (i := 0) rfl 2
  have d3 := S0.blk_cell (i := 0) rfl 3
  have d4 := S0.blk_cell (i := 0) rfl 4
  have d5 := S0.blk_cell (i := 0) rfl 5
  clear S0
  go_enter Tryz.func8, Tryz.ntmps8
  go_wp2_with fail
  rw [← hgb]
  generalize W.alloc (.cells #[vc, vm, vh, vk, vs, vp] 28) = w1 at *
  clear hgb
  go_at_call 21
  refine (H1.out w1 HS0.out.bel).mono ?_
  rintro e w2 ⟨rfl, hb⟩
  have HS := Lib.hid (HS0.out.ext hb)
  clear hb HS0 d0 d1 d2 d3 d4 d5 H1
  have d0 := HS.out.blk_cell (i := 0) rfl 0
  have d1 := HS.out.blk_cell (i := 0) rfl 1
  have d2 := HS.out.blk_cell (i := 0) rfl 2
  have d3 := HS.out.blk_cell (i := 0) rfl 3
  have d4 := HS.out.blk_cell (i := 0) rfl 4
  have d5 := HS.out.blk_cell (i := 0) rfl 5
  have HB := Lib.hid (H2.out w2 gb HS.out.bel (HS.out.blk_at (i := 0) rfl).2.1 d0 d1 d2 d3 d4 d5)
  clear H2
  go_wp2_with (go_at_call 22; refine HB.out.mono ?_; rintro e w3 ⟨v, rfl, S3⟩; obtain ⟨Bv, dv, rfl, _, _, _⟩ := (S3.row_rd (i := 0) rfl).open_; have HS3 := Lib.hid S3; clear S3)
  go_ret2
  have S4 := HS.out.call HS3.out
  exact ⟨_, rfl, S4.sub (L' := [_]) (.cons _ (List.Sublist.refl _))⟩
def linksB : ByteArray := ⟨#[108, 105, 110, 107, 115]⟩
def annB : ByteArray := ⟨#[97, 110, 110]⟩
def benB : ByteArray := ⟨#[98, 101, 110]⟩
def exU (vc vm vh vk : Value) : UI := ⟨vc, 1, [linksB], vm, 2, [⟨annB, linksB, 0⟩, ⟨benB, linksB, 2⟩], vh, 2, [⟨4, 2⟩, ⟨3, 1⟩], vk, 3, [⟨annB, benB, 1, 5, be⟩, ⟨annB, benB, 2, 3, be⟩, ⟨benB, annB, 1, 4, be⟩], .slice none 0 0, 0, [], .slice none 0 0, 0, []⟩
theorem lt2 {i : Nat} (h : i < 2) : i = 0 ∨ i = 1 := by omega
theorem lt3 {i : Nat} (h : i < 3) : i = 0 ∨ i = 1 ∨ i = 2 := by omega
theorem exH : GoodH [⟨4, 2⟩, ⟨3, 1⟩] := ⟨by decide, by decide, by decide, fun i k hi hk => by
  have h3 : i < 2 := hi
  obtain ⟨rfl, rfl⟩ : i = 1 ∧ k = 0 := by omega
  decide⟩
theorem keyNo {x y : MkI} (h : ¬ (x.pl = y.pl ∧ x.h = y.h ∧ ownK x = ownK y)) : keyK x y.pl y.h (ownK y) = false := by
  unfold keyK
  by_cases h1 : x.pl = y.pl
  · by_cases h2 : x.h = y.h
    · have h3 : ¬ ownK x = ownK y := fun e => h ⟨h1, h2, e⟩
      simp [h3]
    · simp [h2]
  · simp [h1]
def exK : List MkI := [⟨annB, benB, 1, 5, be⟩, ⟨annB, benB, 2, 3, be⟩, ⟨benB, annB, 1, 4, be⟩]
theorem exK_no : ∀ i j : Nat, i < 3 → j < i → keyK (mkAt exK j) (mkAt exK i).pl (mkAt exK i).h (ownK (mkAt exK i)) = false := fun i j hi hj => by
  have : (i = 1 ∧ j = 0) ∨ (i = 2 ∧ j = 0) ∨ (i = 2 ∧ j = 1) := by omega
  rcases this with ⟨rfl, rfl⟩ | ⟨rfl, rfl⟩ | ⟨rfl, rfl⟩ <;> decide +kernel
theorem exGood (vc vm vh vk : Value) : GoodU (exU vc vm vh vk) 256 200 where
  len := by show 1 ≤ 256 ∧ 2 ≤ 200 ∧ 3 ≤ 1000 ∧ 0 ≤ 200 ∧ 0 ≤ 256; omega
  cl := fun i hi => by
    have h1 : i < 1 := hi
    obtain rfl : i = 0 := by omega
    show nameB linksB = true; decide
  cl2 := fun i j hi hj => by have h1 : i < 1 := hi; omega
  mb := fun i hi => by
    rcases lt2 hi with rfl | rfl
    · exact ⟨by show nameB annB = true; decide, by show (-99 : Int) ≤ 0; decide, by show (0 : Int) ≤ 99; decide, 0, by show 0 < 1; decide, rfl⟩
    · exact ⟨by show nameB benB = true; decide, by show (-99 : Int) ≤ 2; decide, by show (2 : Int) ≤ 99; decide, 0, by show 0 < 1; decide, rfl⟩
  mb2 := fun i j hi hj => by
    have h1 : i < 2 := hi
    obtain ⟨rfl, rfl⟩ : i = 1 ∧ j = 0 := by omega
    show annB ≠ benB; decide
  hs := .inr exH
  kk := fun i hi => by
    rcases lt3 hi with rfl | rfl | rfl
    · exact ⟨⟨0, by show 0 < 2; decide, rfl⟩, ⟨1, by show 1 < 2; decide, rfl⟩, by show (1 : Int) ≤ 1; decide, by show (1 : Int) ≤ 2; decide, .inl ⟨.inl rfl, by show (1 : Int) ≤ 5; decide, by show (5 : Int) ≤ 99; decide⟩⟩
    · exact ⟨⟨0, by show 0 < 2; decide, rfl⟩, ⟨1, by show 1 < 2; decide, rfl⟩, by show (1 : Int) ≤ 2; decide, by show (2 : Int) ≤ 2; decide, .inl ⟨.inl rfl, by show (1 : Int) ≤ 3; decide, by show (3 : Int) ≤ 99; decide⟩⟩
    · exact ⟨⟨1, by show 1 < 2; decide, rfl⟩, ⟨0, by show 0 < 2; decide, rfl⟩, by show (1 : Int) ≤ 1; decide, by show (1 : Int) ≤ 2; decide, .inl ⟨.inl rfl, by show (1 : Int) ≤ 4; decide, by show (4 : Int) ≤ 99; decide⟩⟩
  kk2 := fun i j hi hj => by
    have h1 : i < 3 := hi
    have : (i = 1 ∧ j = 0) ∨ (i = 2 ∧ j = 0) ∨ (i = 2 ∧ j = 1) := by omega
    rcases this with ⟨rfl, rfl⟩ | ⟨rfl, rfl⟩ | ⟨rfl, rfl⟩ <;> exact exK_no _ _ (by decide) (by decide)
  sg := fun i hi => absurd hi (Nat.not_lt_zero _)
  sg2 := fun i _ hi _ => absurd hi (Nat.not_lt_zero _)
  ps := fun i hi => absurd hi (Nat.not_lt_zero _)
  ps2 := fun i _ hi _ => absurd hi (Nat.not_lt_zero _)
theorem exBrdN (vc vm vh vk : Value) : brdN (exU vc vm vh vk) (EU (exU vc vm vh vk)) = 2 := by kernel_rfl
theorem exBrd (vc vm vh vk : Value) : pcS (brdF (exU vc vm vh vk) (EU (exU vc vm vh vk))) 2 = [.string benB, .int .i64 1, .int .i64 (-1), .string annB, .int .i64 2, .int .i64 1] := by kernel_rfl
theorem exScore : allO (netF [⟨4, 2⟩, ⟨3, 1⟩] (esU [⟨annB, benB, 1, 5, be⟩, ⟨annB, benB, 2, 3, be⟩, ⟨benB, annB, 1, 4, be⟩] annB 2) 0) 2 = true ∧ sumTo (fun i => (netF [⟨4, 2⟩, ⟨3, 1⟩] (esU [⟨annB, benB, 1, 5, be⟩, ⟨annB, benB, 2, 3, be⟩, ⟨benB, annB, 1, 4, be⟩] annB 2) 0 i).s) 2 = 8 := by decide +kernel
theorem res_lunion (tmps : Array Value) (w : World) (g : Nat) (a b c d e f : Value) (h2 : tmps.getD 0 undef = .pointer (some ⟨g, 0, none⟩)) (c0 : w.cell? ⟨g, 0, none⟩ = some a) (c1 : w.cell? ⟨g, 1, none⟩ = some b) (c2 : w.cell? ⟨g, 2, none⟩ = some c) (c3 : w.cell? ⟨g, 3, none⟩ = some d) (c4 : w.cell? ⟨g, 4, none⟩ = some e) (c5 : w.cell? ⟨g, 5, none⟩ = some f) : (results Tryz.f20 tmps).run Tryz.prog w = .ok (.agg #[a, b, c, d, e, f]) w := by
  have e2 : tmps[0]?.getD undef = .pointer (some ⟨g, 0, none⟩) := by simpa using h2
  simp [results, Tryz.results20, e2, c0, c1, c2, c3, c4, c5, go_sem]
set_option maxRecDepth 100000 in
set_option maxHeartbeats 4000000 in
theorem linksUnion_ok (w : World) : Calls Tryz.prog 20 #[] w fun e w' => ∃ vc vm vh vk, e = .returned (exU vc vm vh vk).val ∧ RdU w' (· < w'.heap.size) (exU vc vm vh vk) ∧ Below w.heap.size w w' := by
  have S := (((((St.refl w).blk_new #[.slice (some ⟨w.heap.size + 1, 0, none⟩) 1 1, .slice (some ⟨w.heap.size + 1 + 1, 0, none⟩) 2 2, .slice (some ⟨w.heap.size + 1 + 1 + 1, 0, none⟩) 2 2, .slice (some ⟨w.heap.size + 1 + 1 + 1 + 1, 0, none⟩) 3 3, .slice none 0 0, .slice none 0 0] 28).row_new (e := 9) (size := 1) (n := 1) #[.string ⟨#[108, 105, 110, 107, 115]⟩] (by decide) rfl).row_new (e := 52) (size := 3) (n := 2) #[.string ⟨#[97, 110, 110]⟩, .string ⟨#[108, 105, 110, 107, 115]⟩, .int .i64 0, .string ⟨#[98, 101, 110]⟩, .string ⟨#[108, 105, 110, 107, 115]⟩, .int .i64 2] (by decide) rfl).row_new (e := 42) (size := 2) (n := 2) #[.int .i64 4, .int .i64 2, .int .i64 3, .int .i64 1] (by decide) rfl).row_new (e := 67) (size := 5) (n := 3) #[.string ⟨#[97, 110, 110]⟩, .string ⟨#[98, 101, 110]⟩, .int .i64 1, .int .i64 5, .string ⟨#[]⟩, .string ⟨#[97, 110, 110]⟩, .string ⟨#[98, 101, 110]⟩, .int .i64 2, .int .i64 3, .string ⟨#[]⟩, .string ⟨#[98, 101, 110]⟩, .string ⟨#[97, 110, 110]⟩, .int .i64 1, .int .i64 4, .string ⟨#[]⟩] (by decide) rfl
  simp only [List.cons_append, List.nil_append, World.size_alloc] at S
  have HS := Lib.hid S
  have d0 := S.blk_cell (i := 0) rfl 0
  have d1 := S.blk_cell (i := 0) rfl 1
  have d2 := S.blk_cell (i := 0) rfl 2
  have d3 := S.blk_cell (i := 0) rfl 3
  have d4 := S.blk_cell (i := 0) rfl 4
  have d5 := S.blk_cell (i := 0) rfl 5
  clear S
  go_enter Tryz.func20, Tryz.ntmps20
  go_wp2_with fail
  refine bodyPost_ret (res_lunion _ _ _ _ _ _ _ _ _ rfl d0 d1 d2 d3 d4 d5) rfl ?_
  refine ⟨_, _, _, _, rfl, ⟨(HS.out.row_rd (i := 1) rfl).now, (HS.out.row_rd (i := 2) rfl).now, (HS.out.row_rd (i := 3) rfl).now, (HS.out.row_rd (i := 4) rfl).now, Rd.nil _ _ _, ⟨Rd.nil _ _ _, fun p hp => by cases hp⟩, ?_⟩, HS.out.bel⟩
  refine ⟨fun x hx => ?_, fun x hx => ?_, fun x hx => ?_, fun x hx => by cases hx⟩
  · obtain rfl := List.mem_singleton.1 hx
    unfold StrOk; decide
  · have : x = ⟨annB, linksB, 0⟩ ∨ x = ⟨benB, linksB, 2⟩ := by simpa [exU] using hx
    rcases this with rfl | rfl <;> exact ⟨by unfold StrOk; decide, by unfold StrOk; decide⟩
  · have : x = ⟨annB, benB, 1, 5, be⟩ ∨ x = ⟨annB, benB, 2, 3, be⟩ ∨ x = ⟨benB, annB, 1, 4, be⟩ := by simpa [exU] using hx
    rcases this with rfl | rfl | rfl <;> exact ⟨by unfold StrOk; decide, by unfold StrOk; decide, by unfold StrOk; decide⟩
theorem eqg_std (op : BinOp) (x y : Operand) (xs ys : Array Value) (w : World) : (eqGuard op 44 x y (.agg xs) (.agg ys)).run Tryz.prog w = .ok () w := run_eqGuard_agg w op _ x y xs ys (by kernel_rfl)
theorem eql_std (w : World) : (binOp .eql 44 (.agg #[.string ⟨#[98, 101, 110]⟩, .int .i64 1, .int .i64 (-1)]) (.agg #[.string ⟨#[98, 101, 110]⟩, .int .i64 1, .int .i64 (-1)])).run Tryz.prog w = .ok (.bool true) w := by
  rw [run_eql_struct, run_equalIn_agg w 9999 _ _ _ (by kernel_rfl) (by kernel_rfl)]
  have hf : (Tryz.prog.fieldsOf 44).toList.map (fun f => (f.name != "_", f.type, f.offset)) = [(true, 9, 0), (true, 3, 1), (true, 3, 2)] := by kernel_rfl
  generalize (Tryz.prog.fieldsOf 44).toList = L at *
  have hL : ∃ f1 f2 f3, L = [f1, f2, f3] := by
    match L, congrArg List.length hf with
    | [f1, f2, f3], _ => exact ⟨f1, f2, f3, rfl⟩
  obtain ⟨f1, f2, f3, rfl⟩ := hL
  obtain ⟨⟨h1, h2, h3⟩, ⟨h4, h5, h6⟩, h7, h8, h9⟩ : (f1.name ≠ "_" ∧ f1.type = 9 ∧ f1.offset = 0) ∧ (f2.name ≠ "_" ∧ f2.type = 3 ∧ f2.offset = 1) ∧ (f3.name ≠ "_" ∧ f3.type = 3 ∧ f3.offset = 2) := by simpa using hf
  simp only [Op.eqFields, h2, h3, h5, h6, h8, h9]
  simp [go_sem, Tryz.underlying3, Tryz.underlying9, h1, h4, h7]
set_option maxRecDepth 100000 in
set_option maxHeartbeats 8000000 in
theorem linksBoard_ok (W : World) : Calls Tryz.prog 7 #[] W fun e w' => e = .returned (.bool true) ∧ Below W.heap.size W w' := by
  go_enter Tryz.func7, Tryz.ntmps7
  go_wp2_with fail
  go_at_call 20
  refine (linksUnion_ok W).mono ?_
  rintro e w1 ⟨vc, vm, vh, vk, rfl, hr, hb⟩
  have hg := exGood vc vm vh vk
  have HBD : Hid (∀ w, Below w1.heap.size w1 w → Calls Tryz.prog 8 #[(exU vc vm vh vk).val] w fun e w' => ∃ v, e = .returned (.tuple #[v, .int .i64 0]) ∧ St w w' [row 44 3 v 2 [.string benB, .int .i64 1, .int .i64 (-1), .string annB, .int .i64 2, .int .i64 1]]) := Lib.hid (fun w hb => by
    have h1 := uBoard_ok w _ hg (by show 2 ≤ 19; decide) (hr.later hb)
    rw [exBrdN, exBrd] at h1
    exact h1)
  have HCD : Hid (∀ w, Below w1.heap.size w1 w → Calls Tryz.prog 9 #[(exU vc vm vh vk).val, .string annB] w fun e w' => ∃ v, e = .returned (.tuple #[.agg #[.string annB, v], .int .i64 0]) ∧ St w w' [row 65 2 v 2 ((esU [⟨annB, benB, 1, 5, be⟩, ⟨annB, benB, 2, 3, be⟩, ⟨benB, annB, 1, 4, be⟩] annB 2).flatMap EI.cells)]) := Lib.hid (fun w hb =>
    uCardE_ok w _ annB (by show 2 ≤ 36; decide) hg ⟨0, by show 0 < 2; decide, rfl⟩ (hr.later hb))
  have HSC : Hid (∀ w v, Below w1.heap.size w1 w → Rd w (· < w.heap.size) 2 v 2 ((esU [⟨annB, benB, 1, 5, be⟩, ⟨annB, benB, 2, 3, be⟩, ⟨benB, annB, 1, 4, be⟩] annB 2).flatMap EI.cells) → Calls Tryz.prog 11 #[vh, .agg #[.string annB, v, .int .i64 0]] w fun e w' => e = .returned (.tuple #[.int .i64 8, .int .i64 0]) ∧ Below w.heap.size w w') := Lib.hid (fun w v hb hv => by
    have hle := esU_good (u := exU vc vm vh vk) hg rfl annB 2
    have h1 := score_any w vh v 2 [⟨4, 2⟩, ⟨3, 1⟩] _ annB 0 (by omega) ⟨(hr.later hb).h, hv, exH, by decide, by decide, hle⟩
    rw [exScore.1, if_pos rfl, exScore.2] at h1
    exact h1)
  have hh : Rd w1 (· < w1.heap.size) 2 vh 2 ([(⟨4, 2⟩ : HI), ⟨3, 1⟩].flatMap HI.cells) := hr.h
  obtain ⟨Ah, ch, rfl, _, _, _⟩ := hh.open_
  have hc : Rd w1 (· < w1.heap.size) 1 vc 1 ([linksB].map .string) := hr.c
  obtain ⟨Ac, cc, rfl, _, _, _⟩ := hc.open_
  have hm : Rd w1 (· < w1.heap.size) 3 vm 2 ([(⟨annB, linksB, 0⟩ : MbI), ⟨benB, linksB, 2⟩].flatMap MbI.cells) := hr.m
  obtain ⟨Am, cm, rfl, _, _, _⟩ := hm.open_
  have hk : Rd w1 (· < w1.heap.size) 5 vk 3 (exK.flatMap MkI.cells) := hr.k
  obtain ⟨Ak, ck, rfl, _, _, _⟩ := hk.open_
  clear hh hc hm hk
  have HB1 := Lib.hid hb
  have S0 := (St.refl w1).blk_new #[.slice Ac 1 cc, .slice Am 2 cm, .slice Ah 2 ch, .slice Ak 3 ck, .slice none 0 0, .slice none 0 0] 28
  simp only [List.nil_append] at S0
  obtain ⟨gb, hgb⟩ : ∃ g, g = w1.heap.size := ⟨_, rfl⟩
  rw [← hgb] at S0
  have HS0 := Lib.hid S0
  have d0 := S0.blk_cell (i := 0) rfl 0
  have d1 := S0.blk_cell (i := 0) rfl 1
  have d2 := S0.blk_cell (i := 0) rfl 2
  have d3 := S0.blk_cell (i := 0) rfl 3
  have d4 := S0.blk_cell (i := 0) rfl 4
  have d5 := S0.blk_cell (i := 0) rfl 5
  clear hr hg hb S0
  simp only [UI.val, exU, annB, benB] at *
  go_wp2_with fail
  rw [← hgb]
  generalize w1.alloc (.cells #[.slice Ac 1 cc, .slice Am 2 cm, .slice Ah 2 ch, .slice Ak 3 ck, .slice none 0 0, .slice none 0 0] 28) = w2 at *
  clear hgb
  go_at_call 8
  refine (HBD.out w2 HS0.out.bel).mono ?_
  rintro e w3 ⟨v, rfl, S3⟩
  have S4 := HS0.out.call S3
  simp only [List.cons_append, List.nil_append] at S4
  obtain ⟨g, cap, rfl, _, _, _, _, _⟩ := S4.row_form (i := 1) rfl (by decide)
  have HS := Lib.hid S4
  clear S3 S4 HS0 HBD d0 d1 d2 d3 d4 d5
  have d0 := HS.out.blk_cell (i := 0) rfl 0
  have d1 := HS.out.blk_cell (i := 0) rfl 1
  have d2 := HS.out.blk_cell (i := 0) rfl 2
  have d3 := HS.out.blk_cell (i := 0) rfl 3
  have d4 := HS.out.blk_cell (i := 0) rfl 4
  have d5 := HS.out.blk_cell (i := 0) rfl 5
  go_wp2_with fail
  go_at_call 9
  refine (HCD.out w3 HS.out.bel).mono ?_
  rintro e w4 ⟨v, rfl, S3⟩
  have S4 := HS.out.call S3
  simp only [List.cons_append, List.nil_append] at S4
  obtain ⟨ge, ce, rfl, _, _, _, _, _⟩ := S4.row_form (i := 2) rfl (by decide)
  have S5 := S4.blk_new #[.string ⟨#[97, 110, 110]⟩, .slice (some ⟨ge, 0, none⟩) 2 ce] 47
  simp only [List.cons_append, List.nil_append] at S5
  have HS5 := Lib.hid S5
  clear S3 S4 S5 HS HCD d0 d1 d2 d3 d4 d5
  have d2 := HS5.out.blk_cell (i := 0) rfl 2
  have x0 := HS5.out.blk_cell (i := 3) rfl 0
  have x1 := HS5.out.blk_cell (i := 3) rfl 1
  have HSC1 := Lib.hid (HSC.out _ _ HS5.out.bel (HS5.out.row_rd (i := 2) rfl).now)
  clear HSC
  go_wp2_with fail
  generalize World.alloc w4 _ = w5 at *
  generalize w4.heap.size = gx at *
  go_at_call 11
  refine HSC1.out.mono ?_
  rintro e w6 ⟨rfl, hb⟩
  have HS6 := Lib.hid (HS5.out.ext hb)
  clear hb HS5 HSC1 d2 x0 x1
  obtain ⟨g', cap', hv, _, _, _, hc, _⟩ := HS6.out.row_form (i := 1) rfl (by decide)
  cases hv
  have c0 := hc 0 (by decide)
  have c1 := hc 1 (by decide)
  have c2 := hc 2 (by decide)
  have c5 := hc 5 (by decide)
  clear hc
  have q1 := fun x y w => eqg_std .eql x y #[.string ⟨#[98, 101, 110]⟩, .int .i64 1, .int .i64 (-1)] #[.string ⟨#[98, 101, 110]⟩, .int .i64 1, .int .i64 (-1)] w
  have q2 := eql_std
  go_wp2_with fail
  go_ret
  exact ⟨rfl, HB1.out.trans (HS6.out.bel.mono HB1.out.size)⟩
end Go.Proofs.YtnaafefcijgpkaaGreatDoor
