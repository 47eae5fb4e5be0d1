/- TopLinksPartners: the law. -/
import Derived.Test.YtbakoldmfpbnaaaGreatDoorP14
import Derived.Test.YtbakoldmfpbnaaaGreatDoorP4
import Derived.Test.YtbakoldmfpbnaaaGreatDoorB30
import Derived.Test.YtbakoldmfpbnaaaGreatDoorB34
set_option linter.unusedVariables false
set_option linter.unusedSimpArgs false
set_option linter.unusedSectionVars false
set_option linter.constructorNameAsVariable false
namespace Go.Proofs.YtbakoldmfpbnaaaGreatDoor
open Go.RowKit Go.Mem Go.Sheet Go.Adj Go.Shelf
attribute [local go_sem] Oper.semAt_some
theorem netOk_net {W : World} {v ve : Value} {n : Nat} {hs : List HI} {es : List EI} {name : ByteArray} {co : Int} (h : CEnv W v ve n hs es name) (hco : -99 ≤ co ∧ co ≤ 99) : ∀ i, i < n → NetOk (netF hs es co i) := fun i hi => by
  have h1 := net_bd h hco i hi
  refine ⟨by omega, by omega, fun hx => ?_⟩
  unfold netF at hx ⊢
  split
  · rfl
  · split
    · rfl
    · rename_i h2 h3
      rw [if_neg h2, if_neg h3] at hx
      exact absurd rfl hx
theorem netOk_best {a b : NI} (ha : NetOk a) (hb : NetOk b) : NetOk (bestN a b) := by
  obtain ⟨a1, a2, a3⟩ := ha
  obtain ⟨b1, b2, b3⟩ := hb
  unfold bestN
  split
  · split
    · split
      · exact ⟨b1, b2, b3⟩
      · exact ⟨a1, a2, a3⟩
    · exact ⟨a1, a2, a3⟩
  · split
    · exact ⟨b1, b2, b3⟩
    · split
      · exact ⟨by decide, by decide, fun _ => rfl⟩
      · exact ⟨by decide, by decide, fun _ => rfl⟩
theorem foF_two (hs : List HI) (a b : PI) : foF hs [a, b] 2 = fun i => bestN (netF hs a.es a.co i) (netF hs b.es b.co i) := by
  funext i
  exact best_two _ _
def zeroQ : Array Value := #[.string ⟨#[]⟩, .slice none 0 0, .int .i64 0]
theorem net_o {hs : List HI} {es : List EI} {co : Int} {i : Nat} (h : (netF hs es co i).x = .o) : (eAt es i).m ≠ bx ∧ (eAt es i).m ≠ bd := by
  unfold netF at h
  by_cases h1 : (eAt es i).m = bx
  · rw [if_pos h1] at h; cases h
  · rw [if_neg h1] at h
    by_cases h2 : (eAt es i).m = bd
    · rw [if_pos h2] at h; cases h
    · exact ⟨h1, h2⟩
theorem below_drewN_self (w : World) (q : Nat) : Below w.heap.size w (w.drewN q).drew := (below_drewN (Below.refl _ _) q).drew
theorem matF_at {A B : Nat → NI} {n k : Nat} (h : k < (matF A B n).length) : (matF A B n)[k]? = some (stF A B n k) := by
  unfold matF at h ⊢
  rw [List.length_map, List.length_range] at h
  rw [List.getElem?_map, List.getElem?_range h]
  rfl
theorem sides_up {A B C : Nat → NI} {n k : Nat} (h1 : k < (matF (fun i => bestN (A i) (B i)) C n).length) (h2 : k < (matF A C n).length) :
    ∃ x y, (matF (fun i => bestN (A i) (B i)) C n)[k]? = some x ∧ (matF A C n)[k]? = some y ∧ y.up ≤ x.up :=
  ⟨_, _, matF_at h1, matF_at h2, up_best A B C (k + 1)⟩
set_option maxRecDepth 100000 in
set_option maxHeartbeats 16000000 in
theorem partners_any (W : World) (v vp : Value) (n m : Nat) (hs : List HI) (ps : List PI) (hbd : m * 48 ≤ 140737488351232) (h : Rd W (· < W.heap.size) 2 v n (hs.flatMap HI.cells)) (hp : RdPl W (· < W.heap.size) vp m ps) (hgm : GlobM W) :
    Calls Tryz.prog 5 #[.agg #[v, vp]] W fun e w' => e = .returned (.bool true) ∧ Below W.heap.size W w' := by
  have HL := Lib.hid (h.count (f := HI.cells) (size := 2) (fun _ => rfl) (by decide))
  have H := Lib.hid h
  have HP := Lib.hid hp
  have HGM := Lib.hid hgm
  obtain ⟨A, c, rfl, _, _, _⟩ := h.open_
  obtain ⟨Ap, cp, rfl, _, _, _⟩ := hp.1.open_
  have hm63 := hp.1.le
  clear h hp hgm
  have S0 := (St.refl W).blk_new #[.slice A n c, .slice Ap m cp] 25
  simp only [List.nil_append] at S0
  have HF := Lib.hid (linksFew_any (W.alloc (.cells #[.slice A n c, .slice Ap m cp] 25)) _ _ n m hs ps hbd (H.out.later S0.bel) (HP.out.later S0.bel))
  have HLR : Hid (∀ w', Below W.heap.size W w' → Calls Tryz.prog 7 #[] w' fun e w2 => e = .returned (.bool true) ∧ Below W.heap.size W w2) := fun w' hb => (linksRound_any w' (HGM.out.later hb)).mono fun e w2 ⟨h1, h2⟩ => ⟨h1, hb.trans (h2.mono hb.size)⟩
  have HS0 := Lib.hid S0
  clear S0
  go_enter Tryz.func5, Tryz.ntmps5
  go_wp2_with fail
  go_at_call 6
  refine HF.out.mono ?_
  rintro e w1 ⟨⟨bo, rfl, hgood⟩, hb1⟩
  have S1 := HS0.out.ext hb1
  clear HS0 HF hb1
  generalize hgc : W.heap.size = gc at S1 ⊢
  have c0 := S1.blk_cell (i := 0) rfl 0
  have c1 := S1.blk_cell (i := 0) rfl 1
  have HS1 := Lib.hid S1
  clear S1
  by_cases hbo : bo = false
  · subst hbo
    clear hgood
    go_wp2_with (go_at_call 7; refine (HLR.out _ HS1.out.bel).mono ?_; rintro e w' ⟨rfl, hb2⟩; have HB2 := Lib.hid hb2; clear hb2)
    go_ret
    exact ⟨rfl, HB2.out⟩
  obtain rfl : bo = true := by simpa using hbo
  obtain ⟨g1, g2, g3⟩ := hgood rfl
  have HG1 := Lib.hid g1
  have HG3 := Lib.hid g3
  clear hgood g1 g3 hbo
  by_cases h2 : m < 3
  · have t2 : decide ((m : Int) < 3) = true := by simp; omega
    go_wp2_with (go_at_call 7; refine (HLR.out _ HS1.out.bel).mono ?_; rintro e w' ⟨rfl, hb2⟩; have HB2 := Lib.hid hb2; clear hb2)
    go_ret
    exact ⟨rfl, HB2.out⟩
  have t2 : decide ((m : Int) < 3) = false := by simp; omega
  obtain ⟨bp, op, x0, hA0, hx0, p00, p01, p02⟩ := HP.out.elem (k := 0) (by omega)
  obtain ⟨bp', op', x1, hA1, hx1, p10, p11, p12⟩ := HP.out.elem (k := 1) (by omega)
  obtain ⟨bp'', op'', x2, hA2, hx2, p20, p21, p22⟩ := HP.out.elem (k := 2) (by omega)
  cases hA0
  cases hA1
  cases hA2
  rw [Nat.zero_mul, Nat.add_zero] at p00 p01 p02
  rw [Nat.one_mul] at p10 p11 p12
  rw [show 2 * 3 = 6 from rfl] at p20 p21 p22
  have hbp : bp < W.heap.size := World.block_lt_of_cell? _ _ p00
  have HX0 := Lib.hid hx0
  have HX1 := Lib.hid hx1
  have HX2 := Lib.hid hx2
  clear hx0 hx1 hx2
  obtain ⟨n0, a0, m0, e0, es0, k0⟩ := x0
  obtain ⟨n1, a1, m1, e1, es1, k1⟩ := x1
  obtain ⟨n2, a2, m2, e2, es2, k2⟩ := x2
  dsimp only at p00 p01 p02 p10 p11 p12 p20 p21 p22
  have HCL : Hid (∀ w' L, St W w' (blk gc 25 #[.slice A n c, .slice (some ⟨bp, op, none⟩) m cp] :: L) → (w'.cell? ⟨bp, op, none⟩ = some (.string n0) ∧ w'.cell? ⟨bp, op + 1, none⟩ = some (.slice a0 m0 e0) ∧ w'.cell? ⟨bp, op + 2, none⟩ = some (.int .i64 k0) ∧ w'.cell? ⟨bp, op + 3, none⟩ = some (.string n1) ∧ w'.cell? ⟨bp, op + 3 + 1, none⟩ = some (.slice a1 m1 e1) ∧ w'.cell? ⟨bp, op + 3 + 2, none⟩ = some (.int .i64 k1)) ∧
      (w'.cell? ⟨bp, op + 6, none⟩ = some (.string n2) ∧ w'.cell? ⟨bp, op + 6 + 1, none⟩ = some (.slice a2 m2 e2) ∧ w'.cell? ⟨bp, op + 6 + 2, none⟩ = some (.int .i64 k2)) ∧ w'.cell? ⟨gc, 1, none⟩ = some (.slice (some ⟨bp, op, none⟩) m cp) ∧ w'.cell? ⟨gc, 0, none⟩ = some (.slice A n c)) := fun w' L h =>
    ⟨⟨(h.bel.cell hbp).trans p00, (h.bel.cell hbp).trans p01, (h.bel.cell hbp).trans p02, (h.bel.cell hbp).trans p10, (h.bel.cell hbp).trans p11, (h.bel.cell hbp).trans p12⟩, ⟨(h.bel.cell hbp).trans p20, (h.bel.cell hbp).trans p21, (h.bel.cell hbp).trans p22⟩, h.blk_cell (i := 0) rfl 1, h.blk_cell (i := 0) rfl 0⟩
  have S1 := HS1.out.drew
  clear p00 p01 p02 p10 p11 p12 p20 p21 p22 hbp HS1
  go_wp2_with fail
  generalize hfld : blk gc 25 #[.slice A n c, .slice (some ⟨bp, op, none⟩) m cp] = FA at *
  refine wp_head_tail3 0 17 5 [] [0, 1, 2, 3, 4, 5, 6, 7, 8, 9, 10, 11] rfl (fun w' => ∃ L, St W w' (FA :: L))
    (fun a a' w' => ∃ (ga gb gd : Nat), a' = ((a.put (some 3) (.pointer (some ⟨ga, 0, none⟩))).put (some 4) (.pointer (some ⟨gb, 0, none⟩))).put (some 5) (.pointer (some ⟨gd, 0, none⟩)) ∧ St W w' [FA, blk ga 33 #[.string n0, .slice a0 m0 e0, .int .i64 k0], blk gb 33 #[.string n1, .slice a1 m1 e1, .int .i64 k1], blk gd 33 zeroQ]) (by kernel_rfl) (by kernel_rfl) ⟨_, S1⟩ ?_
  simp only [pick, List.filterMap_cons, List.filterMap_nil, List.getElem?_toArray, List.getElem?_cons_succ, List.getElem?_cons_zero]
  generalize hK : (fun w' : World => ∃ L, St W w' (FA :: L)) = K
  have kK : ∀ y : Wd K, ∃ L, St W y.w (FA :: L) := by subst hK; exact fun y => y.h
  have hKd : ∀ (w' : World) (L : List Asr), St W w' (FA :: L) → K w' := by
    intro w' L h
    subst hK
    exact ⟨L, h⟩
  have hne : Nonempty (Wd K) := ⟨⟨_, hKd _ _ S1⟩⟩
  have y0 : ∀ y : Wd K, y.w.cell? ⟨bp, op, none⟩ = some (.string n0) := fun y => (HCL.out _ _ (kK y).choose_spec).1.1
  have y1 : ∀ y : Wd K, y.w.cell? ⟨bp, op + 1, none⟩ = some (.slice a0 m0 e0) := fun y => (HCL.out _ _ (kK y).choose_spec).1.2.1
  have y2 : ∀ y : Wd K, y.w.cell? ⟨bp, op + 2, none⟩ = some (.int .i64 k0) := fun y => (HCL.out _ _ (kK y).choose_spec).1.2.2.1
  have y3 : ∀ y : Wd K, y.w.cell? ⟨bp, op + 3, none⟩ = some (.string n1) := fun y => (HCL.out _ _ (kK y).choose_spec).1.2.2.2.1
  have y4 : ∀ y : Wd K, y.w.cell? ⟨bp, op + 3 + 1, none⟩ = some (.slice a1 m1 e1) := fun y => (HCL.out _ _ (kK y).choose_spec).1.2.2.2.2.1
  have y5 : ∀ y : Wd K, y.w.cell? ⟨bp, op + 3 + 2, none⟩ = some (.int .i64 k1) := fun y => (HCL.out _ _ (kK y).choose_spec).1.2.2.2.2.2
  have y6 : ∀ y : Wd K, y.w.cell? ⟨bp, op + 6, none⟩ = some (.string n2) := fun y => (HCL.out _ _ (kK y).choose_spec).2.1.1
  have y7 : ∀ y : Wd K, y.w.cell? ⟨bp, op + 6 + 1, none⟩ = some (.slice a2 m2 e2) := fun y => (HCL.out _ _ (kK y).choose_spec).2.1.2.1
  have y8 : ∀ y : Wd K, y.w.cell? ⟨bp, op + 6 + 2, none⟩ = some (.int .i64 k2) := fun y => (HCL.out _ _ (kK y).choose_spec).2.1.2.2
  have y9 : ∀ y : Wd K, y.w.cell? ⟨gc, 1, none⟩ = some (.slice (some ⟨bp, op, none⟩) m cp) := fun y => (HCL.out _ _ (kK y).choose_spec).2.2.1
  clear hK kK
  generalize World.drew _ = w0 at *
  refine wpQuiet_nil ?_
  change wpQuiet _ _ _ _ (_ :: _ :: _ :: _ :: _ :: _ :: _ :: _ :: _ :: _ :: _ :: _ :: []) _
  repeat (go_big_quiet_step ((fail)))
  refine wpQuiet_nil ?_
  clear y0 y1 y2 y3 y4 y5 y6 y7 y8 y9 hne
  refine ⟨?_, ?_⟩
  · refine headW_all (rs := [12, 13, 14]) (by kernel_rfl) (by decide) (by decide) (List.forall_mem_cons.2 ⟨?_, List.forall_mem_cons.2 ⟨?_, List.forall_mem_cons.2 ⟨?_, List.forall_mem_nil _⟩⟩⟩)
    · as_aux_lemma =>
      refine wpOp_list (o := _) rfl ?_
      intro Q' hQ'
      go_wp2_with fail
      have SA := S1.blk_new #[.string ⟨#[]⟩, .slice none 0 0, .int .i64 0] 33
      simp only [List.cons_append, List.nil_append] at SA
      refine ⟨hKd _ _ SA, ?_⟩
      refine headW_all (rs := [13, 14]) (by kernel_rfl) (by decide) (by decide) (List.forall_mem_cons.2 ⟨?_, List.forall_mem_cons.2 ⟨?_, List.forall_mem_nil _⟩⟩)
      · as_aux_lemma =>
        refine wpOp_list (o := _) rfl ?_
        intro Q' hQ'
        go_wp2_with fail
        have SB := SA.blk_new #[.string ⟨#[]⟩, .slice none 0 0, .int .i64 0] 33
        simp only [List.cons_append, List.nil_append] at SB
        refine ⟨hKd _ _ SB, ?_⟩
        refine headW_all (rs := [14]) (by kernel_rfl) (by decide) (by decide) (List.forall_mem_cons.2 ⟨?_, List.forall_mem_nil _⟩)
        refine wpOp_list (o := _) rfl ?_
        intro Q' hQ'
        go_wp2_with fail
        have SC := SB.blk_new #[.string ⟨#[]⟩, .slice none 0 0, .int .i64 0] 33
        simp only [List.cons_append, List.nil_append] at SC
        refine ⟨hKd _ _ SC, ?_⟩
        simp only [World.size_alloc] at SC
        refine headW_all (rs := [15]) (by kernel_rfl) (by decide) (by decide) (List.forall_mem_cons.2 ⟨?_, List.forall_mem_nil _⟩)
        refine wpOp_list (o := _) rfl ?_
        intro Q' hQ'
        have SR := SC.blk_row (i := 1) rfl #[.string n0, .slice a0 m0 e0, .int .i64 k0]
        simp only [List.set_cons_zero, List.set_cons_succ] at SR
        refine wpList_store_row rfl 33 (.tmp 3) (.tmp 41) rfl (w0.heap.size) #[.string n0, .slice a0 m0 e0, .int .i64 k0] (by first | rfl | (simp; done)) rfl 33 _ (SC.blk_at (i := 1) rfl).2.2 (by kernel_rfl) rfl (by simp [Value.oneCell']) ?_
        go_wp2_with fail
        refine ⟨hKd _ _ SR, ?_⟩
        refine headW_all (rs := [16]) (by kernel_rfl) (by decide) (by decide) (List.forall_mem_cons.2 ⟨?_, List.forall_mem_nil _⟩)
        refine wpOp_list (o := _) rfl ?_
        intro Q' hQ'
        have SQ := SR.blk_row (i := 2) rfl #[.string n1, .slice a1 m1 e1, .int .i64 k1]
        simp only [List.set_cons_zero, List.set_cons_succ] at SQ
        refine wpList_store_row rfl 33 (.tmp 4) (.tmp 45) rfl (w0.heap.size + 1) #[.string n1, .slice a1 m1 e1, .int .i64 k1] (by first | rfl | (simp; done)) rfl 33 _ (SR.blk_at (i := 2) rfl).2.2 (by kernel_rfl) rfl (by simp [Value.oneCell']) ?_
        go_wp2_with fail
        refine ⟨hKd _ _ SQ, ?_⟩
        exact ⟨by kernel_rfl, _, _, _, by kernel_rfl, SQ⟩
      · as_aux_lemma =>
        refine wpOp_list (o := _) rfl ?_
        intro Q' hQ'
        go_wp2_with fail
        have SB := SA.blk_new #[.string ⟨#[]⟩, .slice none 0 0, .int .i64 0] 33
        simp only [List.cons_append, List.nil_append] at SB
        refine ⟨hKd _ _ SB, ?_⟩
        refine headW_all (rs := [13]) (by kernel_rfl) (by decide) (by decide) (List.forall_mem_cons.2 ⟨?_, List.forall_mem_nil _⟩)
        refine wpOp_list (o := _) rfl ?_
        intro Q' hQ'
        go_wp2_with fail
        have SC := SB.blk_new #[.string ⟨#[]⟩, .slice none 0 0, .int .i64 0] 33
        simp only [List.cons_append, List.nil_append] at SC
        refine ⟨hKd _ _ SC, ?_⟩
        simp only [World.size_alloc] at SC
        refine headW_all (rs := [15]) (by kernel_rfl) (by decide) (by decide) (List.forall_mem_cons.2 ⟨?_, List.forall_mem_nil _⟩)
        refine wpOp_list (o := _) rfl ?_
        intro Q' hQ'
        have SR := SC.blk_row (i := 1) rfl #[.string n0, .slice a0 m0 e0, .int .i64 k0]
        simp only [List.set_cons_zero, List.set_cons_succ] at SR
        refine wpList_store_row rfl 33 (.tmp 3) (.tmp 41) rfl (w0.heap.size) #[.string n0, .slice a0 m0 e0, .int .i64 k0] (by first | rfl | (simp; done)) rfl 33 _ (SC.blk_at (i := 1) rfl).2.2 (by kernel_rfl) rfl (by simp [Value.oneCell']) ?_
        go_wp2_with fail
        refine ⟨hKd _ _ SR, ?_⟩
        refine headW_all (rs := [16]) (by kernel_rfl) (by decide) (by decide) (List.forall_mem_cons.2 ⟨?_, List.forall_mem_nil _⟩)
        refine wpOp_list (o := _) rfl ?_
        intro Q' hQ'
        have SQ := SR.blk_row (i := 3) rfl #[.string n1, .slice a1 m1 e1, .int .i64 k1]
        simp only [List.set_cons_zero, List.set_cons_succ] at SQ
        refine wpList_store_row rfl 33 (.tmp 4) (.tmp 45) rfl (w0.heap.size + 1 + 1) #[.string n1, .slice a1 m1 e1, .int .i64 k1] (by first | rfl | (simp; done)) rfl 33 _ (SR.blk_at (i := 3) rfl).2.2 (by kernel_rfl) rfl (by simp [Value.oneCell']) ?_
        go_wp2_with fail
        refine ⟨hKd _ _ SQ, ?_⟩
        exact ⟨by kernel_rfl, _, _, _, by kernel_rfl, SQ.perm (.cons _ (.cons _ (.swap _ _ _)))⟩
    · as_aux_lemma =>
      refine wpOp_list (o := _) rfl ?_
      intro Q' hQ'
      go_wp2_with fail
      have SA := S1.blk_new #[.string ⟨#[]⟩, .slice none 0 0, .int .i64 0] 33
      simp only [List.cons_append, List.nil_append] at SA
      refine ⟨hKd _ _ SA, ?_⟩
      refine headW_all (rs := [12, 14]) (by kernel_rfl) (by decide) (by decide) (List.forall_mem_cons.2 ⟨?_, List.forall_mem_cons.2 ⟨?_, List.forall_mem_nil _⟩⟩)
      · as_aux_lemma =>
        refine wpOp_list (o := _) rfl ?_
        intro Q' hQ'
        go_wp2_with fail
        have SB := SA.blk_new #[.string ⟨#[]⟩, .slice none 0 0, .int .i64 0] 33
        simp only [List.cons_append, List.nil_append] at SB
        refine ⟨hKd _ _ SB, ?_⟩
        refine headW_all (rs := [14]) (by kernel_rfl) (by decide) (by decide) (List.forall_mem_cons.2 ⟨?_, List.forall_mem_nil _⟩)
        refine wpOp_list (o := _) rfl ?_
        intro Q' hQ'
        go_wp2_with fail
        have SC := SB.blk_new #[.string ⟨#[]⟩, .slice none 0 0, .int .i64 0] 33
        simp only [List.cons_append, List.nil_append] at SC
        refine ⟨hKd _ _ SC, ?_⟩
        simp only [World.size_alloc] at SC
        refine headW_all (rs := [15]) (by kernel_rfl) (by decide) (by decide) (List.forall_mem_cons.2 ⟨?_, List.forall_mem_nil _⟩)
        refine wpOp_list (o := _) rfl ?_
        intro Q' hQ'
        have SR := SC.blk_row (i := 2) rfl #[.string n0, .slice a0 m0 e0, .int .i64 k0]
        simp only [List.set_cons_zero, List.set_cons_succ] at SR
        refine wpList_store_row rfl 33 (.tmp 3) (.tmp 41) rfl (w0.heap.size + 1) #[.string n0, .slice a0 m0 e0, .int .i64 k0] (by first | rfl | (simp; done)) rfl 33 _ (SC.blk_at (i := 2) rfl).2.2 (by kernel_rfl) rfl (by simp [Value.oneCell']) ?_
        go_wp2_with fail
        refine ⟨hKd _ _ SR, ?_⟩
        refine headW_all (rs := [16]) (by kernel_rfl) (by decide) (by decide) (List.forall_mem_cons.2 ⟨?_, List.forall_mem_nil _⟩)
        refine wpOp_list (o := _) rfl ?_
        intro Q' hQ'
        have SQ := SR.blk_row (i := 1) rfl #[.string n1, .slice a1 m1 e1, .int .i64 k1]
        simp only [List.set_cons_zero, List.set_cons_succ] at SQ
        refine wpList_store_row rfl 33 (.tmp 4) (.tmp 45) rfl (w0.heap.size) #[.string n1, .slice a1 m1 e1, .int .i64 k1] (by first | rfl | (simp; done)) rfl 33 _ (SR.blk_at (i := 1) rfl).2.2 (by kernel_rfl) rfl (by simp [Value.oneCell']) ?_
        go_wp2_with fail
        refine ⟨hKd _ _ SQ, ?_⟩
        exact ⟨by kernel_rfl, _, _, _, by kernel_rfl, SQ.perm (.cons _ (.swap _ _ _))⟩
      · as_aux_lemma =>
        refine wpOp_list (o := _) rfl ?_
        intro Q' hQ'
        go_wp2_with fail
        have SB := SA.blk_new #[.string ⟨#[]⟩, .slice none 0 0, .int .i64 0] 33
        simp only [List.cons_append, List.nil_append] at SB
        refine ⟨hKd _ _ SB, ?_⟩
        refine headW_all (rs := [12]) (by kernel_rfl) (by decide) (by decide) (List.forall_mem_cons.2 ⟨?_, List.forall_mem_nil _⟩)
        refine wpOp_list (o := _) rfl ?_
        intro Q' hQ'
        go_wp2_with fail
        have SC := SB.blk_new #[.string ⟨#[]⟩, .slice none 0 0, .int .i64 0] 33
        simp only [List.cons_append, List.nil_append] at SC
        refine ⟨hKd _ _ SC, ?_⟩
        simp only [World.size_alloc] at SC
        refine headW_all (rs := [15]) (by kernel_rfl) (by decide) (by decide) (List.forall_mem_cons.2 ⟨?_, List.forall_mem_nil _⟩)
        refine wpOp_list (o := _) rfl ?_
        intro Q' hQ'
        have SR := SC.blk_row (i := 3) rfl #[.string n0, .slice a0 m0 e0, .int .i64 k0]
        simp only [List.set_cons_zero, List.set_cons_succ] at SR
        refine wpList_store_row rfl 33 (.tmp 3) (.tmp 41) rfl (w0.heap.size + 1 + 1) #[.string n0, .slice a0 m0 e0, .int .i64 k0] (by first | rfl | (simp; done)) rfl 33 _ (SC.blk_at (i := 3) rfl).2.2 (by kernel_rfl) rfl (by simp [Value.oneCell']) ?_
        go_wp2_with fail
        refine ⟨hKd _ _ SR, ?_⟩
        refine headW_all (rs := [16]) (by kernel_rfl) (by decide) (by decide) (List.forall_mem_cons.2 ⟨?_, List.forall_mem_nil _⟩)
        refine wpOp_list (o := _) rfl ?_
        intro Q' hQ'
        have SQ := SR.blk_row (i := 1) rfl #[.string n1, .slice a1 m1 e1, .int .i64 k1]
        simp only [List.set_cons_zero, List.set_cons_succ] at SQ
        refine wpList_store_row rfl 33 (.tmp 4) (.tmp 45) rfl (w0.heap.size) #[.string n1, .slice a1 m1 e1, .int .i64 k1] (by first | rfl | (simp; done)) rfl 33 _ (SR.blk_at (i := 1) rfl).2.2 (by kernel_rfl) rfl (by simp [Value.oneCell']) ?_
        go_wp2_with fail
        refine ⟨hKd _ _ SQ, ?_⟩
        exact ⟨by kernel_rfl, _, _, _, by kernel_rfl, SQ.perm (.cons _ (((List.Perm.cons _ (.swap _ _ _)).trans (.swap _ _ _))))⟩
    · as_aux_lemma =>
      refine wpOp_list (o := _) rfl ?_
      intro Q' hQ'
      go_wp2_with fail
      have SA := S1.blk_new #[.string ⟨#[]⟩, .slice none 0 0, .int .i64 0] 33
      simp only [List.cons_append, List.nil_append] at SA
      refine ⟨hKd _ _ SA, ?_⟩
      refine headW_all (rs := [12, 13]) (by kernel_rfl) (by decide) (by decide) (List.forall_mem_cons.2 ⟨?_, List.forall_mem_cons.2 ⟨?_, List.forall_mem_nil _⟩⟩)
      · as_aux_lemma =>
        refine wpOp_list (o := _) rfl ?_
        intro Q' hQ'
        go_wp2_with fail
        have SB := SA.blk_new #[.string ⟨#[]⟩, .slice none 0 0, .int .i64 0] 33
        simp only [List.cons_append, List.nil_append] at SB
        refine ⟨hKd _ _ SB, ?_⟩
        refine headW_all (rs := [13]) (by kernel_rfl) (by decide) (by decide) (List.forall_mem_cons.2 ⟨?_, List.forall_mem_nil _⟩)
        refine wpOp_list (o := _) rfl ?_
        intro Q' hQ'
        go_wp2_with fail
        have SC := SB.blk_new #[.string ⟨#[]⟩, .slice none 0 0, .int .i64 0] 33
        simp only [List.cons_append, List.nil_append] at SC
        refine ⟨hKd _ _ SC, ?_⟩
        simp only [World.size_alloc] at SC
        refine headW_all (rs := [15]) (by kernel_rfl) (by decide) (by decide) (List.forall_mem_cons.2 ⟨?_, List.forall_mem_nil _⟩)
        refine wpOp_list (o := _) rfl ?_
        intro Q' hQ'
        have SR := SC.blk_row (i := 2) rfl #[.string n0, .slice a0 m0 e0, .int .i64 k0]
        simp only [List.set_cons_zero, List.set_cons_succ] at SR
        refine wpList_store_row rfl 33 (.tmp 3) (.tmp 41) rfl (w0.heap.size + 1) #[.string n0, .slice a0 m0 e0, .int .i64 k0] (by first | rfl | (simp; done)) rfl 33 _ (SC.blk_at (i := 2) rfl).2.2 (by kernel_rfl) rfl (by simp [Value.oneCell']) ?_
        go_wp2_with fail
        refine ⟨hKd _ _ SR, ?_⟩
        refine headW_all (rs := [16]) (by kernel_rfl) (by decide) (by decide) (List.forall_mem_cons.2 ⟨?_, List.forall_mem_nil _⟩)
        refine wpOp_list (o := _) rfl ?_
        intro Q' hQ'
        have SQ := SR.blk_row (i := 3) rfl #[.string n1, .slice a1 m1 e1, .int .i64 k1]
        simp only [List.set_cons_zero, List.set_cons_succ] at SQ
        refine wpList_store_row rfl 33 (.tmp 4) (.tmp 45) rfl (w0.heap.size + 1 + 1) #[.string n1, .slice a1 m1 e1, .int .i64 k1] (by first | rfl | (simp; done)) rfl 33 _ (SR.blk_at (i := 3) rfl).2.2 (by kernel_rfl) rfl (by simp [Value.oneCell']) ?_
        go_wp2_with fail
        refine ⟨hKd _ _ SQ, ?_⟩
        exact ⟨by kernel_rfl, _, _, _, by kernel_rfl, SQ.perm (.cons _ (((List.Perm.swap _ _ _).trans (.cons _ (.swap _ _ _)))))⟩
      · as_aux_lemma =>
        refine wpOp_list (o := _) rfl ?_
        intro Q' hQ'
        go_wp2_with fail
        have SB := SA.blk_new #[.string ⟨#[]⟩, .slice none 0 0, .int .i64 0] 33
        simp only [List.cons_append, List.nil_append] at SB
        refine ⟨hKd _ _ SB, ?_⟩
        refine headW_all (rs := [12]) (by kernel_rfl) (by decide) (by decide) (List.forall_mem_cons.2 ⟨?_, List.forall_mem_nil _⟩)
        refine wpOp_list (o := _) rfl ?_
        intro Q' hQ'
        go_wp2_with fail
        have SC := SB.blk_new #[.string ⟨#[]⟩, .slice none 0 0, .int .i64 0] 33
        simp only [List.cons_append, List.nil_append] at SC
        refine ⟨hKd _ _ SC, ?_⟩
        simp only [World.size_alloc] at SC
        refine headW_all (rs := [15]) (by kernel_rfl) (by decide) (by decide) (List.forall_mem_cons.2 ⟨?_, List.forall_mem_nil _⟩)
        refine wpOp_list (o := _) rfl ?_
        intro Q' hQ'
        have SR := SC.blk_row (i := 3) rfl #[.string n0, .slice a0 m0 e0, .int .i64 k0]
        simp only [List.set_cons_zero, List.set_cons_succ] at SR
        refine wpList_store_row rfl 33 (.tmp 3) (.tmp 41) rfl (w0.heap.size + 1 + 1) #[.string n0, .slice a0 m0 e0, .int .i64 k0] (by first | rfl | (simp; done)) rfl 33 _ (SC.blk_at (i := 3) rfl).2.2 (by kernel_rfl) rfl (by simp [Value.oneCell']) ?_
        go_wp2_with fail
        refine ⟨hKd _ _ SR, ?_⟩
        refine headW_all (rs := [16]) (by kernel_rfl) (by decide) (by decide) (List.forall_mem_cons.2 ⟨?_, List.forall_mem_nil _⟩)
        refine wpOp_list (o := _) rfl ?_
        intro Q' hQ'
        have SQ := SR.blk_row (i := 2) rfl #[.string n1, .slice a1 m1 e1, .int .i64 k1]
        simp only [List.set_cons_zero, List.set_cons_succ] at SQ
        refine wpList_store_row rfl 33 (.tmp 4) (.tmp 45) rfl (w0.heap.size + 1) #[.string n1, .slice a1 m1 e1, .int .i64 k1] (by first | rfl | (simp; done)) rfl 33 _ (SR.blk_at (i := 2) rfl).2.2 (by kernel_rfl) rfl (by simp [Value.oneCell']) ?_
        go_wp2_with fail
        refine ⟨hKd _ _ SQ, ?_⟩
        exact ⟨by kernel_rfl, _, _, _, by kernel_rfl, SQ.perm (.cons _ (((List.Perm.swap _ _ _).trans (.cons _ (.swap _ _ _))).trans (.swap _ _ _)))⟩
  rintro a' w2 ⟨ga, gb, gd, rfl, S2⟩
  have SR := S2.blk_row (i := 3) rfl #[.string n2, .slice a2 m2 e2, .int .i64 k2]
  simp only [List.set_cons_zero, List.set_cons_succ] at SR
  refine wpList_store_row rfl 33 (.tmp 5) (.tmp 49) rfl gd #[.string n2, .slice a2 m2 e2, .int .i64 k2] rfl rfl 33 _ (S2.blk_at (i := 3) rfl).2.2 (by kernel_rfl) rfl (by simp [Value.oneCell']) ?_
  clear hKd S1 S2
  generalize World.setRow _ _ _ = w3 at SR ⊢
  go_wp2_with fail
  refine NoPanic.normal ?_
  have hn36 : 1 ≤ n ∧ n ≤ 36 := by rw [HL.out]; exact HG1.out.len
  have gp0 := HG3.out.ok 0 (by omega)
  have gp1 := HG3.out.ok 1 (by omega)
  have gp2 := HG3.out.ok 2 (by omega)
  have hnm := HG3.out.two 1 0 (by omega) (by omega)
  rw [pAt_eq HX0.out] at gp0 hnm
  rw [pAt_eq HX1.out] at gp1 hnm
  rw [pAt_eq HX2.out] at gp2
  have HGP0 := Lib.hid gp0
  have HGP1 := Lib.hid gp1
  obtain ⟨gc0, hk0⟩ := gp0
  obtain ⟨gc1, hk1⟩ := gp1
  obtain ⟨gc2, hk2⟩ := gp2
  dsimp only at gc0 gc1 gc2 hk0 hk1 hk2 hnm
  obtain rfl : n = m0 := by rw [gc0.2.2.1, HL.out]
  obtain rfl : n = m1 := by rw [gc1.2.2.1, HL.out]
  obtain rfl : n = m2 := by rw [gc2.2.2.1, HL.out]
  have HC0 := Lib.hid gc0
  have HC1 := Lib.hid gc1
  have HC2 := Lib.hid gc2
  have HNM := Lib.hid hnm
  have HENV0 : Hid (∀ w, Below W.heap.size W w → CEnv w (.slice A n c) (.slice a0 n e0) n hs es0 n0) := fun w hb => ⟨H.out.later hb, (HP.out.2 _ (List.mem_of_getElem? HX0.out)).1.later hb, HG1.out, HC0.out.2.1, (HP.out.2 _ (List.mem_of_getElem? HX0.out)).2, HC0.out.2.2.2⟩
  have HENV1 : Hid (∀ w, Below W.heap.size W w → CEnv w (.slice A n c) (.slice a1 n e1) n hs es1 n1) := fun w hb => ⟨H.out.later hb, (HP.out.2 _ (List.mem_of_getElem? HX1.out)).1.later hb, HG1.out, HC1.out.2.1, (HP.out.2 _ (List.mem_of_getElem? HX1.out)).2, HC1.out.2.2.2⟩
  have HENV2 : Hid (∀ w, Below W.heap.size W w → CEnv w (.slice A n c) (.slice a2 n e2) n hs es2 n2) := fun w hb => ⟨H.out.later hb, (HP.out.2 _ (List.mem_of_getElem? HX2.out)).1.later hb, HG1.out, HC2.out.2.1, (HP.out.2 _ (List.mem_of_getElem? HX2.out)).2, HC2.out.2.2.2⟩
  have HFB : Hid (∀ w, Below W.heap.size W w → Calls Tryz.prog 17 #[.slice A n c, .slice (some ⟨w.heap.size, 0, none⟩) 2 2] (w.alloc (.cells #[.string n0, .slice a0 n e0, .int .i64 k0, .string n1, .slice a1 n e1, .int .i64 k1] 33)) fun e w' => ∃ v', e = .returned (.tuple #[v', .int .i64 0]) ∧
      St (w.alloc (.cells #[.string n0, .slice a0 n e0, .int .i64 k0, .string n1, .slice a1 n e1, .int .i64 k1] 33)) w' [row 64 2 v' n ((nl (fun i => bestN (netF hs es0 k0 i) (netF hs es1 k1 i)) n).flatMap NI.cells)]) := fun w hb => by
    have ha' := HENV0.out w hb
    have hb' := HENV1.out w hb
    have := fourball_ok _ (.slice A n c) _ n 2 hs _ HG1.out (ha'.rh.later ((Below.refl _ _).alloc (Nat.le_refl _) (.cells #[.string n0, .slice a0 n e0, .int .i64 k0, .string n1, .slice a1 n e1, .int .i64 k1] 33))) (rdPl_two (xa := k0) (xb := k1) ha' hb') (goodPs_two ⟨ha'.good, hk0⟩ ⟨hb'.good, hk1⟩ HNM.out) (by omega)
    rw [foF_two] at this
    exact this
  have HAG : Hid (∀ w, Below W.heap.size W w → Calls Tryz.prog 18 #[.slice A n c, .agg #[.string n0, .slice a0 n e0, .int .i64 k0], .agg #[.string n1, .slice a1 n e1, .int .i64 k1]] w fun e w' => ∃ v', e = .returned (.tuple #[v', .int .i64 0]) ∧
      St w w' [row 64 2 v' n ((nl (fun i => aggN (netF hs es0 k0 i) (netF hs es1 k1 i)) n).flatMap NI.cells)]) := fun w hb => aggregate_ok w _ _ _ n hs es0 es1 n0 n1 k0 k1 hk0 hk1 HNM.out (HENV0.out w hb) (HENV1.out w hb)
  have HN0 : Hid (∀ w, Below W.heap.size W w → Calls Tryz.prog 19 #[.slice A n c, .agg #[.string n0, .slice a0 n e0, .int .i64 k0]] w fun e w' => ∃ v', e = .returned (.tuple #[v', .int .i64 0]) ∧ St w w' [row 64 2 v' n ((nl (netF hs es0 k0) n).flatMap NI.cells)]) := fun w hb => formatNets_ok w _ _ n hs es0 n0 k0 hk0 (HENV0.out w hb)
  have HN2 : Hid (∀ w, Below W.heap.size W w → Calls Tryz.prog 19 #[.slice A n c, .agg #[.string n2, .slice a2 n e2, .int .i64 k2]] w fun e w' => ∃ v', e = .returned (.tuple #[v', .int .i64 0]) ∧ St w w' [row 64 2 v' n ((nl (netF hs es2 k2) n).flatMap NI.cells)]) := fun w hb => formatNets_ok w _ _ n hs es2 n2 k2 hk2 (HENV2.out w hb)
  have HNK0 := Lib.hid (netOk_net (HENV0.out W (Below.refl _ _)) hk0)
  have HNK1 := Lib.hid (netOk_net (HENV1.out W (Below.refl _ _)) hk1)
  have HNK2 := Lib.hid (netOk_net (HENV2.out W (Below.refl _ _)) hk2)
  generalize netF hs es0 k0 = N0 at *
  generalize netF hs es1 k1 = N1 at *
  generalize netF hs es2 k2 = N2 at *
  have HFC : Hid (∀ w' L, St W w' (FA :: blk ga 33 #[.string n0, .slice a0 n e0, .int .i64 k0] :: blk gb 33 #[.string n1, .slice a1 n e1, .int .i64 k1] :: blk gd 33 #[.string n2, .slice a2 n e2, .int .i64 k2] :: L) →
      w'.cell? ⟨gc, 0, none⟩ = some (.slice A n c) ∧ w'.cell? ⟨gc, 1, none⟩ = some (.slice (some ⟨bp, op, none⟩) m cp) ∧ (w'.cell? ⟨ga, 0, none⟩ = some (.string n0) ∧ w'.cell? ⟨ga, 1, none⟩ = some (.slice a0 n e0) ∧ w'.cell? ⟨ga, 2, none⟩ = some (.int .i64 k0)) ∧
      (w'.cell? ⟨gb, 0, none⟩ = some (.string n1) ∧ w'.cell? ⟨gb, 1, none⟩ = some (.slice a1 n e1) ∧ w'.cell? ⟨gb, 2, none⟩ = some (.int .i64 k1)) ∧ (w'.cell? ⟨gd, 0, none⟩ = some (.string n2) ∧ w'.cell? ⟨gd, 1, none⟩ = some (.slice a2 n e2) ∧ w'.cell? ⟨gd, 2, none⟩ = some (.int .i64 k2))) := fun w' L h =>
    ⟨(HCL.out _ _ h).2.2.2, (HCL.out _ _ h).2.2.1, ⟨h.blk_cell (i := 1) rfl 0, h.blk_cell (i := 1) rfl 1, h.blk_cell (i := 1) rfl 2⟩, ⟨h.blk_cell (i := 2) rfl 0, h.blk_cell (i := 2) rfl 1, h.blk_cell (i := 2) rfl 2⟩, ⟨h.blk_cell (i := 3) rfl 0, h.blk_cell (i := 3) rfl 1, h.blk_cell (i := 3) rfl 2⟩⟩
  generalize blk ga 33 #[.string n0, .slice a0 n e0, .int .i64 k0] = PA at *
  generalize blk gb 33 #[.string n1, .slice a1 n e1, .int .i64 k1] = PB at *
  generalize blk gd 33 #[.string n2, .slice a2 n e2, .int .i64 k2] = PD at *
  clear gc0 gc1 gc2 hnm
  obtain ⟨q0, q1, ⟨u0, u1, u2⟩, ⟨v0, v1, v2⟩, z0, z1, z2⟩ := HFC.out _ _ SR
  have HS3 := Lib.hid SR
  clear SR
  go_wp2_with fail
  go_at_call 17
  refine (HFB.out _ HS3.out.bel).mono ?_
  rintro e w4 ⟨vB, rfl, Sb⟩
  have S4 := (HS3.out.alloc (.cells #[.string n0, .slice a0 n e0, .int .i64 k0, .string n1, .slice a1 n e1, .int .i64 k1] 33)).call Sb
  simp only [List.cons_append, List.nil_append] at S4
  obtain ⟨q0, q1, ⟨u0, u1, u2⟩, ⟨v0, v1, v2⟩, z0, z1, z2⟩ := HFC.out _ _ S4
  obtain ⟨bB, cB, rfl⟩ := row_some2 S4 (i := 4) rfl hn36.1
  have HS4 := Lib.hid S4
  clear S4 Sb HS3 HFB
  go_wp2_with fail
  go_at_call 18
  refine (HAG.out _ HS4.out.bel).mono ?_
  rintro e w5 ⟨vG, rfl, Sg⟩
  have S5 := HS4.out.call Sg
  simp only [List.cons_append, List.nil_append] at S5
  obtain ⟨q0, q1, ⟨u0, u1, u2⟩, ⟨v0, v1, v2⟩, z0, z1, z2⟩ := HFC.out _ _ S5
  obtain ⟨bG, cG, rfl⟩ := row_some2 S5 (i := 5) rfl hn36.1
  have HS5 := Lib.hid S5
  clear S5 Sg HS4 HAG
  go_wp2_with fail
  go_at_call 19
  refine (HN0.out _ HS5.out.bel).mono ?_
  rintro e w6 ⟨vO, rfl, So⟩
  have S6 := HS5.out.call So
  simp only [List.cons_append, List.nil_append] at S6
  obtain ⟨q0, q1, ⟨u0, u1, u2⟩, ⟨v0, v1, v2⟩, z0, z1, z2⟩ := HFC.out _ _ S6
  obtain ⟨bO, cO, rfl⟩ := row_some2 S6 (i := 6) rfl hn36.1
  have HS6 := Lib.hid S6
  clear S6 So HS5 HN0
  go_wp2_with fail
  go_at_call 19
  refine (HN2.out _ HS6.out.bel).mono ?_
  rintro e w7 ⟨vX, rfl, Sx⟩
  have S7 := HS6.out.call Sx
  simp only [List.cons_append, List.nil_append] at S7
  obtain ⟨q0, q1, _, _, _⟩ := HFC.out _ _ S7
  obtain ⟨bX, cX, rfl⟩ := row_some2 S7 (i := 7) rfl hn36.1
  have HS7 := Lib.hid S7
  clear S7 Sx HS6 HN2
  go_wp2_with fail
  have HSB := Lib.hid (sides_ok w7 _ _ n (fun i => bestN (N0 i) (N1 i)) N2 hn36 (HS7.out.row_rd (i := 4) rfl).now (HS7.out.row_rd (i := 7) rfl).now (fun i hi => netOk_best (HNK0.out i hi) (HNK1.out i hi)) HNK2.out)
  go_at_call 20
  refine HSB.out.mono ?_
  rintro e w8 ⟨vS, rfl, Ss⟩
  have S8 := HS7.out.call Ss
  simp only [List.cons_append, List.nil_append] at S8
  obtain ⟨q0, q1, _, _, _⟩ := HFC.out _ _ S8
  obtain ⟨AS, cS, rfl, _, _, _⟩ := (S8.row_rd (i := 8) rfl).open_
  have HST := Lib.hid (sides_ok w8 _ _ n N0 N2 hn36 (S8.row_rd (i := 6) rfl).now (S8.row_rd (i := 7) rfl).now HNK0.out HNK2.out)
  have HS8 := Lib.hid S8
  clear S8 Ss HS7 HSB
  go_wp2_with fail
  go_at_call 20
  refine HST.out.mono ?_
  rintro e w9 ⟨vT, rfl, St9⟩
  have S9 := HS8.out.call St9
  simp only [List.cons_append, List.nil_append] at S9
  obtain ⟨q0, q1, _, _, _⟩ := HFC.out _ _ S9
  obtain ⟨AT, cT, rfl, _, _, _⟩ := (S9.row_rd (i := 9) rfl).open_
  have HSS := Lib.hid (fun k (h1 : k < (matF (fun i => bestN (N0 i) (N1 i)) N2 n).length) (h2 : k < (matF N0 N2 n).length) => sides_up (A := N0) (B := N1) (C := N2) h1 h2)
  have HCE : Hid (∀ k, k < (matF (fun i => bestN (N0 i) (N1 i)) N2 n).length → k < (matF N0 N2 n).length → ∃ b o b' o' xs xt, AS = some ⟨b, o, none⟩ ∧ AT = some ⟨b', o', none⟩ ∧ xt ≤ xs ∧ w9.cell? ⟨b, o + k * 3, none⟩ = some (.int .i64 xs) ∧ w9.cell? ⟨b', o' + k * 3, none⟩ = some (.int .i64 xt)) := fun k h1 h2 => by
    obtain ⟨b, o, x, e1, hx, c0, _, _⟩ := (S9.row_rd (i := 8) rfl).elem3 (k := k) (fun s : StI => .int .i64 s.up) (fun s : StI => .int .i64 s.to) (fun s : StI => .bool s.ov) (fun _ => rfl) h1
    obtain ⟨b', o', x', e1', hx', c0', _, _⟩ := (S9.row_rd (i := 9) rfl).elem3 (k := k) (fun s : StI => .int .i64 s.up) (fun s : StI => .int .i64 s.to) (fun s : StI => .bool s.ov) (fun _ => rfl) h2
    obtain ⟨y, y', hy, hy', hle⟩ := HSS.out k h1 h2
    rw [hy] at hx
    rw [hy'] at hx'
    cases hx
    cases hx'
    exact ⟨b, o, b', o', _, _, e1, e1', hle, c0, c0'⟩
  have hms1 := (S9.row_rd (i := 8) rfl).le
  have hms2 := (S9.row_rd (i := 9) rfl).le
  have S9' := S9.sub (L' := [FA, PA, PB, PD, _, _]) (.cons_cons _ (.cons_cons _ (.cons_cons _ (.cons_cons _ (.cons_cons _ (.cons_cons _ (.cons _ (.cons _ (.cons _ (.cons _ (List.Sublist.refl _)))))))))))
  have HS9 := Lib.hid S9'
  have HNB : Hid (∀ i, i < n → NetOk (bestN (N0 i) (N1 i))) := fun i hi => netOk_best (HNK0.out i hi) (HNK1.out i hi)
  clear S9 S9' St9 HS8 HST HSS HNK0 HNK1 HNK2
  generalize (matF (fun i => bestN (N0 i) (N1 i)) N2 n).length = ns at *
  generalize (matF N0 N2 n).length = nt at *
  obtain ⟨mn, hmn, hmn1, hmn2⟩ : ∃ mn : Nat, min (ns : Int) (nt : Int) = (mn : Int) ∧ mn ≤ ns ∧ mn ≤ nt := ⟨min ns nt, by omega, by omega, by omega⟩
  go_wp2_with fail
  clear hmn
  go_loopw [147] (fun i w' => ∃ k q : Nat, k ≤ mn ∧ i = .int .i64 k ∧ w' = w9.drewN q) (fun i _ => mn - (intOf i).toNat)
  case atStart => exact ⟨0, 0, Nat.zero_le _, rfl, rfl⟩
  case round =>
    obtain ⟨k, q, hk, rfl, rfl⟩ := hrel
    by_cases hlt : k < mn
    · obtain ⟨b, o, b', o', xs, xt, rfl, rfl, hle, d0, d1⟩ := HCE.out k (by omega) (by omega)
      have hk1 : k < ns := by omega
      have hk2 : k < nt := by omega
      have hc : decide (xs < xt) = false := by simp; omega
      clear hle
      go_wp2_with fail
      go_quiet (fail)
      go_wp2
      go_roundw
      case rel => exact ⟨k + 1, _, by omega, by go_num, rfl⟩
      case measure => simp [intOf]; omega
    · have HS10 := Lib.hid (HS9.out.drewN q)
      clear HS9 HCE
      generalize w9.drewN q = w10 at *
      have HGE : Hid (∀ k, k < n → ∃ gs gm bs bm, w10.cell? ⟨bG, k * 2, none⟩ = some (.int .i64 gs) ∧ w10.cell? ⟨bG, k * 2 + 1, none⟩ = some (.string (mkN gm)) ∧ w10.cell? ⟨bB, k * 2, none⟩ = some (.int .i64 bs) ∧ w10.cell? ⟨bB, k * 2 + 1, none⟩ = some (.string (mkN bm)) ∧ (gm = .o → bm = .o ∧ 2 * bs ≤ gs) ∧ -999 ≤ bs ∧ bs ≤ 999) := fun k hk => by
        obtain ⟨b, o, x, e1, hx, c0, c1⟩ := net_elem (HS10.out.row_rd (i := 4) rfl) hk
        obtain ⟨b', o', x', e1', hx', c0', c1'⟩ := net_elem (HS10.out.row_rd (i := 5) rfl) hk
        cases e1
        cases e1'
        rw [nl_at _ hk] at hx hx'
        cases hx
        cases hx'
        rw [Nat.zero_add] at c0 c1 c0' c1'
        exact ⟨_, _, _, _, c0', c1', c0, c1, fun h => agg_best h, (HNB.out k hk).1, (HNB.out k hk).2.1⟩
      go_wp2_with fail
      go_loopw [164] (fun i w' => ∃ k q : Nat, k ≤ n ∧ i = .int .i64 k ∧ w' = w10.drewN q) (fun i _ => n - (intOf i).toNat)
      case atStart => exact ⟨0, 0, Nat.zero_le _, rfl, rfl⟩
      case round =>
        obtain ⟨k, q, hk, rfl, rfl⟩ := hrel
        by_cases hlt : k < n
        · obtain ⟨gs, gm, bs, bm, d0, d1, d2, d3, himp, hb1, hb2⟩ := HGE.out k hlt
          by_cases hgm : gm = .o
          · subst hgm
            obtain ⟨rfl, hle⟩ := himp rfl
            rw [show mkN MK.o = ⟨#[]⟩ from rfl] at d1 d3
            have hw : IntKind.i64.wrap (2 * bs) = 2 * bs := IntWalk.i64_in _ (by omega)
            have hc : decide (gs < 2 * bs) = false := by simp; omega
            clear himp hle
            go_wp2_with fail
            go_quiet (fail)
            go_wp2
            go_roundw
            case rel => exact ⟨k + 1, _, by omega, by go_num, rfl⟩
            case measure => simp [intOf]; omega
          · cases gm
            · exact absurd rfl hgm
            · rw [show mkN MK.x = ⟨#[120]⟩ from rfl] at d1
              clear himp hgm
              go_wp2_with fail
              go_quiet (fail)
              go_wp2
              go_roundw
              case rel => exact ⟨k + 1, _, by omega, by go_num, rfl⟩
              case measure => simp [intOf]; omega
            · rw [show mkN MK.d = ⟨#[45]⟩ from rfl] at d1
              clear himp hgm
              go_wp2_with fail
              go_quiet (fail)
              go_wp2
              go_roundw
              case rel => exact ⟨k + 1, _, by omega, by go_num, rfl⟩
              case measure => simp [intOf]; omega
        · have S11 := (HS10.out.drewN q).sub (L' := [FA, PA, PB, PD]) (.cons_cons _ (.cons_cons _ (.cons_cons _ (.cons_cons _ (.cons _ (.cons _ (List.Sublist.refl _)))))))
          obtain ⟨q0, q1, _, _, _⟩ := HFC.out _ _ S11
          have HLD := Lib.hid (leaders_ok (w10.drewN q) (.slice A n c) (.slice (some ⟨bp, op, none⟩) m cp) n m hs ps HG1.out (H.out.later S11.bel) (HP.out.later S11.bel) HG3.out (by omega))
          have HS11 := Lib.hid S11
          clear S11 HS10 HGE HNB
          generalize w10.drewN q = w11 at *
          go_wp2_with fail
          go_at_call 21
          refine HLD.out.mono ?_
          rintro e w12 ⟨v1, v2, q5, X, Pl, rfl, S12, hX, hPl⟩
          have S13 := HS11.out.call S12
          simp only [List.cons_append, List.nil_append] at S13
          obtain ⟨A1, c1', rfl, _, _, _⟩ := (S13.row_rd (i := 4) rfl).open_
          obtain ⟨A2, c2', rfl, _, _, _⟩ := (S13.row_rd (i := 5) rfl).open_
          have hq63 := (S13.row_rd (i := 4) rfl).le
          have HS13 := Lib.hid S13
          have HX := Lib.hid hX
          have HPL := Lib.hid hPl
          clear S12 S13 HS11 HLD hX hPl q0 q1
          go_wp2_with fail
          go_loopw [213, 23] (fun i v w' => ∃ (k : Nat) (bst : Int), k ≤ q5 ∧ i = .int .i64 k ∧ v = .int .i64 bst ∧ Hid (0 < k → bst = sumTo (stF5 hs ps (X (k - 1))) n) ∧ St W w' [FA, PA, PB, PD, row 3 1 (.slice A1 q5 c1') q5 (intsI (gl (fun a => (X a : Int)) q5)), row 3 1 (.slice A2 q5 c2') q5 (intsI (gl Pl q5))]) (fun i _ _ => q5 - (intOf i).toNat)
          case atStart => exact ⟨0, 0, Nat.zero_le _, rfl, rfl, Lib.hid (fun h => by omega), HS13.out⟩
          case round =>
            obtain ⟨k, bst, hk, rfl, rfl, hbst, S⟩ := hrel
            clear HS13
            by_cases hlt : k < q5
            · have hkq5 : k < q5 := hlt
              obtain ⟨hXm, hXo⟩ := HX.out k hlt
              obtain ⟨q0, q1, _, _, _⟩ := HFC.out _ _ S
              obtain ⟨b1, o1, z1, hz1, _, hzz, d0⟩ := (S.row_rd (i := 4) rfl).at_ hlt
              subst hz1
              unfold intsI at hzz
              rw [List.getElem?_map, gl_at (fun a => (X a : Int)) hlt] at hzz
              cases hzz
              obtain ⟨bx', ox', x, hAx, hx, p0, p1, p2⟩ := (HP.out.later S.bel).elem hXm
              cases hAx
              have hgx := HG3.out.ok (X k) hXm
              have hpl : plN hs ps (X k) = netF hs x.es x.co := by unfold plN; rw [pAt_eq hx]
              rw [pAt_eq hx] at hgx
              obtain ⟨⟨g1, g2', g3, g4⟩, g5⟩ := hgx
              have hmn : x.m = n := g3.trans HL.out.symm
              have HCE : Hid (∀ w, Below W.heap.size W w → CEnv w (.slice A n c) (.slice x.a x.m x.c) n hs x.es x.name) := fun w hb => by
                have := ((HP.out.later hb).2 x (List.mem_of_getElem? hx))
                rw [hmn] at this ⊢
                exact ⟨H.out.later hb, this.1, g1, g2', this.2, by rwa [hmn] at g4⟩
              have hxo : ∀ i, i < n → (eAt x.es i).m ≠ bx ∧ (eAt x.es i).m ≠ bd := fun i hi => by
                have := (allO_iff _ _).1 hXo i hi
                rw [hpl] at this
                exact net_o this
              have hsc : sumTo (fun i => (eAt x.es i).s - givF hs x.co i) n = sumTo (stF5 hs ps (X k)) n := sumTo_congr fun i hi => by
                show _ = (plN hs ps (X k) i).s
                rw [hpl, net_x (hxo i hi)]
              have HSC : Hid (∀ w, Below W.heap.size W w → Calls Tryz.prog 11 #[.slice A n c, .agg #[.string x.name, .slice x.a x.m x.c, .int .i64 x.co]] w fun e w' => e = .returned (.tuple #[.int .i64 (sumTo (stF5 hs ps (X k)) n), .int .i64 0]) ∧ Below w.heap.size w w') := fun w hb => by
                rw [← hsc]
                exact score_ok w _ _ n hs x.es x.name x.co g5 (HCE.out w hb) hxo
              have hle : 0 < k → Pl (k - 1) ≤ Pl k ∧ bst ≤ sumTo (stF5 hs ps (X k)) n := fun h0 => by
                have := HPL.out (k - 1) k (by omega) hlt
                rw [← hbst.out h0] at this
                exact this
              have HNX : Hid (0 < k + 1 → sumTo (stF5 hs ps (X k)) n = sumTo (stF5 hs ps (X (k + 1 - 1))) n) := fun _ => rfl
              clear hx g1 g2' g3 g4 g5 hpl hxo hsc HCE hXo hbst
              obtain ⟨xn, xa, xm, xc, xes, xco⟩ := x
              simp only at p0 p1 p2 HSC hmn
              subst hmn
              generalize sumTo (stF5 hs ps (X k)) xm = sc at *
              have HCW : Hid (∀ w', Below wr.heap.size wr w' → w'.cell? ⟨gc, 0, none⟩ = some (.slice A xm c) ∧ w'.cell? ⟨gc, 1, none⟩ = some (.slice (some ⟨bp, op, none⟩) m cp) ∧ w'.cell? ⟨bp, op + X k * 3, none⟩ = some (.string xn) ∧ w'.cell? ⟨bp, op + X k * 3 + 1, none⟩ = some (.slice xa xm xc) ∧ w'.cell? ⟨bp, op + X k * 3 + 2, none⟩ = some (.int .i64 xco)) := fun w' hb =>
                ⟨(hb.cell (p := ⟨gc, 0, none⟩) (World.block_lt_of_cell? _ _ q0)).trans q0, (hb.cell (p := ⟨gc, 1, none⟩) (World.block_lt_of_cell? _ _ q1)).trans q1, (hb.cell (p := ⟨bp, op + X k * 3, none⟩) (World.block_lt_of_cell? _ _ p0)).trans p0, (hb.cell (p := ⟨bp, op + X k * 3 + 1, none⟩) (World.block_lt_of_cell? _ _ p1)).trans p1, (hb.cell (p := ⟨bp, op + X k * 3 + 2, none⟩) (World.block_lt_of_cell? _ _ p2)).trans p2⟩
              have HS := Lib.hid S
              have hXm' : (X k : Int) < m := by omega
              generalize X k = xk at *
              have hx0 : decide ((xk : Int) < 0) = false := by simp
              have hx1 : decide ((m : Int) ≤ (xk : Int)) = false := by simp; omega
              have hx2 : decide (m ≤ xk) = false := by simp; omega
              clear p0 p1 p2
              by_cases hk0 : k = 0
              · have HK0 : Hid (k = 0) := hk0
                have t0 : decide (0 < k) = false := by simp; omega
                have t0' : decide ((0 : Int) < (k : Int)) = false := by simp; omega
                clear hk0 hle S
                go_wp2_with fail
                go_quiet (fail)
                go_wp2_with fail
                refine wp_cls 12 (fun w' => Below wr.heap.size wr w') (by kernel_rfl) (by kernel_rfl) (below_drewN_self wr _) ?_
                simp only [List.take_succ_cons, List.take_zero, List.drop_succ_cons, List.drop_zero]
                generalize hK : (fun w' => Below wr.heap.size wr w') = K
                intro hne
                have kB : ∀ y : Wd K, Below wr.heap.size wr y.w := by subst hK; exact fun y => y.h
                have hK3 : ∀ w w' : World, K w → Below w.heap.size w w' → K w' := by subst hK; exact fun w w' h h' => h.trans (h'.mono h.size)
                have y0 : ∀ y : Wd K, y.w.cell? ⟨gc, 0, none⟩ = some (.slice A xm c) := fun y => (HCW.out _ (kB y)).1
                have y1 : ∀ y : Wd K, y.w.cell? ⟨gc, 1, none⟩ = some (.slice (some ⟨bp, op, none⟩) m cp) := fun y => (HCW.out _ (kB y)).2.1
                have y2 : ∀ y : Wd K, y.w.cell? ⟨bp, op + xk * 3, none⟩ = some (.string xn) := fun y => (HCW.out _ (kB y)).2.2.1
                have y3 : ∀ y : Wd K, y.w.cell? ⟨bp, op + xk * 3 + 1, none⟩ = some (.slice xa xm xc) := fun y => (HCW.out _ (kB y)).2.2.2.1
                have y4 : ∀ y : Wd K, y.w.cell? ⟨bp, op + xk * 3 + 2, none⟩ = some (.int .i64 xco) := fun y => (HCW.out _ (kB y)).2.2.2.2
                have KB := Lib.hid kB
                clear hK kB
                iterate 7 (go_big_quiet_step ((fail)))
                go_big_quiet_step ((go_at_call 11; exact cls_below hK3 (HSC.out _ (HS.out.bel.trans ((KB.out _).mono HS.out.bel.size)))))
                iterate 4 (go_big_quiet_step ((fail)))
                refine wpQuiet_nil ?_
                intro y
                have HSY := Lib.hid (HS.out.ext (KB.out y))
                clear y0 y1 y2 y3 y4 KB hK3 hne HCW HSC HS
                generalize y.w = w14 at *
                go_wp2_with fail
                go_roundw
                case rel => exact ⟨k + 1, sc, by omega, by go_num, rfl, HNX, HSY.out⟩
                case measure => simp [intOf]; omega
              · have hle2 := hle (by omega)
                have t0 : decide (0 < k) = true := by simp; omega
                have t0' : decide ((0 : Int) < (k : Int)) = true := by simp; omega
                obtain ⟨kp, hkp⟩ : ∃ kp, kp = k - 1 := ⟨_, rfl⟩
                have hkm : (k : Int) - 1 = (kp : Int) := by omega
                have hkpq : kp < q5 := by omega
                have hkw : IntKind.i64.wrap ((k : Int) - 1) = (kp : Int) := by rw [hkm]; exact IntWalk.i64_in _ (by omega)
                obtain ⟨b2, o2, z2, hz2, _, hzz2, d1⟩ := (S.row_rd (i := 5) rfl).at_ hkq5
                subst hz2
                unfold intsI at hzz2
                rw [List.getElem?_map, gl_at Pl hkq5] at hzz2
                cases hzz2
                have d2 := rd_cellI (S.row_rd (i := 5) rfl) (gl_at Pl hkpq)
                rw [← hkp] at hle2
                have hc1 : decide (Pl k < Pl kp) = false := by simp; omega
                have hc2 : decide (sc < bst) = false := by simp; omega
                clear hkp hle hle2 S
                generalize Pl k = pk at *
                generalize Pl kp = pkp at *
                go_wp2_with fail
                go_quiet (fail)
                go_wp2_with fail
                refine wp_cls 12 (fun w' => Below wr.heap.size wr w') (by kernel_rfl) (by kernel_rfl) (below_drewN_self wr _) ?_
                simp only [List.take_succ_cons, List.take_zero, List.drop_succ_cons, List.drop_zero]
                generalize hK : (fun w' => Below wr.heap.size wr w') = K
                intro hne
                have kB : ∀ y : Wd K, Below wr.heap.size wr y.w := by subst hK; exact fun y => y.h
                have hK3 : ∀ w w' : World, K w → Below w.heap.size w w' → K w' := by subst hK; exact fun w w' h h' => h.trans (h'.mono h.size)
                have y0 : ∀ y : Wd K, y.w.cell? ⟨gc, 0, none⟩ = some (.slice A xm c) := fun y => (HCW.out _ (kB y)).1
                have y1 : ∀ y : Wd K, y.w.cell? ⟨gc, 1, none⟩ = some (.slice (some ⟨bp, op, none⟩) m cp) := fun y => (HCW.out _ (kB y)).2.1
                have y2 : ∀ y : Wd K, y.w.cell? ⟨bp, op + xk * 3, none⟩ = some (.string xn) := fun y => (HCW.out _ (kB y)).2.2.1
                have y3 : ∀ y : Wd K, y.w.cell? ⟨bp, op + xk * 3 + 1, none⟩ = some (.slice xa xm xc) := fun y => (HCW.out _ (kB y)).2.2.2.1
                have y4 : ∀ y : Wd K, y.w.cell? ⟨bp, op + xk * 3 + 2, none⟩ = some (.int .i64 xco) := fun y => (HCW.out _ (kB y)).2.2.2.2
                have KB := Lib.hid kB
                clear hK kB
                iterate 7 (go_big_quiet_step ((fail)))
                go_big_quiet_step ((go_at_call 11; exact cls_below hK3 (HSC.out _ (HS.out.bel.trans ((KB.out _).mono HS.out.bel.size)))))
                iterate 4 (go_big_quiet_step ((fail)))
                refine wpQuiet_nil ?_
                intro y
                have HSY := Lib.hid (HS.out.ext (KB.out y))
                clear y0 y1 y2 y3 y4 KB hK3 hne HCW HSC HS
                generalize y.w = w14 at *
                go_wp2_with fail
                go_roundw
                case rel => exact ⟨k + 1, sc, by omega, by go_num, rfl, HNX, HSY.out⟩
                case measure => simp [intOf]; omega
            · obtain rfl : q5 = k := by omega
              have HBZ := Lib.hid S.bel
              clear S
              go_wp2_with (go_at_call 7; refine (HLR.out _ HBZ.out).mono ?_; rintro e w' ⟨rfl, hb4⟩; have HB4 := Lib.hid hb4; clear hb4)
              go_ret
              exact ⟨rfl, HB4.out⟩
end Go.Proofs.YtbakoldmfpbnaaaGreatDoor
