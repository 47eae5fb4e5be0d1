/- Part 7 of the walks of the golf union's program: A15. -/
import Derived.Test.YtcofdandmihilaaDoorB06
set_option linter.unusedVariables false
set_option linter.unusedSimpArgs false
set_option linter.unusedSectionVars false
set_option linter.constructorNameAsVariable false
/- TopAdjusted: the fixed example. -/
namespace Go.Proofs.YtcofdandmihilaaDoor
open Go.RowKit Go.Mem Go.Sheet Go.Adj
set_option maxHeartbeats 400000 in
theorem sameInts_any (w : World) (F F' : Nat → Prop) (va vb : Value) (a b : List Int) (ha : Rd w F 1 va a.length (a.map (Value.int .i64))) (hb : Rd w F' 1 vb b.length (b.map (Value.int .i64))) :
    Calls Tryd.prog 15 #[va, vb] w fun r w' => r = .returned (.bool (decide (a = b))) ∧ ∃ n, w' = w.drewN n := by
  generalize HL : a.length = n at *
  generalize HM : b.length = m at *
  have hn := ha.le
  have hm := hb.le
  obtain ⟨A, c, rfl, _, _, ha⟩ := ha.open_
  obtain ⟨A', c', rfl, _, _, hb⟩ := hb.open_
  have HL := Lib.hid HL
  have HM := Lib.hid HM
  go_enter Tryd.func15, Tryd.ntmps15
  by_cases hnm : n = m
  · subst hnm
    go_wp2
    go_loopw [5] (fun i w' => ∃ (k q : Nat), k ≤ n ∧ i = .int .i64 k ∧ w' = w.drewN q ∧ Hid (∀ j, j < k → a[j]? = b[j]?)) (fun i _ => n - (intOf i).toNat)
    case atStart => exact ⟨0, 0, Nat.zero_le _, rfl, rfl, fun j hj => by omega⟩
    case round =>
      obtain ⟨k, q, hk, rfl, rfl, he⟩ := hrel
      by_cases hlt : k < n
      · obtain ⟨b1, o, x, rfl, hx, hc⟩ := ha.int hlt
        obtain ⟨b2, o2, y, rfl, hy, hd⟩ := hb.int hlt
        have HX := Lib.hid hx
        have HY := Lib.hid hy
        clear hx hy
        go_wp2_with fail
        go_quiet (fail)
        go_wp2
        · go_ret
          exact ⟨ret_bool (by
            have hne : x ≠ y := by simpa using ‹(x != y) = true›
            rw [eq_comm, decide_eq_false_iff_not]
            rintro rfl
            exact hne (Option.some.inj (HX.out.symm.trans HY.out))), _, World.drewN_drewN _ _ _⟩
        · go_roundw
          case rel => exact ⟨k + 1, _, by omega, by go_num, rfl, fun j hj => by
            by_cases e : j = k
            · subst e; rw [HX.out, HY.out, show x = y by simpa using ‹(x != y) = false›]
            · exact he.out j (by omega)⟩
          case measure => simp [intOf]; omega
      · go_wp2
        go_ret
        exact ⟨ret_bool (by
          rw [eq_comm, decide_eq_true_iff]
          refine List.ext_getElem? fun j => ?_
          by_cases hj : j < k
          · exact he.out j hj
          · rw [List.getElem?_eq_none (by have := HL.out; omega), List.getElem?_eq_none (by have := HM.out; omega)]), q, rfl⟩
  · have hne : ((n : Int) != (m : Int)) = true := by simp; omega
    have HNE := Lib.hid hnm
    clear hnm
    go_wp2
    go_ret
    exact ⟨ret_bool (by
      rw [eq_comm, decide_eq_false_iff_not]
      rintro rfl
      exact HNE.out (HL.out.symm.trans HM.out)), 0, rfl⟩
def hsC : List HI := [⟨4, 2⟩, ⟨3, 4⟩, ⟨5, 1⟩, ⟨4, 3⟩]
def esC : List EI := [⟨5, ⟨#[]⟩⟩, ⟨4, ⟨#[]⟩⟩, ⟨7, ⟨#[]⟩⟩, ⟨0, ⟨#[120]⟩⟩]
def annB : ByteArray := ⟨#[97, 110, 110]⟩
theorem goodC : GoodH hsC := ⟨by decide, by decide, by decide, fun i k hi hk => (by decide : ∀ i, i < 4 → ∀ k, k < i → (hAt hsC k).idx ≠ (hAt hsC i).idx) i hi k hk⟩
theorem playC : ∀ i, i < 4 → PlayE (eAt esC i)
  | 0, _ => .inl ⟨.inl rfl, by decide, by decide⟩
  | 1, _ => .inl ⟨.inl rfl, by decide, by decide⟩
  | 2, _ => .inl ⟨.inl rfl, by decide, by decide⟩
  | 3, _ => .inr ⟨rfl, rfl⟩
  | n + 4, h => by omega
theorem nameC : nameB annB = true := by decide
theorem envC {w : World} {F F' : Nat → Prop} {gh ge : Nat} (h1 : Rd w F 2 (.slice (some ⟨gh, 0, none⟩) 4 4) 4 (hsC.flatMap HI.cells)) (h2 : Rd w F' 2 (.slice (some ⟨ge, 0, none⟩) 4 4) 4 (esC.flatMap EI.cells)) :
    CEnv w (.slice (some ⟨gh, 0, none⟩) 4 4) (.slice (some ⟨ge, 0, none⟩) 4 4) 4 hsC esC annB := ⟨h1.now, h2.now, goodC, nameC, by decide, playC⟩
theorem adjC : sumTo (adjF hsC esC 6) 4 = 23 := by decide
theorem ptsC : gl (ptsF hsC esC 6) 4 = [3, 2, 2, 0] := by decide
theorem caddieHoles_any (W : World) : Calls Tryd.prog 14 #[] W fun e w' => ∃ g, e = .returned (.slice (some ⟨g, 0, none⟩) 4 4) ∧ St W w' [row 32 2 (.slice (some ⟨g, 0, none⟩) 4 4) 4 (hsC.flatMap HI.cells)] := by
  have S := (St.refl W).row_new (e := 32) (size := 2) (n := 4) #[.int .i64 4, .int .i64 2, .int .i64 3, .int .i64 4, .int .i64 5, .int .i64 1, .int .i64 4, .int .i64 3] (by decide) rfl
  have HS := Lib.hid S
  clear S
  go_enter Tryd.func14, Tryd.ntmps14
  go_wp2
  go_ret
  exact ⟨_, rfl, HS.out⟩
set_option maxRecDepth 100000 in
set_option maxHeartbeats 8000000 in
theorem caddie_any (W : World) : Calls Tryd.prog 6 #[] W fun e w' => e = .returned (.bool true) ∧ Below W.heap.size W w' := by
  have S0 := ((St.refl W).row_new (e := 30) (size := 2) (n := 4) #[.int .i64 5, .string ⟨#[]⟩, .int .i64 4, .string ⟨#[]⟩, .int .i64 7, .string ⟨#[]⟩, .int .i64 0, .string ⟨#[120]⟩] (by decide) rfl).blk_new #[.string annB, .slice (some ⟨W.heap.size, 0, none⟩) 4 4] 25
  have e1 : (W.alloc (.cells #[.int .i64 5, .string ⟨#[]⟩, .int .i64 4, .string ⟨#[]⟩, .int .i64 7, .string ⟨#[]⟩, .int .i64 0, .string ⟨#[120]⟩] 30)).heap.size = W.heap.size + 1 := by simp
  rw [e1] at S0
  simp only [List.cons_append, List.nil_append] at S0
  change St W _ [row 30 2 (.slice (some ⟨W.heap.size, 0, none⟩) 4 4) 4 (esC.flatMap EI.cells), blk (W.heap.size + 1) 25 #[.string annB, .slice (some ⟨W.heap.size, 0, none⟩) 4 4]] at S0
  clear e1
  go_enter Tryd.func6, Tryd.ntmps6
  go_wp2_with fail
  change Code.wp _ _ _ _ ((W.alloc (.cells #[.int .i64 5, .string ⟨#[]⟩, .int .i64 4, .string ⟨#[]⟩, .int .i64 7, .string ⟨#[]⟩, .int .i64 0, .string ⟨#[120]⟩] 30)).alloc (.cells #[.string annB, .slice (some ⟨W.heap.size, 0, none⟩) 4 4] 25))
  generalize (W.alloc (.cells #[.int .i64 5, .string ⟨#[]⟩, .int .i64 4, .string ⟨#[]⟩, .int .i64 7, .string ⟨#[]⟩, .int .i64 0, .string ⟨#[120]⟩] 30)).alloc (.cells #[.string annB, .slice (some ⟨W.heap.size, 0, none⟩) 4 4] 25) = W1 at S0 ⊢
  generalize hgc : W.heap.size + 1 = gc at S0 ⊢
  generalize W.heap.size = g0 at S0 ⊢
  clear hgc
  refine wp_head_tail3 0 7 6 [] [1] rfl (fun w' => w'.cell? ⟨gc, 0, none⟩ = some (.string annB) ∧ w'.cell? ⟨gc, 1, none⟩ = some (.slice (some ⟨g0, 0, none⟩) 4 4))
    (fun a a' w' => ∃ (gh : Nat), a' = ((((((a.put (some 13) (.slice (some ⟨gh, 0, none⟩) 4 4)).put (some 15) (.tuple #[.int .i64 23, .int .i64 0])).put (some 12) (.tuple #[.int .i64 23, .int .i64 0])).put (some 16) (.int .i64 23)).put (some 17) (.int .i64 0)).put (some 2) (.int .i64 23)) ∧ St W w' [row 30 2 (.slice (some ⟨g0, 0, none⟩) 4 4) 4 (esC.flatMap EI.cells), blk gc 25 #[.string annB, .slice (some ⟨g0, 0, none⟩) 4 4]]) (by kernel_rfl) (by kernel_rfl) ⟨S0.blk_cell (i := 1) rfl 0, S0.blk_cell (i := 1) rfl 1⟩ ?_
  simp only [pick, List.filterMap_cons, List.filterMap_nil, List.getElem?_toArray, List.getElem?_cons_succ, List.getElem?_cons_zero]
  generalize hK : (fun w' : World => w'.cell? ⟨gc, 0, none⟩ = some (.string annB) ∧ w'.cell? ⟨gc, 1, none⟩ = some (.slice (some ⟨g0, 0, none⟩) 4 4)) = K
  have k0 : ∀ y : Wd K, y.w.cell? ⟨gc, 0, none⟩ = some (.string annB) := by subst hK; exact fun y => y.h.1
  have k1 : ∀ y : Wd K, y.w.cell? ⟨gc, 1, none⟩ = some (.slice (some ⟨g0, 0, none⟩) 4 4) := by subst hK; exact fun y => y.h.2
  have hKd : ∀ (w' : World) (L : List Asr), St W w' (row 30 2 (.slice (some ⟨g0, 0, none⟩) 4 4) 4 (esC.flatMap EI.cells) :: blk gc 25 #[.string annB, .slice (some ⟨g0, 0, none⟩) 4 4] :: L) → K w' := by
    intro w' L h
    subst hK
    exact ⟨h.blk_cell (i := 1) rfl 0, h.blk_cell (i := 1) rfl 1⟩
  have S0 := S0.drew
  have hne : Nonempty (Wd K) := ⟨⟨_, hKd _ _ S0⟩⟩
  clear hK
  generalize World.drew _ = w0 at *
  refine wpQuiet_nil ?_
  change wpQuiet _ _ _ _ (_ :: []) _
  repeat (go_big_quiet_step ((fail)))
  refine wpQuiet_nil ?_
  clear k0 k1 hne
  refine ⟨?_, ?_⟩
  · as_aux_lemma =>
    refine headW_all (rs := [0]) (by kernel_rfl) (by decide) (by decide) (List.forall_mem_cons.2 ⟨?_, List.forall_mem_nil _⟩)
    refine wpOp_list (o := _) rfl ?_
    intro Q' hQ'
    go_wp2_with (go_at_call 14; refine (caddieHoles_any _).mono ?_; rintro e wh ⟨gh, rfl, Sh⟩)
    have SH := S0.call Sh
    simp only [List.cons_append, List.nil_append] at SH
    refine ⟨hKd _ _ SH, ?_⟩
    refine headW_all (rs := [2]) (by kernel_rfl) (by decide) (by decide) (List.forall_mem_cons.2 ⟨?_, List.forall_mem_nil _⟩)
    refine wpOp_list (o := _) rfl ?_
    intro Q' hQ'
    have HCA := adjusted_ok _ _ _ 4 hsC esC annB 6 ⟨by decide, by decide⟩ (envC (SH.row_rd (i := 2) rfl) (SH.row_rd (i := 0) rfl))
    rw [adjC] at HCA
    go_wp2_with (go_at_call 7; refine HCA.mono ?_; rintro e wa ⟨rfl, hba⟩)
    have SA := SH.ext hba
    refine ⟨hKd _ _ SA, ?_⟩
    refine headW_all (rs := [3]) (by kernel_rfl) (by decide) (by decide) (List.forall_mem_cons.2 ⟨?_, List.forall_mem_nil _⟩)
    refine wpOp_list (o := _) rfl ?_
    intro Q' hQ'
    go_wp2_with fail
    refine ⟨hKd _ _ SA, ?_⟩
    refine headW_all (rs := [4, 5]) (by kernel_rfl) (by decide) (by decide) (List.forall_mem_cons.2 ⟨?_, List.forall_mem_cons.2 ⟨?_, List.forall_mem_nil _⟩⟩)
    · as_aux_lemma =>
      refine wpOp_list (o := _) rfl ?_
      intro Q' hQ'
      go_wp2_with fail
      refine ⟨hKd _ _ SA, ?_⟩
      refine headW_all (rs := [5, 6]) (by kernel_rfl) (by decide) (by decide) (List.forall_mem_cons.2 ⟨?_, List.forall_mem_cons.2 ⟨?_, List.forall_mem_nil _⟩⟩)
      · as_aux_lemma =>
        refine wpOp_list (o := _) rfl ?_
        intro Q' hQ'
        go_wp2_with fail
        refine ⟨hKd _ _ SA, ?_⟩
        refine headW_all (rs := [6]) (by kernel_rfl) (by decide) (by decide) (List.forall_mem_cons.2 ⟨?_, List.forall_mem_nil _⟩)
        refine wpOp_list (o := _) rfl ?_
        intro Q' hQ'
        go_wp2_with fail
        refine ⟨hKd _ _ SA, ?_⟩
        exact ⟨by kernel_rfl, gh, by kernel_rfl, SA.sub (L' := [_, _]) (List.sublist_append_left [_, _] [_])⟩
      · as_aux_lemma =>
        refine wpOp_list (o := _) rfl ?_
        intro Q' hQ'
        go_wp2_with fail
        refine ⟨hKd _ _ SA, ?_⟩
        refine headW_all (rs := [5]) (by kernel_rfl) (by decide) (by decide) (List.forall_mem_cons.2 ⟨?_, List.forall_mem_nil _⟩)
        refine wpOp_list (o := _) rfl ?_
        intro Q' hQ'
        go_wp2_with fail
        refine ⟨hKd _ _ SA, ?_⟩
        exact ⟨by kernel_rfl, gh, by kernel_rfl, SA.sub (L' := [_, _]) (List.sublist_append_left [_, _] [_])⟩
    · as_aux_lemma =>
      refine wpOp_list (o := _) rfl ?_
      intro Q' hQ'
      go_wp2_with fail
      refine ⟨hKd _ _ SA, ?_⟩
      refine headW_all (rs := [4]) (by kernel_rfl) (by decide) (by decide) (List.forall_mem_cons.2 ⟨?_, List.forall_mem_nil _⟩)
      refine wpOp_list (o := _) rfl ?_
      intro Q' hQ'
      go_wp2_with fail
      refine ⟨hKd _ _ SA, ?_⟩
      refine headW_all (rs := [6]) (by kernel_rfl) (by decide) (by decide) (List.forall_mem_cons.2 ⟨?_, List.forall_mem_nil _⟩)
      refine wpOp_list (o := _) rfl ?_
      intro Q' hQ'
      go_wp2_with fail
      refine ⟨hKd _ _ SA, ?_⟩
      exact ⟨by kernel_rfl, gh, by kernel_rfl, SA.sub (L' := [_, _]) (List.sublist_append_left [_, _] [_])⟩
  rintro a' w2 ⟨gh, rfl, S2⟩
  clear hKd S0
  have S0 := S2
  clear S2
  go_wp2_with fail
  refine NoPanic.normal ?_
  go_wp2_with fail
  refine wp_head_tail3 0 8 7 [] [1] rfl (fun w' => w'.cell? ⟨gc, 0, none⟩ = some (.string annB) ∧ w'.cell? ⟨gc, 1, none⟩ = some (.slice (some ⟨g0, 0, none⟩) 4 4))
    (fun a a' w' => ∃ (gh : Nat) (vp : Value), a' = (((((((a.put (some 19) (.slice (some ⟨gh, 0, none⟩) 4 4)).put (some 21) (.agg #[.string annB, .slice (some ⟨g0, 0, none⟩) 4 4, .int .i64 6])).put (some 22) (.tuple #[vp, .int .i64 0])).put (some 18) (.tuple #[vp, .int .i64 0])).put (some 23) vp).put (some 24) (.int .i64 0)).put (some 4) vp) ∧ St W w' [row 30 2 (.slice (some ⟨g0, 0, none⟩) 4 4) 4 (esC.flatMap EI.cells), blk gc 25 #[.string annB, .slice (some ⟨g0, 0, none⟩) 4 4], row 3 1 vp 4 (intsI [3, 2, 2, 0])]) (by kernel_rfl) (by kernel_rfl) ⟨S0.blk_cell (i := 1) rfl 0, S0.blk_cell (i := 1) rfl 1⟩ ?_
  simp only [pick, List.filterMap_cons, List.filterMap_nil, List.getElem?_toArray, List.getElem?_cons_succ, List.getElem?_cons_zero]
  generalize hK : (fun w' : World => w'.cell? ⟨gc, 0, none⟩ = some (.string annB) ∧ w'.cell? ⟨gc, 1, none⟩ = some (.slice (some ⟨g0, 0, none⟩) 4 4)) = K
  have k0 : ∀ y : Wd K, y.w.cell? ⟨gc, 0, none⟩ = some (.string annB) := by subst hK; exact fun y => y.h.1
  have k1 : ∀ y : Wd K, y.w.cell? ⟨gc, 1, none⟩ = some (.slice (some ⟨g0, 0, none⟩) 4 4) := by subst hK; exact fun y => y.h.2
  have hKd : ∀ (w' : World) (L : List Asr), St W w' (row 30 2 (.slice (some ⟨g0, 0, none⟩) 4 4) 4 (esC.flatMap EI.cells) :: blk gc 25 #[.string annB, .slice (some ⟨g0, 0, none⟩) 4 4] :: L) → K w' := by
    intro w' L h
    subst hK
    exact ⟨h.blk_cell (i := 1) rfl 0, h.blk_cell (i := 1) rfl 1⟩
  have S0 := S0.drew
  have hne : Nonempty (Wd K) := ⟨⟨_, hKd _ _ S0⟩⟩
  clear hK
  generalize World.drew _ = w0 at *
  refine wpQuiet_nil ?_
  change wpQuiet _ _ _ _ (_ :: []) _
  repeat (go_big_quiet_step ((fail)))
  refine wpQuiet_nil ?_
  clear k0 k1 hne
  refine ⟨?_, ?_⟩
  · as_aux_lemma =>
    refine headW_all (rs := [0, 2]) (by kernel_rfl) (by decide) (by decide) (List.forall_mem_cons.2 ⟨?_, List.forall_mem_cons.2 ⟨?_, List.forall_mem_nil _⟩⟩)
    · as_aux_lemma =>
      refine wpOp_list (o := _) rfl ?_
      intro Q' hQ'
      go_wp2_with (go_at_call 14; refine (caddieHoles_any _).mono ?_; rintro e wh ⟨gh, rfl, Sh⟩)
      have SH := S0.call Sh
      simp only [List.cons_append, List.nil_append] at SH
      refine ⟨hKd _ _ SH, ?_⟩
      refine headW_all (rs := [2]) (by kernel_rfl) (by decide) (by decide) (List.forall_mem_cons.2 ⟨?_, List.forall_mem_nil _⟩)
      refine wpOp_list (o := _) rfl ?_
      intro Q' hQ'
      go_wp2_with fail
      refine ⟨hKd _ _ SH, ?_⟩
      refine headW_all (rs := [3]) (by kernel_rfl) (by decide) (by decide) (List.forall_mem_cons.2 ⟨?_, List.forall_mem_nil _⟩)
      refine wpOp_list (o := _) rfl ?_
      intro Q' hQ'
      have HCP := points_ok _ _ _ 4 hsC esC annB 6 ⟨by decide, by decide⟩ (envC (SH.row_rd (i := 2) rfl) (SH.row_rd (i := 0) rfl))
      rw [ptsC] at HCP
      go_wp2_with (go_at_call 8; refine HCP.mono ?_; rintro e wp ⟨vp, rfl, Sp⟩)
      have SP := SH.call Sp
      simp only [List.cons_append, List.nil_append] at SP
      refine ⟨hKd _ _ SP, ?_⟩
      refine headW_all (rs := [4]) (by kernel_rfl) (by decide) (by decide) (List.forall_mem_cons.2 ⟨?_, List.forall_mem_nil _⟩)
      refine wpOp_list (o := _) rfl ?_
      intro Q' hQ'
      go_wp2_with fail
      refine ⟨hKd _ _ SP, ?_⟩
      refine headW_all (rs := [5, 6]) (by kernel_rfl) (by decide) (by decide) (List.forall_mem_cons.2 ⟨?_, List.forall_mem_cons.2 ⟨?_, List.forall_mem_nil _⟩⟩)
      · as_aux_lemma =>
        refine wpOp_list (o := _) rfl ?_
        intro Q' hQ'
        go_wp2_with fail
        refine ⟨hKd _ _ SP, ?_⟩
        refine headW_all (rs := [6, 7]) (by kernel_rfl) (by decide) (by decide) (List.forall_mem_cons.2 ⟨?_, List.forall_mem_cons.2 ⟨?_, List.forall_mem_nil _⟩⟩)
        · as_aux_lemma =>
          refine wpOp_list (o := _) rfl ?_
          intro Q' hQ'
          go_wp2_with fail
          refine ⟨hKd _ _ SP, ?_⟩
          refine headW_all (rs := [7]) (by kernel_rfl) (by decide) (by decide) (List.forall_mem_cons.2 ⟨?_, List.forall_mem_nil _⟩)
          refine wpOp_list (o := _) rfl ?_
          intro Q' hQ'
          go_wp2_with fail
          refine ⟨hKd _ _ SP, ?_⟩
          exact ⟨by kernel_rfl, gh, vp, by kernel_rfl, SP.sub (L' := [_, _, _]) ((List.Sublist.refl [_, _]).append (List.sublist_append_right [_] [_]))⟩
        · as_aux_lemma =>
          refine wpOp_list (o := _) rfl ?_
          intro Q' hQ'
          go_wp2_with fail
          refine ⟨hKd _ _ SP, ?_⟩
          refine headW_all (rs := [6]) (by kernel_rfl) (by decide) (by decide) (List.forall_mem_cons.2 ⟨?_, List.forall_mem_nil _⟩)
          refine wpOp_list (o := _) rfl ?_
          intro Q' hQ'
          go_wp2_with fail
          refine ⟨hKd _ _ SP, ?_⟩
          exact ⟨by kernel_rfl, gh, vp, by kernel_rfl, SP.sub (L' := [_, _, _]) ((List.Sublist.refl [_, _]).append (List.sublist_append_right [_] [_]))⟩
      · as_aux_lemma =>
        refine wpOp_list (o := _) rfl ?_
        intro Q' hQ'
        go_wp2_with fail
        refine ⟨hKd _ _ SP, ?_⟩
        refine headW_all (rs := [5]) (by kernel_rfl) (by decide) (by decide) (List.forall_mem_cons.2 ⟨?_, List.forall_mem_nil _⟩)
        refine wpOp_list (o := _) rfl ?_
        intro Q' hQ'
        go_wp2_with fail
        refine ⟨hKd _ _ SP, ?_⟩
        refine headW_all (rs := [7]) (by kernel_rfl) (by decide) (by decide) (List.forall_mem_cons.2 ⟨?_, List.forall_mem_nil _⟩)
        refine wpOp_list (o := _) rfl ?_
        intro Q' hQ'
        go_wp2_with fail
        refine ⟨hKd _ _ SP, ?_⟩
        exact ⟨by kernel_rfl, gh, vp, by kernel_rfl, SP.sub (L' := [_, _, _]) ((List.Sublist.refl [_, _]).append (List.sublist_append_right [_] [_]))⟩
    · as_aux_lemma =>
      refine wpOp_list (o := _) rfl ?_
      intro Q' hQ'
      go_wp2_with fail
      refine ⟨hKd _ _ S0, ?_⟩
      refine headW_all (rs := [0]) (by kernel_rfl) (by decide) (by decide) (List.forall_mem_cons.2 ⟨?_, List.forall_mem_nil _⟩)
      refine wpOp_list (o := _) rfl ?_
      intro Q' hQ'
      go_wp2_with (go_at_call 14; refine (caddieHoles_any _).mono ?_; rintro e wh ⟨gh, rfl, Sh⟩)
      have SH := S0.call Sh
      simp only [List.cons_append, List.nil_append] at SH
      refine ⟨hKd _ _ SH, ?_⟩
      refine headW_all (rs := [3]) (by kernel_rfl) (by decide) (by decide) (List.forall_mem_cons.2 ⟨?_, List.forall_mem_nil _⟩)
      refine wpOp_list (o := _) rfl ?_
      intro Q' hQ'
      have HCP := points_ok _ _ _ 4 hsC esC annB 6 ⟨by decide, by decide⟩ (envC (SH.row_rd (i := 2) rfl) (SH.row_rd (i := 0) rfl))
      rw [ptsC] at HCP
      go_wp2_with (go_at_call 8; refine HCP.mono ?_; rintro e wp ⟨vp, rfl, Sp⟩)
      have SP := SH.call Sp
      simp only [List.cons_append, List.nil_append] at SP
      refine ⟨hKd _ _ SP, ?_⟩
      refine headW_all (rs := [4]) (by kernel_rfl) (by decide) (by decide) (List.forall_mem_cons.2 ⟨?_, List.forall_mem_nil _⟩)
      refine wpOp_list (o := _) rfl ?_
      intro Q' hQ'
      go_wp2_with fail
      refine ⟨hKd _ _ SP, ?_⟩
      refine headW_all (rs := [5, 6]) (by kernel_rfl) (by decide) (by decide) (List.forall_mem_cons.2 ⟨?_, List.forall_mem_cons.2 ⟨?_, List.forall_mem_nil _⟩⟩)
      · as_aux_lemma =>
        refine wpOp_list (o := _) rfl ?_
        intro Q' hQ'
        go_wp2_with fail
        refine ⟨hKd _ _ SP, ?_⟩
        refine headW_all (rs := [6, 7]) (by kernel_rfl) (by decide) (by decide) (List.forall_mem_cons.2 ⟨?_, List.forall_mem_cons.2 ⟨?_, List.forall_mem_nil _⟩⟩)
        · as_aux_lemma =>
          refine wpOp_list (o := _) rfl ?_
          intro Q' hQ'
          go_wp2_with fail
          refine ⟨hKd _ _ SP, ?_⟩
          refine headW_all (rs := [7]) (by kernel_rfl) (by decide) (by decide) (List.forall_mem_cons.2 ⟨?_, List.forall_mem_nil _⟩)
          refine wpOp_list (o := _) rfl ?_
          intro Q' hQ'
          go_wp2_with fail
          refine ⟨hKd _ _ SP, ?_⟩
          exact ⟨by kernel_rfl, gh, vp, by kernel_rfl, SP.sub (L' := [_, _, _]) ((List.Sublist.refl [_, _]).append (List.sublist_append_right [_] [_]))⟩
        · as_aux_lemma =>
          refine wpOp_list (o := _) rfl ?_
          intro Q' hQ'
          go_wp2_with fail
          refine ⟨hKd _ _ SP, ?_⟩
          refine headW_all (rs := [6]) (by kernel_rfl) (by decide) (by decide) (List.forall_mem_cons.2 ⟨?_, List.forall_mem_nil _⟩)
          refine wpOp_list (o := _) rfl ?_
          intro Q' hQ'
          go_wp2_with fail
          refine ⟨hKd _ _ SP, ?_⟩
          exact ⟨by kernel_rfl, gh, vp, by kernel_rfl, SP.sub (L' := [_, _, _]) ((List.Sublist.refl [_, _]).append (List.sublist_append_right [_] [_]))⟩
      · as_aux_lemma =>
        refine wpOp_list (o := _) rfl ?_
        intro Q' hQ'
        go_wp2_with fail
        refine ⟨hKd _ _ SP, ?_⟩
        refine headW_all (rs := [5]) (by kernel_rfl) (by decide) (by decide) (List.forall_mem_cons.2 ⟨?_, List.forall_mem_nil _⟩)
        refine wpOp_list (o := _) rfl ?_
        intro Q' hQ'
        go_wp2_with fail
        refine ⟨hKd _ _ SP, ?_⟩
        refine headW_all (rs := [7]) (by kernel_rfl) (by decide) (by decide) (List.forall_mem_cons.2 ⟨?_, List.forall_mem_nil _⟩)
        refine wpOp_list (o := _) rfl ?_
        intro Q' hQ'
        go_wp2_with fail
        refine ⟨hKd _ _ SP, ?_⟩
        exact ⟨by kernel_rfl, gh, vp, by kernel_rfl, SP.sub (L' := [_, _, _]) ((List.Sublist.refl [_, _]).append (List.sublist_append_right [_] [_]))⟩
  rintro a' w3 ⟨gh2, vp, rfl, S3⟩
  clear hKd S0
  have HS := Lib.hid S3
  have hvp := S3.row_rd (i := 2) rfl
  obtain ⟨Ap, cp, rfl, _, _, _⟩ := hvp.open_
  clear hvp S3
  go_wp2_with fail
  refine NoPanic.normal ?_
  have SE := HS.out.row_new (e := 3) (size := 1) (n := 4) #[.int .i64 3, .int .i64 2, .int .i64 2, .int .i64 0] (by decide) rfl
  simp only [List.cons_append, List.nil_append] at SE
  have HSE := Lib.hid SE
  have HSI := Lib.hid (sameInts_any _ _ _ _ _ [3, 2, 2, 0] [3, 2, 2, 0] (SE.row_rd (i := 2) rfl) (SE.row_rd (i := 3) rfl))
  clear SE
  go_wp2_with (go_at_call 15; refine HSI.out.mono ?_; rintro e w5 ⟨rfl, q, rfl⟩)
  go_ret
  exact ⟨rfl, (HSE.out.drewN q).bel⟩
end Go.Proofs.YtcofdandmihilaaDoor
