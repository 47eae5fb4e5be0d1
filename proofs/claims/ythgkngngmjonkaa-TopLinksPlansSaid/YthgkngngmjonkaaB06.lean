/- Part 6 of the walks of the golf union's program: KG. -/
import Derived.Test.YthgkngngmjonkaaB05
set_option linter.unusedVariables false
set_option linter.unusedSimpArgs false
set_option linter.unusedSectionVars false
set_option linter.constructorNameAsVariable false
/- TopLinksPlans: Rounds. -/
namespace Go.Proofs.Ythgkngngmjonkaa
open Go.RowKit Go.Mem Go.Sheet Go.Plan
set_option maxRecDepth 100000 in
set_option maxHeartbeats 400000 in
theorem idx_Int (W : World) (v : Value) (n : Nat) (l : List Int) (g : Nat) (eg : Enters Try.prog g) (cap : Array Value) (I : World → Prop) (p : Int → Bool)
    (hrd : ∀ w, I w → Rd w (fun _ => True) 1 v n (l.map (Value.int .i64))) (hI : I W)
    (hC : ∀ (k : Nat) x w, l[k]? = some x → I w → Calls Try.prog g (#[.int .i64 x] ++ cap) w fun e w' => e = .returned (.bool (p x)) ∧ I w') :
    Calls Try.prog 30 #[v, .func (.func g) #[] cap] W fun e w' => e = .returned (.int .i64 (idxF p 0 l)) ∧ I w' := by
  unfold Enters at eg
  have h0 := hrd W hI
  have hn := h0.le
  have HL := Lib.hid (h0.count1)
  obtain ⟨A, c, rfl, _, _, _⟩ := h0.open_
  clear h0
  go_enter Try.func30, Try.ntmps30
  go_wp2
  go_loopw [8] (fun i w => ∃ k : Nat, k ≤ n ∧ i = .int .i64 k ∧ I w ∧ Hid (idxF p k (l.drop k) = idxF p 0 l)) (fun i _ => n - (intOf i).toNat)
  case atStart => exact ⟨0, Nat.zero_le _, rfl, hI, rfl⟩
  case round =>
    obtain ⟨k, hk, rfl, hI', he⟩ := hrel
    by_cases hlt : k < n
    · obtain ⟨b, o, x, rfl, hx, c0⟩ := (hrd wr hI').int hlt
      have HX := Lib.hid hx
      have HI := Lib.hid hI'
      clear hx hI'
      go_wp2_with fail
      refine (hC k x _ HX.out HI.out).mono ?_
      rintro e w' ⟨rfl, h1⟩
      go_wp2
      · go_ret
        exact ⟨by rw [← idxF_stop HX.out ‹p x = true› he.out]; rfl, h1⟩
      · go_roundw
        case rel => exact ⟨k + 1, by omega, by go_num, h1, idxF_go HX.out ‹p x = false› he.out⟩
        case measure => simp [intOf]; omega
    · go_wp2
      go_ret
      obtain rfl : k = n := by omega
      exact ⟨by rw [← idxF_end (Nat.le_of_eq HL.out.symm) he.out]; rfl, hI'⟩
theorem rounds1_any (w : World) (bx : Nat) (limit n : Int) (hc : w.cell? ⟨bx, 0, none⟩ = some (.int .i64 limit)) :
    Calls Try.prog 18 #[.int .i64 n, .pointer (some ⟨bx, 0, none⟩)] w fun e w' => e = .returned (.bool (decide (n < 1) || decide (limit < n))) ∧ w = w' := by
  go_enter Try.func18, Try.ntmps18
  go_wp2_with (go_at_call 19; refine (outside_any _ _ _ _).mono ?_; rintro e w' ⟨rfl, rfl⟩)
  go_ret
  exact ⟨rfl, rfl⟩
theorem anyInt_any (W : World) (v : Value) (n : Nat) (l : List Int) (g : Nat) (eg : Enters Try.prog g) (cap : Array Value) (p : Int → Bool) (I : World → Prop) (hrd : ∀ w, I w → Rd w (fun _ => True) 1 v n (l.map (Value.int .i64))) (hI : I W)
    (hC : ∀ (W : World) (n : Int), I W → Calls Try.prog g (#[.int .i64 n] ++ cap) W fun e w' => e = .returned (.bool (p n)) ∧ W = w') :
    Calls Try.prog 17 #[v, .func (.func g) #[] cap] W fun e w' => e = .returned (.bool (l.any p)) ∧ I w' := by
  have HC := Lib.hid (idx_Int W v n l g eg cap I p hrd hI (fun k x w _ hw => (hC w x hw).mono fun e w' ⟨h1, h2⟩ => ⟨h1, h2 ▸ hw⟩))
  have HA := Lib.hid (idxF_any p l 0)
  obtain ⟨A, c, rfl, _, _, _⟩ := (hrd W hI).open_
  generalize idxF p 0 l = ix at *
  go_enter Try.func17, Try.ntmps17
  go_wp2_with fail
  refine HC.out.mono ?_
  rintro e w2 ⟨rfl, hb⟩
  go_wp2
  go_ret
  exact ⟨ret_bool HA.out, hb⟩
/-- what a call of fill leaves -/
def RndR (w w' : World) (limit : Int) (n q : Nat) (fs : List Int) (v : Value) (b : Bool) : Prop :=
  Below w.heap.size w w' ∧ ((b = true ∧ ∃ ks, fillF limit fs (zeros q) = some ks ∧ Rd w' (· < w'.heap.size) 1 v n (intsI (natI ks))) ∨ (b = false ∧ fillF limit fs (zeros q) = none))
set_option maxRecDepth 100000 in
set_option maxHeartbeats 4000000 in
theorem rounds_any (W : World) (vf : Value) (n : Nat) (fs : List Int) (limit : Int) (hf : Rd W (· < W.heap.size) 1 vf n (intsI fs)) (hn : 1 ≤ n ∧ n ≤ 8) (hlim : 1 ≤ limit ∧ limit ≤ 1000000) (hfs : ∀ x ∈ fs, 1 ≤ x ∧ x ≤ limit) :
    Calls Try.prog 8 #[vf, .int .i64 limit] W fun e w' => Below W.heap.size W w' ∧ ∃ v' ks c, e = .returned (.tuple #[v', .int .i64 0]) ∧ 1 ≤ c ∧ c ≤ n ∧ fillF limit fs (zeros c) = some ks ∧ (∀ q, 1 ≤ q → q < c → fillF limit fs (zeros q) = none) ∧ Rd w' (· < w'.heap.size) 1 v' n (intsI (natI ks)) := by
  have HFL := Lib.hid hf.count1
  have HF := Lib.hid hf
  have HFS := Lib.hid hfs
  have hany : fs.any (fun x => decide (x < 1) || decide (limit < x)) = false := by
    rw [List.any_eq_false]
    intro x hx
    have := hfs x hx
    simp; omega
  have HC : Hid (∀ w : World, St W w [blk W.heap.size 3 #[.int .i64 limit]] → Calls Try.prog 17 #[vf, .func (.func 18) #[] #[.pointer (some ⟨W.heap.size, 0, none⟩)]] w fun e w' => e = .returned (.bool false) ∧ St W w' [blk W.heap.size 3 #[.int .i64 limit]]) := by
    intro w hw
    have h1 := anyInt_any w vf n fs 18 (enters Try.func18 (by kernel_rfl) rfl) #[.pointer (some ⟨W.heap.size, 0, none⟩)] (fun x => decide (x < 1) || decide (limit < x)) (fun w' => St W w' [blk W.heap.size 3 #[.int .i64 limit]])
      (fun w' h => (hf.below h.bel).mono fun _ _ _ => trivial) hw (fun w' n h => rounds1_any w' W.heap.size limit n (h.blk_cell (i := 0) rfl 0))
    rw [hany] at h1
    exact h1
  obtain ⟨A, cf, rfl, _, _, _⟩ := hf.open_
  clear hf hfs hany
  have hE := enters Try.func18 (by kernel_rfl) rfl
  unfold Enters at hE
  go_enter Try.func8, Try.ntmps8
  have S0 := (St.refl W).blk_new #[.int .i64 limit] 3
  go_wp2_with fail
  refine (HC.out _ S0).mono ?_
  rintro e w1 ⟨rfl, S1⟩
  clear S0
  have HS1 := Lib.hid S1
  clear HC S1
  go_wp2_with fail
  have b0 := HS1.out.blk_cell (i := 0) rfl 0
  have HO : Hid (∀ w, Calls Try.prog 19 #[.int .i64 limit, .int .i64 1, .int .i64 999999999] w fun r w' => r = .returned (.bool false) ∧ w = w') := fun w => by
    have e : (decide (limit < 1) || decide (999999999 < limit)) = false := by simp; omega
    have := outside_any limit 1 999999999 w
    rwa [e] at this
  have t1 : ((n : Int) == 0) = false := by simp; omega
  have t1' : (n == 0) = false := by simp; omega
  have t2 : decide (8 < (n : Int)) = false := by simp; omega
  have t2' : decide (8 < n) = false := by simp; omega
  refine wp_cls 14 (fun w' => St W w' [blk W.heap.size 3 #[.int .i64 limit]]) (by kernel_rfl) (by kernel_rfl) HS1.out.drew ?_
  simp only [List.take_succ_cons, List.take_zero, List.drop_succ_cons, List.drop_zero]
  generalize hK : (fun w' => St W w' [blk W.heap.size 3 #[.int .i64 limit]]) = K
  intro hne
  have kb : ∀ y : Wd K, St W y.w [blk W.heap.size 3 #[.int .i64 limit]] := by subst hK; exact fun y => y.h
  have k0 : ∀ y : Wd K, y.w.cell? ⟨W.heap.size, 0, none⟩ = some (.int .i64 limit) := fun y => (kb y).blk_cell (i := 0) rfl 0
  clear hK b0
  iterate 3 (go_big_quiet_step ((fail)))
  go_big_quiet_step ((go_at_call 16; exact cls_same (when_any _ _ _)))
  iterate 3 (go_big_quiet_step ((fail)))
  go_big_quiet_step ((go_at_call 16; exact cls_same (when_any _ _ _)))
  iterate 1 (go_big_quiet_step ((fail)))
  go_big_quiet_step ((go_at_call 19; exact cls_same (HO.out _)))
  iterate 3 (go_big_quiet_step ((fail)))
  go_big_quiet_step ((go_at_call 16; exact cls_same (when_any _ _ _)))
  refine wpQuiet_nil ?_
  intro y
  have hy := kb y
  clear k0 kb hne
  generalize y.w = w2 at hy ⊢
  clear y
  have HY := Lib.hid hy
  clear hy HS1 HO
  have hz : fst [whenE false 12, whenE false 22, whenE false 3] = 0 := rfl
  go_wp2_with (go_at_call 20; refine (first3 _ _ (whenE false 12) (whenE false 22) (whenE false 3) (by simp) (by simp) (by simp) (by simp)).mono ?_; rw [hz]; rintro e w' ⟨rfl, rfl⟩)
  have S3 := HY.out.alloc (.cells #[.int .i64 (whenE false 12), .int .i64 (whenE false 22), .int .i64 (whenE false 3)] 30)
  generalize w2.alloc (.cells #[.int .i64 (whenE false 12), .int .i64 (whenE false 22), .int .i64 (whenE false 3)] 30) = w3 at S3 ⊢
  have HS3 := Lib.hid S3
  clear S3 HY
  have HALLF := Lib.hid (fill_all (limit := limit) (fs := fs) (fun f h => ⟨by have := HFS.out f h; omega, (HFS.out f h).2⟩) (by omega))
  rw [← HFL.out] at HALLF
  go_loopw [8] (fun r_ w' => ∃ q : Nat, 1 ≤ q ∧ q ≤ n ∧ r_ = .int .i64 q ∧ St W w' [blk W.heap.size 3 #[.int .i64 limit]] ∧ Hid (∀ j, 1 ≤ j → j < q → fillF limit fs (zeros j) = none)) (fun r_ _ => n - (intOf r_).toNat)
  case atStart => exact ⟨1, Nat.le_refl _, by omega, rfl, HS3.out, fun j h1 h2 => absurd h1 (by omega)⟩
  case round =>
    obtain ⟨q, hq1, hqn, rfl, S, hall⟩ := hrel
    clear HS3
    have HS := Lib.hid S
    have b0 := S.blk_cell (i := 0) rfl 0
    clear S
    go_wp2_with fail
    refine wp_head_tail3 0 9 6 [] [0, 1, 2] rfl (fun w' => w'.cell? ⟨W.heap.size, 0, none⟩ = some (.int .i64 limit))
      (fun a a' w' => ∃ (g : Nat) (v : Value) (b : Bool), a' = ((((((a.put (some 39) (.slice (some ⟨g, 0, none⟩) q q)).put (some 40) (.tuple #[v, .bool b])).put (some 35) (.tuple #[v, .bool b])).put (some 41) v).put (some 42) (.bool b)).put (some 9) v) ∧ RndR wr w' limit n q fs v b) (by kernel_rfl) (by kernel_rfl) b0 ?_
    simp only [pick, List.filterMap_cons, List.filterMap_nil, List.getElem?_toArray, List.getElem?_cons_succ, List.getElem?_cons_zero]
    have SD := Lib.hid HS.out.drew
    have HB0 := Lib.hid b0
    generalize hK : (fun w' : World => w'.cell? ⟨W.heap.size, 0, none⟩ = some (.int .i64 limit)) = K
    have kK : ∀ y : Wd K, y.w.cell? ⟨W.heap.size, 0, none⟩ = some (.int .i64 limit) := by subst hK; exact fun y => y.h
    have hne : Nonempty (Wd K) := ⟨⟨wr.drew, by subst hK; exact b0⟩⟩
    have hKd : ∀ (w' : World) (L : List Asr), St W w' (blk W.heap.size 3 #[.int .i64 limit] :: L) → K w' := by
      intro w' L h
      subst hK
      exact h.blk_cell (i := 0) rfl 0
    clear hK b0
    have HDR : Hid (Below wr.heap.size wr wr.drew) := (Below.refl _ _).drew
    have HDS : Hid (wr.drew.heap.size = wr.heap.size) := rfl
    generalize wr.drew = w4 at *
    refine wpQuiet_nil ?_
    change wpQuiet _ _ _ _ (_ :: _ :: _ :: []) _
    repeat (go_big_quiet_step ((fail)))
    refine wpQuiet_nil ?_
    have S4 := SD.out
    clear SD kK
    refine ⟨?_, ?_⟩
    · as_aux_lemma =>
      refine headW_all (rs := [3]) (by kernel_rfl) (by decide) (by decide) (List.forall_mem_cons.2 ⟨?_, List.forall_mem_nil _⟩)
      refine wpOp_list (o := _) rfl ?_
      intro Q' hQ'
      refine wpList_make_st eltI rfl _ _ rfl (n := q) rfl rfl S4 (by omega) (by omega) ?_
      intro w5 g S5 hg5 hb5
      have hmc : (madeCells (Value.int .i64 0).cells (q * 1)).toList = intsI (zeros q) := by
        show (madeCells #[.int .i64 0] (q * 1)).toList = _
        rw [toList_madeCells_one, Nat.mul_one]
        simp [intsI, zeros]
      rw [hmc] at S5
      simp only [List.cons_append, List.nil_append] at S5
      have hblk := row_block S5 (i := 1) rfl
      have hfn : RdG w5 g (.slice A n cf) n (intsI ([] ++ fs)) := (HF.out.below S5.bel).mono fun b hb1 hb2 => ⟨by have h1 := HS.out.size; have h2 := HDS.out; omega, hb1⟩
      have hln : RdG w5 g (.slice none 0 0) ([] : List Nat).length (intsI (natI [])) := Rd.nil _ _ _
      have HCALL := Lib.hid (fill_any limit (by omega) n q g (by omega) (by omega) (.slice A n cf) fs [] w5 (zeros q) [] (.slice none 0 0) HFL.out.symm (fun x hx => by have := HFS.out x hx; omega) rfl (by simp [zeros]) (fun x hx => by rw [zeros, List.mem_replicate] at hx; omega) hblk hfn hln)
      have HB5 : Hid (Below wr.heap.size wr w5) := HDR.out.trans (by rw [← HDS.out]; exact hb5)
      have HG5 : Hid (wr.heap.size ≤ g) := by show _ ≤ _; rw [← HDS.out]; exact hg5
      go_wp2_with fail
      refine ⟨hKd _ _ S5, ?_⟩
      clear hblk hfn hln S5 hb5 hg5 S4 hne hmc
      refine headW_all (rs := [4]) (by kernel_rfl) (by decide) (by decide) (List.forall_mem_cons.2 ⟨?_, List.forall_mem_nil _⟩)
      refine wpOp_list (o := _) rfl ?_
      intro Q' hQ'
      go_wp2_with fail
      refine HCALL.out.mono ?_
      rintro e w6 ⟨hgr, hcase⟩
      have hb6 : Below wr.heap.size wr w6 := HB5.out.grown hgr HB5.out.size (fun k hk => by cases hk; exact HG5.out)
      obtain ⟨v, b, rfl, hR⟩ : ∃ v b, e = .returned (.tuple #[v, .bool b]) ∧ RndR wr w6 limit n q fs v b := by
        rcases hcase with ⟨v', ks', rfl, hks, hrd⟩ | ⟨rfl, hks, _⟩
        · exact ⟨v', true, rfl, hb6, .inl ⟨rfl, ks', hks, hrd.mono fun b hb _ => hb⟩⟩
        · exact ⟨_, false, rfl, hb6, .inr ⟨rfl, hks⟩⟩
      have hK6 : K w6 := hKd _ [] (HS.out.ext hb6)
      clear hgr hcase hb6 HCALL HB5 HG5 HS HDR HDS HB0 hKd
      go_wp2_with fail
      refine ⟨hK6, ?_⟩
      refine headW_all (rs := [5]) (by kernel_rfl) (by decide) (by decide) (List.forall_mem_cons.2 ⟨?_, List.forall_mem_nil _⟩)
      refine wpOp_list (o := _) rfl ?_
      intro Q' hQ'
      go_wp2_with fail
      refine ⟨hK6, ?_⟩
      refine headW_all (rs := [6, 7]) (by kernel_rfl) (by decide) (by decide) (List.forall_mem_cons.2 ⟨?_, List.forall_mem_cons.2 ⟨?_, List.forall_mem_nil _⟩⟩)
      · as_aux_lemma =>
        refine wpOp_list (o := _) rfl ?_
        intro Q' hQ'
        go_wp2_with fail
        refine ⟨hK6, ?_⟩
        refine headW_all (rs := [7, 8]) (by kernel_rfl) (by decide) (by decide) (List.forall_mem_cons.2 ⟨?_, List.forall_mem_cons.2 ⟨?_, List.forall_mem_nil _⟩⟩)
        · refine wpOp_list (o := _) rfl ?_
          intro Q' hQ'
          go_wp2_with fail
          refine ⟨hK6, ?_⟩
          refine headW_all (rs := [8]) (by kernel_rfl) (by decide) (by decide) (List.forall_mem_cons.2 ⟨?_, List.forall_mem_nil _⟩)
          refine wpOp_list (o := _) rfl ?_
          intro Q' hQ'
          go_wp2_with fail
          refine ⟨hK6, ?_⟩
          exact ⟨by kernel_rfl, g, v, b, by kernel_rfl, hR⟩
        · refine wpOp_list (o := _) rfl ?_
          intro Q' hQ'
          go_wp2_with fail
          refine ⟨hK6, ?_⟩
          refine headW_all (rs := [7]) (by kernel_rfl) (by decide) (by decide) (List.forall_mem_cons.2 ⟨?_, List.forall_mem_nil _⟩)
          refine wpOp_list (o := _) rfl ?_
          intro Q' hQ'
          go_wp2_with fail
          refine ⟨hK6, ?_⟩
          exact ⟨by kernel_rfl, g, v, b, by kernel_rfl, hR⟩
      · as_aux_lemma =>
        refine wpOp_list (o := _) rfl ?_
        intro Q' hQ'
        go_wp2_with fail
        refine ⟨hK6, ?_⟩
        refine headW_all (rs := [6]) (by kernel_rfl) (by decide) (by decide) (List.forall_mem_cons.2 ⟨?_, List.forall_mem_nil _⟩)
        refine wpOp_list (o := _) rfl ?_
        intro Q' hQ'
        go_wp2_with fail
        refine ⟨hK6, ?_⟩
        refine headW_all (rs := [8]) (by kernel_rfl) (by decide) (by decide) (List.forall_mem_cons.2 ⟨?_, List.forall_mem_nil _⟩)
        refine wpOp_list (o := _) rfl ?_
        intro Q' hQ'
        go_wp2_with fail
        refine ⟨hK6, ?_⟩
        exact ⟨by kernel_rfl, g, v, b, by kernel_rfl, hR⟩
    · rintro a' w6 ⟨g, v, b, rfl, hb6, (⟨rfl, ks', hks, hrd⟩ | ⟨rfl, hks⟩)⟩
      · have HFIN := Lib.hid (HS.out.ext hb6).bel
        have HRD := Lib.hid hrd
        have HKS := Lib.hid hks
        clear hks hrd hb6 HS S4 hKd hne
        go_wp2_with fail
        refine NoPanic.normal ?_
        go_wp2_with fail
        go_ret2
        exact ⟨HFIN.out, v, ks', q, rfl, hq1, hqn, HKS.out, hall.out, HRD.out⟩
      · have HFIN := Lib.hid (HS.out.ext hb6)
        have HKS := Lib.hid hks
        have hqlt : q < n := by
          rcases Nat.lt_or_ge q n with h | h
          · exact h
          · obtain rfl : q = n := by omega
            exact absurd HKS.out HALLF.out
        clear hks hb6 HS S4 hKd hne
        go_wp2_with fail
        refine NoPanic.normal ?_
        go_wp2_with fail
        go_roundw
        case rel => exact ⟨q + 1, by omega, by omega, by go_num, HFIN.out, fun j h1 h2 => by
          rcases Nat.lt_or_ge j q with h | h
          · exact hall.out j h1 h
          · obtain rfl : j = q := by omega
            exact HKS.out⟩
        case measure => simp [intOf]; omega
end Go.Proofs.Ythgkngngmjonkaa
