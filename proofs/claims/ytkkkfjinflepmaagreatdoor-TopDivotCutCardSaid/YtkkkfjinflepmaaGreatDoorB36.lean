/- Part 36 of the walks of the golf union's program: DP3. -/
import Derived.Test.YtkkkfjinflepmaaGreatDoorB35
import Derived.Test.YtkkkfjinflepmaaGreatDoorB19
import Derived.Test.YtkkkfjinflepmaaGreatDoorB02
import Derived.Laws.EntriesVeiled
set_option linter.unusedVariables false
set_option linter.unusedSimpArgs false
set_option linter.unusedSectionVars false
set_option linter.constructorNameAsVariable false
/- Chapter 7: the check of a field of lines with one score (printed by gen_line.py). -/
namespace Go.Proofs.YtkkkfjinflepmaaGreatDoor
open Go.RowKit Go.Mem Go.Sheet Go.Adj
theorem field11_any (x : Int) (hx : 1 ≤ x ∧ x ≤ 9999) (w : World) : Calls Tryz.prog 88 #[.int .i64 x] w fun e w' => e = .returned (.bool false) ∧ w = w' := by
  have t1 : decide (x < 1) = false := decide_eq_false (by omega)
  have t2 : decide ((9999 : Int) < x) = false := decide_eq_false (by omega)
  go_enter Tryz.func88, Tryz.ntmps88
  go_wp2
  go_ret
  exact ⟨rfl, rfl⟩
theorem idxStr0 (w : World) (g : Nat) (h0 : w.cell? ⟨g, 0, none⟩ = some (.string ⟨#[]⟩)) :
    Calls Tryz.prog 115 #[.slice (some ⟨g, 0, none⟩) 4 4, .string ⟨#[]⟩] w fun r w' => r = .returned (.int .i64 0) ∧ w = w' := by
  go_enter Tryz.func115, Tryz.ntmps115
  go_wp2
  go_loop [8] (fun i => i = .int .i64 0) (fun _ => 0)
  case atStart => rfl
  case round =>
    subst hrel
    go_wp2
    go_ret
    exact ⟨rfl, rfl⟩
theorem hasStr0 (w : World) (g : Nat) (h0 : w.cell? ⟨g, 0, none⟩ = some (.string ⟨#[]⟩)) :
    Calls Tryz.prog 89 #[.slice (some ⟨g, 0, none⟩) 4 4, .string ⟨#[]⟩] w fun r w' => r = .returned (.bool true) ∧ w = w' := by
  have HI := Lib.hid (idxStr0 w g h0)
  clear h0
  go_enter Tryz.func89, Tryz.ntmps89
  go_wp2_with fail
  go_at_call 115
  refine HI.out.mono ?_
  rintro e w' ⟨rfl, rfl⟩
  go_wp2_with fail
  go_ret
  exact ⟨rfl, rfl⟩
theorem eventOk4 (w : World) (g : Nat) (hg : g < w.heap.size) (h0 : w.cell? ⟨g, 0, none⟩ = some (.int .i64 0)) (h1 : w.cell? ⟨g, 1, none⟩ = some (.int .i64 0)) (h2 : w.cell? ⟨g, 2, none⟩ = some (.int .i64 0)) (h3 : w.cell? ⟨g, 3, none⟩ = some (.int .i64 0)) :
    Calls Tryz.prog 37 #[.slice (some ⟨g, 0, none⟩) 4 4] w fun r w' => r = .returned (.int .i64 0) ∧ w = w' :=
  eventFirst_any w (fun _ => True) _ 4 [0, 0, 0, 0] (rd_cells hg (by simp) fun j u hu => by
    match j, hu with
    | 0, hu => cases hu; exact h0
    | 1, hu => cases hu; exact h1
    | 2, hu => cases hu; exact h2
    | 3, hu => cases hu; exact h3)
set_option maxRecDepth 100000 in
set_option maxHeartbeats 4000000 in
theorem checkLine_ok (W w : World) (b gp k : Nat) (f : Nat → ByteArray) (x : LnI) (S : St W w [mapS b (seenE f k) k, blk gp 110 #[.map (some b)]]) (hx : 1 ≤ x.s ∧ x.s ≤ 9999) (h : Rd w (· < w.heap.size) 1 (.slice x.a 1 x.c) 1 [.int .i64 x.s])
    (hs : nameB x.name = true) (hsz : x.name.size ≤ 9223372036854775807) (hf : f k = x.name) (hne : ∀ j, j < k → f j ≠ x.name) :
    Calls Tryz.prog 87 #[x.val, .pointer (some ⟨gp, 0, none⟩)] w fun e w' => e = .returned (.int .i64 0) ∧ St W w' [mapS b (seenE f (k + 1)) (k + 1), blk gp 110 #[.map (some b)]] := by
  have HAN : Hid (∀ w', Below w.heap.size w w' → Calls Tryz.prog 72 #[.slice x.a 1 x.c, .func (.func 88) #[] #[]] w' fun e w2 => e = .returned (.bool false) ∧ w' = w2) := fun w' hw => by
    have := anyI5 w' _ _ 1 [x.s] 88 (enters Tryz.func88 (by kernel_rfl) rfl) (fun _ => false) (h.later hw) (fun y w hy => field11_any y (by rw [List.mem_singleton.1 hy]; exact hx) w)
    simpa using this
  have HNC : Hid (∀ w' L, St W w' (mapS b (seenE f k) k :: L) → Calls Tryz.prog 51 #[.map (some b), .string x.name] w' fun e w2 => e = .returned (.int .i64 0) ∧ St W w2 (mapS b (seenE f (k + 1)) (k + 1) :: L)) := fun w' L hw => namesCheck_ok W w' _ 0 b k f x.name hw rfl hs hsz hf hne
  obtain ⟨nx, ax, cx, sx⟩ := x
  unfold LnI.val
  simp only at HAN HNC ⊢
  generalize mapS b (seenE f k) k = MA at *
  generalize mapS b (seenE f (k + 1)) (k + 1) = MB at *
  clear hx h hs hsz hf hne
  obtain ⟨gl, hgl⟩ : ∃ gl, gl = w.heap.size := ⟨_, rfl⟩
  have S1 := S.blk_new #[.string nx, .bool false, .slice ax 1 cx, .string ⟨#[]⟩] 89
  simp only [List.cons_append, List.nil_append] at S1
  rw [← hgl] at S1
  have HB1 : Hid (Below w.heap.size w (w.alloc (.cells #[.string nx, .bool false, .slice ax 1 cx, .string ⟨#[]⟩] 89))) := (Below.refl _ _).alloc (Nat.le_refl _) _
  have HS1 := Lib.hid S1
  clear S S1
  go_enter Tryz.func87, Tryz.ntmps87
  go_wp2_with fail
  rw [← hgl]
  generalize w.alloc (.cells #[.string nx, .bool false, .slice ax 1 cx, .string ⟨#[]⟩] 89) = w1 at *
  clear hgl
  have d2 := HS1.out.blk_cell (i := 2) rfl 2
  have d3 := HS1.out.blk_cell (i := 2) rfl 3
  go_wp2_with fail
  go_at_call 72
  refine (HAN.out _ HB1.out).mono ?_
  rintro e w2 ⟨rfl, rfl⟩
  have HS2 := Lib.hid (HS1.out.alloc (.cells #[.string ⟨#[]⟩, .string ⟨#[111, 117, 116]⟩, .string ⟨#[100, 105, 115]⟩, .string ⟨#[99, 117, 116]⟩] 9))
  clear HAN HB1 HS1 d2 d3
  have d3 := HS2.out.blk_cell (i := 2) rfl 3
  go_wp2_with (go_at_call 89; refine (hasStr0 _ _ (by simp)).mono ?_; rintro e w' ⟨rfl, rfl⟩)
  generalize w1.alloc (.cells #[.string ⟨#[]⟩, .string ⟨#[111, 117, 116]⟩, .string ⟨#[100, 105, 115]⟩, .string ⟨#[99, 117, 116]⟩] 9) = w3 at *
  clear d3
  have SD := HS2.out.drew
  refine wp_head_tail3 0 14 5 [] [0, 1, 2, 4, 5, 6, 7, 9, 11] rfl (fun w' => ∃ M, St W w' [M, blk gp 110 #[.map (some b)], blk gl 89 #[.string nx, .bool false, .slice ax 1 cx, .string ⟨#[]⟩]])
    (fun a a' w' => a' = ((((a.put (some 16) (.int .i64 0)).put (some 21) (.int .i64 0)).put (some 23) (.int .i64 0)).put (some 25) (.bool false)).put (some 26) (.int .i64 0) ∧ St W w' [MB, blk gp 110 #[.map (some b)], blk gl 89 #[.string nx, .bool false, .slice ax 1 cx, .string ⟨#[]⟩]]) (by kernel_rfl) (by kernel_rfl) ⟨_, SD⟩ ?_
  simp only [pick, List.filterMap_cons, List.filterMap_nil, List.getElem?_toArray, List.getElem?_cons_succ, List.getElem?_cons_zero]
  generalize hK : (fun w' : World => ∃ M, St W w' [M, blk gp 110 #[.map (some b)], blk gl 89 #[.string nx, .bool false, .slice ax 1 cx, .string ⟨#[]⟩]]) = K
  have kK : ∀ y : Wd K, ∃ M, St W y.w [M, blk gp 110 #[.map (some b)], blk gl 89 #[.string nx, .bool false, .slice ax 1 cx, .string ⟨#[]⟩]] := by subst hK; exact fun y => y.h
  have hKd : ∀ (w' : World) (M : Asr), St W w' [M, blk gp 110 #[.map (some b)], blk gl 89 #[.string nx, .bool false, .slice ax 1 cx, .string ⟨#[]⟩]] → K w' := by subst hK; exact fun _ M h => ⟨M, h⟩
  have hne : Nonempty (Wd K) := ⟨⟨_, hKd _ _ SD⟩⟩
  have y0 : ∀ y : Wd K, y.w.cell? ⟨gp, 0, none⟩ = some (.map (some b)) := fun y => (kK y).choose_spec.blk_cell (i := 1) rfl 0
  have y1 : ∀ y : Wd K, y.w.cell? ⟨gl, 0, none⟩ = some (.string nx) := fun y => (kK y).choose_spec.blk_cell (i := 2) rfl 0
  have y2 : ∀ y : Wd K, y.w.cell? ⟨gl, 2, none⟩ = some (.slice ax 1 cx) := fun y => (kK y).choose_spec.blk_cell (i := 2) rfl 2
  have HSD := Lib.hid SD
  clear hK kK SD HS2
  generalize World.drew _ = w4 at *
  refine wpQuiet_nil ?_
  change wpQuiet _ _ _ _ (_ :: _ :: _ :: _ :: _ :: _ :: _ :: _ :: _ :: []) _
  repeat (go_big_quiet_step ((fail)))
  refine wpQuiet_nil ?_
  clear y0 y1 y2
  refine ⟨?_, ?_⟩
  · as_aux_lemma =>
    refine headW_all (rs := [3, 12]) (by kernel_rfl) (by decide) (by decide) (List.forall_mem_cons.2 ⟨?_, List.forall_mem_cons.2 ⟨?_, List.forall_mem_nil _⟩⟩)
    · as_aux_lemma =>
      refine wpOp_list (o := _) rfl ?_
      intro Q' hQ'
      go_wp2_with (go_at_call 51; refine (HNC.out _ _ HSD.out).mono ?_; rintro e w5 ⟨rfl, S5⟩)
      have hk5 := hKd _ _ S5
      refine ⟨hk5, ?_⟩
      refine headW_all (rs := [8, 12]) (by kernel_rfl) (by decide) (by decide) (List.forall_mem_cons.2 ⟨?_, List.forall_mem_cons.2 ⟨?_, List.forall_mem_nil _⟩⟩)
      · as_aux_lemma =>
        refine wpOp_list (o := _) rfl ?_
        intro Q' hQ'
        go_wp2_with (go_at_call 52; refine (eventNo _ _).mono ?_; rintro e w' ⟨rfl, rfl⟩)
        refine ⟨hk5, ?_⟩
        refine headW_all (rs := [10, 12]) (by kernel_rfl) (by decide) (by decide) (List.forall_mem_cons.2 ⟨?_, List.forall_mem_cons.2 ⟨?_, List.forall_mem_nil _⟩⟩)
        · as_aux_lemma =>
          refine wpOp_list (o := _) rfl ?_
          intro Q' hQ'
          go_wp2_with (go_at_call 52; refine (eventNo _ _).mono ?_; rintro e w' ⟨rfl, rfl⟩)
          refine ⟨hk5, ?_⟩
          refine headW_all (rs := [12]) (by kernel_rfl) (by decide) (by decide) (List.forall_mem_cons.2 ⟨?_, List.forall_mem_nil _⟩)
          · as_aux_lemma =>
            refine wpOp_list (o := _) rfl ?_
            intro Q' hQ'
            go_wp2_with fail
            refine ⟨hk5, ?_⟩
            refine headW_all (rs := [13]) (by kernel_rfl) (by decide) (by decide) (List.forall_mem_cons.2 ⟨?_, List.forall_mem_nil _⟩)
            · as_aux_lemma =>
              refine wpOp_list (o := _) rfl ?_
              intro Q' hQ'
              go_wp2_with (go_at_call 52; refine (eventNo _ _).mono ?_; rintro e w' ⟨rfl, rfl⟩)
              refine ⟨hk5, ?_⟩
              exact ⟨by kernel_rfl, by kernel_rfl, S5⟩
        · as_aux_lemma =>
          refine wpOp_list (o := _) rfl ?_
          intro Q' hQ'
          go_wp2_with fail
          refine ⟨hk5, ?_⟩
          refine headW_all (rs := [10]) (by kernel_rfl) (by decide) (by decide) (List.forall_mem_cons.2 ⟨?_, List.forall_mem_nil _⟩)
          · as_aux_lemma =>
            refine wpOp_list (o := _) rfl ?_
            intro Q' hQ'
            go_wp2_with (go_at_call 52; refine (eventNo _ _).mono ?_; rintro e w' ⟨rfl, rfl⟩)
            refine ⟨hk5, ?_⟩
            refine headW_all (rs := [13]) (by kernel_rfl) (by decide) (by decide) (List.forall_mem_cons.2 ⟨?_, List.forall_mem_nil _⟩)
            · as_aux_lemma =>
              refine wpOp_list (o := _) rfl ?_
              intro Q' hQ'
              go_wp2_with (go_at_call 52; refine (eventNo _ _).mono ?_; rintro e w' ⟨rfl, rfl⟩)
              refine ⟨hk5, ?_⟩
              exact ⟨by kernel_rfl, by kernel_rfl, S5⟩
      · as_aux_lemma =>
        refine wpOp_list (o := _) rfl ?_
        intro Q' hQ'
        go_wp2_with fail
        refine ⟨hk5, ?_⟩
        refine headW_all (rs := [8]) (by kernel_rfl) (by decide) (by decide) (List.forall_mem_cons.2 ⟨?_, List.forall_mem_nil _⟩)
        · as_aux_lemma =>
          refine wpOp_list (o := _) rfl ?_
          intro Q' hQ'
          go_wp2_with (go_at_call 52; refine (eventNo _ _).mono ?_; rintro e w' ⟨rfl, rfl⟩)
          refine ⟨hk5, ?_⟩
          refine headW_all (rs := [10]) (by kernel_rfl) (by decide) (by decide) (List.forall_mem_cons.2 ⟨?_, List.forall_mem_nil _⟩)
          · as_aux_lemma =>
            refine wpOp_list (o := _) rfl ?_
            intro Q' hQ'
            go_wp2_with (go_at_call 52; refine (eventNo _ _).mono ?_; rintro e w' ⟨rfl, rfl⟩)
            refine ⟨hk5, ?_⟩
            refine headW_all (rs := [13]) (by kernel_rfl) (by decide) (by decide) (List.forall_mem_cons.2 ⟨?_, List.forall_mem_nil _⟩)
            · as_aux_lemma =>
              refine wpOp_list (o := _) rfl ?_
              intro Q' hQ'
              go_wp2_with (go_at_call 52; refine (eventNo _ _).mono ?_; rintro e w' ⟨rfl, rfl⟩)
              refine ⟨hk5, ?_⟩
              exact ⟨by kernel_rfl, by kernel_rfl, S5⟩
    · as_aux_lemma =>
      refine wpOp_list (o := _) rfl ?_
      intro Q' hQ'
      go_wp2_with fail
      refine ⟨hKd _ _ HSD.out, ?_⟩
      refine headW_all (rs := [3]) (by kernel_rfl) (by decide) (by decide) (List.forall_mem_cons.2 ⟨?_, List.forall_mem_nil _⟩)
      · as_aux_lemma =>
        refine wpOp_list (o := _) rfl ?_
        intro Q' hQ'
        go_wp2_with (go_at_call 51; refine (HNC.out _ _ HSD.out).mono ?_; rintro e w5 ⟨rfl, S5⟩)
        have hk5 := hKd _ _ S5
        refine ⟨hk5, ?_⟩
        refine headW_all (rs := [8]) (by kernel_rfl) (by decide) (by decide) (List.forall_mem_cons.2 ⟨?_, List.forall_mem_nil _⟩)
        · as_aux_lemma =>
          refine wpOp_list (o := _) rfl ?_
          intro Q' hQ'
          go_wp2_with (go_at_call 52; refine (eventNo _ _).mono ?_; rintro e w' ⟨rfl, rfl⟩)
          refine ⟨hk5, ?_⟩
          refine headW_all (rs := [10]) (by kernel_rfl) (by decide) (by decide) (List.forall_mem_cons.2 ⟨?_, List.forall_mem_nil _⟩)
          · as_aux_lemma =>
            refine wpOp_list (o := _) rfl ?_
            intro Q' hQ'
            go_wp2_with (go_at_call 52; refine (eventNo _ _).mono ?_; rintro e w' ⟨rfl, rfl⟩)
            refine ⟨hk5, ?_⟩
            refine headW_all (rs := [13]) (by kernel_rfl) (by decide) (by decide) (List.forall_mem_cons.2 ⟨?_, List.forall_mem_nil _⟩)
            · as_aux_lemma =>
              refine wpOp_list (o := _) rfl ?_
              intro Q' hQ'
              go_wp2_with (go_at_call 52; refine (eventNo _ _).mono ?_; rintro e w' ⟨rfl, rfl⟩)
              refine ⟨hk5, ?_⟩
              exact ⟨by kernel_rfl, by kernel_rfl, S5⟩
  rintro a' w6 ⟨rfl, S6⟩
  clear hKd hne HSD HNC
  have HS6 := Lib.hid (S6.alloc (.cells #[.int .i64 0, .int .i64 0, .int .i64 0, .int .i64 0] 48))
  clear S6
  go_wp2_with (go_at_call 37; refine (eventOk4 _ _ (by simp) (by simp) (by simp) (by simp) (by simp)).mono ?_; rintro e w' ⟨rfl, rfl⟩)
  refine NoPanic.normal ?_
  go_wp2_with fail
  go_ret
  exact ⟨rfl, HS6.out.sub (List.sublist_append_left [_, _] [_])⟩
end Go.Proofs.YtkkkfjinflepmaaGreatDoor
