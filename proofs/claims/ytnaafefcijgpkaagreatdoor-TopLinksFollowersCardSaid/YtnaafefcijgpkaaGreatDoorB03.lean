/- Part 3 of the walks of the golf union's program: L6. -/
import Derived.Test.YtnaafefcijgpkaaGreatDoorB02
import Derived.RegionTactic
import Derived.Deep.RegionWith
set_option linter.unusedVariables false
set_option linter.unusedSimpArgs false
set_option linter.unusedSectionVars false
set_option linter.constructorNameAsVariable false
/- Chapter 5: the program's check of an entry, where it is without an error. -/
namespace Go.Proofs.YtnaafefcijgpkaaGreatDoor
open Go.RowKit Go.Mem Go.Sheet Go.Adj
def mkV (f g : Nat) : Value := .agg #[.func (.func f) #[] #[], .func (.func g) #[] #[]]
def marksE : Array MapEntry := #[⟨.string ⟨#[]⟩, mkV 131 133, 0⟩, ⟨.string ⟨#[99]⟩, mkV 131 134, 1⟩, ⟨.string ⟨#[120]⟩, mkV 132 135, 2⟩, ⟨.string ⟨#[45]⟩, mkV 132 136, 3⟩]
set_option maxRecDepth 100000 in
set_option maxHeartbeats 4000000 in
theorem marks_any (W : World) : Calls Tryz.prog 128 #[] W fun e w' => ∃ b, e = .returned (.map (some b)) ∧ St W w' [mapS b marksE 4] := by
  have hmm := @run_makeMap Tryz.prog
  have S0 := (St.refl W).mapS_new
  simp only [List.nil_append] at S0
  have HB : Hid (∃ b, b = W.heap.size) := ⟨_, rfl⟩
  go_enter Tryz.func128, Tryz.ntmps128
  go_wp2_with (first
    | (refine wpList_insert_st rfl _ _ _ 198 rfl 9 196 Tryz.underlying9 Tryz.underlying198 S0 (i := 0) rfl rfl ⟨#[]⟩ rfl (by kernel_rfl) _ rfl ?_
       intro w1 S1)
    | (refine wpList_insert_st rfl _ _ _ 198 rfl 9 196 Tryz.underlying9 Tryz.underlying198 S1 (i := 0) rfl rfl ⟨#[99]⟩ rfl (by kernel_rfl) _ rfl ?_
       intro w2 S2)
    | (refine wpList_insert_st rfl _ _ _ 198 rfl 9 196 Tryz.underlying9 Tryz.underlying198 S2 (i := 0) rfl rfl ⟨#[120]⟩ rfl (by kernel_rfl) _ rfl ?_
       intro w3 S3)
    | (refine wpList_insert_st rfl _ _ _ 198 rfl 9 196 Tryz.underlying9 Tryz.underlying198 S3 (i := 0) rfl rfl ⟨#[45]⟩ rfl (by kernel_rfl) _ rfl ?_
       intro w4 S4))
  go_ret
  exact ⟨_, rfl, S4⟩
def ZM : Array Value := #[.nilFunc, .nilFunc]
/-- what region 1 of checkEntry leaves -/
def EntR (W w' : World) (gx : Nat) (F : Nat) (s : Int) : Prop := Below W.heap.size W w' ∧ w'.cell? ⟨gx, 0, none⟩ = some (.func (.func F) #[] #[]) ∧ w'.cell? ⟨W.heap.size, 0, none⟩ = some (.int .i64 s)
set_option maxRecDepth 100000 in
set_option maxHeartbeats 8000000 in
theorem checkEntry_of (W : World) (s : Int) (m : ByteArray) (jf F G : Nat) (hf : Instr.findNow .string (.string m) marksE.toList 0 = some (some (jf, mkV F G))) (eg : Enters Tryz.prog F)
    (hF : ∀ w, Calls Tryz.prog F #[.int .i64 s] w fun r w' => r = .returned (.bool true) ∧ w = w') :
    Calls Tryz.prog 124 #[.agg #[.int .i64 s, .string m]] W fun e w' => e = .returned (.int .i64 0) ∧ Below W.heap.size W w' := by
  have HF := Lib.hid hF
  clear hF
  unfold Enters at eg
  have S0 := ((St.refl W).blk_new #[.int .i64 s, .string m] 65).drew
  simp only [List.nil_append] at S0
  go_enter Tryz.func124, Tryz.ntmps124
  go_wp2_with fail
  generalize W.heap.size = bx at S0 ⊢
  refine wp_head_tail3 0 9 7 [] [1, 2] rfl (fun w' => w'.cell? ⟨bx, 1, none⟩ = some (.string m))
    (fun a a' w' => ∃ (gx b : Nat), a' = ((((((a.put (some 6) (.map (some b))).put (some 9) (.tuple #[.agg #[.func (.func F) #[] #[], .func (.func G) #[] #[]], .bool true])).put (some 5) (.tuple #[.agg #[.func (.func F) #[] #[], .func (.func G) #[] #[]], .bool true])).put (some 10) (.agg #[.func (.func F) #[] #[], .func (.func G) #[] #[]])).put (some 11) (.bool true)).put (some 3) (.pointer (some ⟨gx, 0, none⟩))) ∧ (St W w' [] ∧ w'.cell? ⟨gx, 0, none⟩ = some (.func (.func F) #[] #[]) ∧ w'.cell? ⟨bx, 0, none⟩ = some (.int .i64 s))) (by kernel_rfl) (by kernel_rfl) (S0.blk_cell (i := 0) rfl 1) ?_
  simp only [pick, List.filterMap_cons, List.filterMap_nil, List.getElem?_toArray, List.getElem?_cons_succ, List.getElem?_cons_zero]
  generalize hK : (fun w' : World => w'.cell? ⟨bx, 1, none⟩ = some (.string m)) = K
  have kK : ∀ y : Wd K, y.w.cell? ⟨bx, 1, none⟩ = some (.string m) := by subst hK; exact fun y => y.h
  have hne : Nonempty (Wd K) := ⟨⟨_, by subst hK; exact S0.blk_cell (i := 0) rfl 1⟩⟩
  have hKd : ∀ (w' : World) (L : List Asr), St W w' (blk bx 65 #[.int .i64 s, .string m] :: L) → K w' := by
    intro w' L h
    subst hK
    exact h.blk_cell (i := 0) rfl 1
  clear hK
  generalize (W.alloc (.cells #[.int .i64 s, .string m] 65)).drew = w0 at *
  refine wpQuiet_nil ?_
  change wpQuiet _ _ _ _ (_ :: _ :: []) _
  repeat (go_big_quiet_step ((fail)))
  refine wpQuiet_nil ?_
  clear kK
  refine ⟨?_, ?_⟩
  · as_aux_lemma =>
    refine headW_all (rs := [0, 7]) (by kernel_rfl) (by decide) (by decide) (List.forall_mem_cons.2 ⟨?_, List.forall_mem_cons.2 ⟨?_, List.forall_mem_nil _⟩⟩)
    · as_aux_lemma =>
      refine wpOp_list (o := _) rfl ?_
      intro Q' hQ'
      go_wp2_with (go_at_call 128; refine (marks_any _).mono ?_; rintro e wk ⟨b, rfl, Sm⟩)
      have SM := S0.call Sm
      simp only [List.cons_append, List.nil_append] at SM
      refine ⟨hKd _ _ SM, ?_⟩
      refine headW_all (rs := [3, 7]) (by kernel_rfl) (by decide) (by decide) (List.forall_mem_cons.2 ⟨?_, List.forall_mem_cons.2 ⟨?_, List.forall_mem_nil _⟩⟩)
      · as_aux_lemma =>
        refine wpOp_list (o := _) rfl ?_
        intro Q' hQ'
        have hlk := run_lookupS 198 9 196 Tryz.underlying9 Tryz.underlying198 (SM.mapS_at (i := 1) rfl) m jf (mkV F G) hf
        unfold mkV at hlk
        go_wp2_with fail
        clear hlk
        refine ⟨hKd _ _ SM, ?_⟩
        refine headW_all (rs := [4, 7]) (by kernel_rfl) (by decide) (by decide) (List.forall_mem_cons.2 ⟨?_, List.forall_mem_cons.2 ⟨?_, List.forall_mem_nil _⟩⟩)
        · as_aux_lemma =>
          refine wpOp_list (o := _) rfl ?_
          intro Q' hQ'
          go_wp2_with fail
          refine ⟨hKd _ _ SM, ?_⟩
          refine headW_all (rs := [5, 6, 7]) (by kernel_rfl) (by decide) (by decide) (List.forall_mem_cons.2 ⟨?_, List.forall_mem_cons.2 ⟨?_, List.forall_mem_cons.2 ⟨?_, List.forall_mem_nil _⟩⟩⟩)
          · as_aux_lemma =>
            refine wpOp_list (o := _) rfl ?_
            intro Q' hQ'
            go_wp2_with fail
            refine ⟨hKd _ _ SM, ?_⟩
            refine headW_all (rs := [6, 7]) (by kernel_rfl) (by decide) (by decide) (List.forall_mem_cons.2 ⟨?_, List.forall_mem_cons.2 ⟨?_, List.forall_mem_nil _⟩⟩)
            · as_aux_lemma =>
              refine wpOp_list (o := _) rfl ?_
              intro Q' hQ'
              go_wp2_with fail
              refine ⟨hKd _ _ SM, ?_⟩
              refine headW_all (rs := [7]) (by kernel_rfl) (by decide) (by decide) (List.forall_mem_cons.2 ⟨?_, List.forall_mem_nil _⟩)
              refine wpOp_list (o := _) rfl ?_
              intro Q' hQ'
              have SX := SM.blk_new ZM 196
              simp only [List.cons_append, List.nil_append] at SX
              unfold ZM at SX
              go_wp2_with fail
              generalize wk.heap.size = gx at SX ⊢
              generalize World.alloc _ _ = wx at SX ⊢
              refine ⟨hKd _ _ SX, ?_⟩
              refine headW_all (rs := [8]) (by kernel_rfl) (by decide) (by decide) (List.forall_mem_cons.2 ⟨?_, List.forall_mem_nil _⟩)
              refine wpOp_list (o := _) rfl ?_
              intro Q' hQ'
              have SY := SX.blk_row (i := 2) rfl #[.func (.func F) #[] #[], .func (.func G) #[] #[]]
              simp only [List.set_cons_zero, List.set_cons_succ] at SY
              refine wpList_store_row rfl 196 (.tmp 3) (.tmp 10) rfl gx #[.func (.func F) #[] #[], .func (.func G) #[] #[]] rfl rfl 196 _ (SX.blk_at (i := 2) rfl).2.2 (by kernel_rfl) rfl (by simp [Value.oneCell']) ?_
              go_wp2_with fail
              refine ⟨hKd _ _ SY, ?_⟩
              exact ⟨by kernel_rfl, gx, b, by kernel_rfl, ⟨SY.nil, SY.blk_cell (i := 2) rfl 0, SY.blk_cell (i := 0) rfl 0⟩⟩
            · as_aux_lemma =>
              refine wpOp_list (o := _) rfl ?_
              intro Q' hQ'
              have SX := SM.blk_new ZM 196
              simp only [List.cons_append, List.nil_append] at SX
              unfold ZM at SX
              go_wp2_with fail
              generalize wk.heap.size = gx at SX ⊢
              generalize World.alloc _ _ = wx at SX ⊢
              refine ⟨hKd _ _ SX, ?_⟩
              refine headW_all (rs := [6, 8]) (by kernel_rfl) (by decide) (by decide) (List.forall_mem_cons.2 ⟨?_, List.forall_mem_cons.2 ⟨?_, List.forall_mem_nil _⟩⟩)
              · as_aux_lemma =>
                refine wpOp_list (o := _) rfl ?_
                intro Q' hQ'
                go_wp2_with fail
                refine ⟨hKd _ _ SX, ?_⟩
                refine headW_all (rs := [8]) (by kernel_rfl) (by decide) (by decide) (List.forall_mem_cons.2 ⟨?_, List.forall_mem_nil _⟩)
                refine wpOp_list (o := _) rfl ?_
                intro Q' hQ'
                have SY := SX.blk_row (i := 2) rfl #[.func (.func F) #[] #[], .func (.func G) #[] #[]]
                simp only [List.set_cons_zero, List.set_cons_succ] at SY
                refine wpList_store_row rfl 196 (.tmp 3) (.tmp 10) rfl gx #[.func (.func F) #[] #[], .func (.func G) #[] #[]] rfl rfl 196 _ (SX.blk_at (i := 2) rfl).2.2 (by kernel_rfl) rfl (by simp [Value.oneCell']) ?_
                go_wp2_with fail
                refine ⟨hKd _ _ SY, ?_⟩
                exact ⟨by kernel_rfl, gx, b, by kernel_rfl, ⟨SY.nil, SY.blk_cell (i := 2) rfl 0, SY.blk_cell (i := 0) rfl 0⟩⟩
              · as_aux_lemma =>
                refine wpOp_list (o := _) rfl ?_
                intro Q' hQ'
                have SY := SX.blk_row (i := 2) rfl #[.func (.func F) #[] #[], .func (.func G) #[] #[]]
                simp only [List.set_cons_zero, List.set_cons_succ] at SY
                refine wpList_store_row rfl 196 (.tmp 3) (.tmp 10) rfl gx #[.func (.func F) #[] #[], .func (.func G) #[] #[]] rfl rfl 196 _ (SX.blk_at (i := 2) rfl).2.2 (by kernel_rfl) rfl (by simp [Value.oneCell']) ?_
                go_wp2_with fail
                refine ⟨hKd _ _ SY, ?_⟩
                refine headW_all (rs := [6]) (by kernel_rfl) (by decide) (by decide) (List.forall_mem_cons.2 ⟨?_, List.forall_mem_nil _⟩)
                refine wpOp_list (o := _) rfl ?_
                intro Q' hQ'
                go_wp2_with fail
                refine ⟨hKd _ _ SY, ?_⟩
                exact ⟨by kernel_rfl, gx, b, by kernel_rfl, ⟨SY.nil, SY.blk_cell (i := 2) rfl 0, SY.blk_cell (i := 0) rfl 0⟩⟩
          · as_aux_lemma =>
            refine wpOp_list (o := _) rfl ?_
            intro Q' hQ'
            go_wp2_with fail
            refine ⟨hKd _ _ SM, ?_⟩
            refine headW_all (rs := [5, 7]) (by kernel_rfl) (by decide) (by decide) (List.forall_mem_cons.2 ⟨?_, List.forall_mem_cons.2 ⟨?_, List.forall_mem_nil _⟩⟩)
            · as_aux_lemma =>
              refine wpOp_list (o := _) rfl ?_
              intro Q' hQ'
              go_wp2_with fail
              refine ⟨hKd _ _ SM, ?_⟩
              refine headW_all (rs := [7]) (by kernel_rfl) (by decide) (by decide) (List.forall_mem_cons.2 ⟨?_, List.forall_mem_nil _⟩)
              refine wpOp_list (o := _) rfl ?_
              intro Q' hQ'
              have SX := SM.blk_new ZM 196
              simp only [List.cons_append, List.nil_append] at SX
              unfold ZM at SX
              go_wp2_with fail
              generalize wk.heap.size = gx at SX ⊢
              generalize World.alloc _ _ = wx at SX ⊢
              refine ⟨hKd _ _ SX, ?_⟩
              refine headW_all (rs := [8]) (by kernel_rfl) (by decide) (by decide) (List.forall_mem_cons.2 ⟨?_, List.forall_mem_nil _⟩)
              refine wpOp_list (o := _) rfl ?_
              intro Q' hQ'
              have SY := SX.blk_row (i := 2) rfl #[.func (.func F) #[] #[], .func (.func G) #[] #[]]
              simp only [List.set_cons_zero, List.set_cons_succ] at SY
              refine wpList_store_row rfl 196 (.tmp 3) (.tmp 10) rfl gx #[.func (.func F) #[] #[], .func (.func G) #[] #[]] rfl rfl 196 _ (SX.blk_at (i := 2) rfl).2.2 (by kernel_rfl) rfl (by simp [Value.oneCell']) ?_
              go_wp2_with fail
              refine ⟨hKd _ _ SY, ?_⟩
              exact ⟨by kernel_rfl, gx, b, by kernel_rfl, ⟨SY.nil, SY.blk_cell (i := 2) rfl 0, SY.blk_cell (i := 0) rfl 0⟩⟩
            · as_aux_lemma =>
              refine wpOp_list (o := _) rfl ?_
              intro Q' hQ'
              have SX := SM.blk_new ZM 196
              simp only [List.cons_append, List.nil_append] at SX
              unfold ZM at SX
              go_wp2_with fail
              generalize wk.heap.size = gx at SX ⊢
              generalize World.alloc _ _ = wx at SX ⊢
              refine ⟨hKd _ _ SX, ?_⟩
              refine headW_all (rs := [5]) (by kernel_rfl) (by decide) (by decide) (List.forall_mem_cons.2 ⟨?_, List.forall_mem_nil _⟩)
              refine wpOp_list (o := _) rfl ?_
              intro Q' hQ'
              go_wp2_with fail
              refine ⟨hKd _ _ SX, ?_⟩
              refine headW_all (rs := [8]) (by kernel_rfl) (by decide) (by decide) (List.forall_mem_cons.2 ⟨?_, List.forall_mem_nil _⟩)
              refine wpOp_list (o := _) rfl ?_
              intro Q' hQ'
              have SY := SX.blk_row (i := 2) rfl #[.func (.func F) #[] #[], .func (.func G) #[] #[]]
              simp only [List.set_cons_zero, List.set_cons_succ] at SY
              refine wpList_store_row rfl 196 (.tmp 3) (.tmp 10) rfl gx #[.func (.func F) #[] #[], .func (.func G) #[] #[]] rfl rfl 196 _ (SX.blk_at (i := 2) rfl).2.2 (by kernel_rfl) rfl (by simp [Value.oneCell']) ?_
              go_wp2_with fail
              refine ⟨hKd _ _ SY, ?_⟩
              exact ⟨by kernel_rfl, gx, b, by kernel_rfl, ⟨SY.nil, SY.blk_cell (i := 2) rfl 0, SY.blk_cell (i := 0) rfl 0⟩⟩
          · as_aux_lemma =>
            refine wpOp_list (o := _) rfl ?_
            intro Q' hQ'
            have SX := SM.blk_new ZM 196
            simp only [List.cons_append, List.nil_append] at SX
            unfold ZM at SX
            go_wp2_with fail
            generalize wk.heap.size = gx at SX ⊢
            generalize World.alloc _ _ = wx at SX ⊢
            refine ⟨hKd _ _ SX, ?_⟩
            refine headW_all (rs := [5, 6]) (by kernel_rfl) (by decide) (by decide) (List.forall_mem_cons.2 ⟨?_, List.forall_mem_cons.2 ⟨?_, List.forall_mem_nil _⟩⟩)
            · as_aux_lemma =>
              refine wpOp_list (o := _) rfl ?_
              intro Q' hQ'
              go_wp2_with fail
              refine ⟨hKd _ _ SX, ?_⟩
              refine headW_all (rs := [6, 8]) (by kernel_rfl) (by decide) (by decide) (List.forall_mem_cons.2 ⟨?_, List.forall_mem_cons.2 ⟨?_, List.forall_mem_nil _⟩⟩)
              · as_aux_lemma =>
                refine wpOp_list (o := _) rfl ?_
                intro Q' hQ'
                go_wp2_with fail
                refine ⟨hKd _ _ SX, ?_⟩
                refine headW_all (rs := [8]) (by kernel_rfl) (by decide) (by decide) (List.forall_mem_cons.2 ⟨?_, List.forall_mem_nil _⟩)
                refine wpOp_list (o := _) rfl ?_
                intro Q' hQ'
                have SY := SX.blk_row (i := 2) rfl #[.func (.func F) #[] #[], .func (.func G) #[] #[]]
                simp only [List.set_cons_zero, List.set_cons_succ] at SY
                refine wpList_store_row rfl 196 (.tmp 3) (.tmp 10) rfl gx #[.func (.func F) #[] #[], .func (.func G) #[] #[]] rfl rfl 196 _ (SX.blk_at (i := 2) rfl).2.2 (by kernel_rfl) rfl (by simp [Value.oneCell']) ?_
                go_wp2_with fail
                refine ⟨hKd _ _ SY, ?_⟩
                exact ⟨by kernel_rfl, gx, b, by kernel_rfl, ⟨SY.nil, SY.blk_cell (i := 2) rfl 0, SY.blk_cell (i := 0) rfl 0⟩⟩
              · as_aux_lemma =>
                refine wpOp_list (o := _) rfl ?_
                intro Q' hQ'
                have SY := SX.blk_row (i := 2) rfl #[.func (.func F) #[] #[], .func (.func G) #[] #[]]
                simp only [List.set_cons_zero, List.set_cons_succ] at SY
                refine wpList_store_row rfl 196 (.tmp 3) (.tmp 10) rfl gx #[.func (.func F) #[] #[], .func (.func G) #[] #[]] rfl rfl 196 _ (SX.blk_at (i := 2) rfl).2.2 (by kernel_rfl) rfl (by simp [Value.oneCell']) ?_
                go_wp2_with fail
                refine ⟨hKd _ _ SY, ?_⟩
                refine headW_all (rs := [6]) (by kernel_rfl) (by decide) (by decide) (List.forall_mem_cons.2 ⟨?_, List.forall_mem_nil _⟩)
                refine wpOp_list (o := _) rfl ?_
                intro Q' hQ'
                go_wp2_with fail
                refine ⟨hKd _ _ SY, ?_⟩
                exact ⟨by kernel_rfl, gx, b, by kernel_rfl, ⟨SY.nil, SY.blk_cell (i := 2) rfl 0, SY.blk_cell (i := 0) rfl 0⟩⟩
            · as_aux_lemma =>
              refine wpOp_list (o := _) rfl ?_
              intro Q' hQ'
              go_wp2_with fail
              refine ⟨hKd _ _ SX, ?_⟩
              refine headW_all (rs := [5]) (by kernel_rfl) (by decide) (by decide) (List.forall_mem_cons.2 ⟨?_, List.forall_mem_nil _⟩)
              refine wpOp_list (o := _) rfl ?_
              intro Q' hQ'
              go_wp2_with fail
              refine ⟨hKd _ _ SX, ?_⟩
              refine headW_all (rs := [8]) (by kernel_rfl) (by decide) (by decide) (List.forall_mem_cons.2 ⟨?_, List.forall_mem_nil _⟩)
              refine wpOp_list (o := _) rfl ?_
              intro Q' hQ'
              have SY := SX.blk_row (i := 2) rfl #[.func (.func F) #[] #[], .func (.func G) #[] #[]]
              simp only [List.set_cons_zero, List.set_cons_succ] at SY
              refine wpList_store_row rfl 196 (.tmp 3) (.tmp 10) rfl gx #[.func (.func F) #[] #[], .func (.func G) #[] #[]] rfl rfl 196 _ (SX.blk_at (i := 2) rfl).2.2 (by kernel_rfl) rfl (by simp [Value.oneCell']) ?_
              go_wp2_with fail
              refine ⟨hKd _ _ SY, ?_⟩
              exact ⟨by kernel_rfl, gx, b, by kernel_rfl, ⟨SY.nil, SY.blk_cell (i := 2) rfl 0, SY.blk_cell (i := 0) rfl 0⟩⟩
        · as_aux_lemma =>
          refine wpOp_list (o := _) rfl ?_
          intro Q' hQ'
          have SX := SM.blk_new ZM 196
          simp only [List.cons_append, List.nil_append] at SX
          unfold ZM at SX
          go_wp2_with fail
          generalize wk.heap.size = gx at SX ⊢
          generalize World.alloc _ _ = wx at SX ⊢
          refine ⟨hKd _ _ SX, ?_⟩
          refine headW_all (rs := [4]) (by kernel_rfl) (by decide) (by decide) (List.forall_mem_cons.2 ⟨?_, List.forall_mem_nil _⟩)
          refine wpOp_list (o := _) rfl ?_
          intro Q' hQ'
          go_wp2_with fail
          refine ⟨hKd _ _ SX, ?_⟩
          refine headW_all (rs := [5, 6]) (by kernel_rfl) (by decide) (by decide) (List.forall_mem_cons.2 ⟨?_, List.forall_mem_cons.2 ⟨?_, List.forall_mem_nil _⟩⟩)
          · as_aux_lemma =>
            refine wpOp_list (o := _) rfl ?_
            intro Q' hQ'
            go_wp2_with fail
            refine ⟨hKd _ _ SX, ?_⟩
            refine headW_all (rs := [6, 8]) (by kernel_rfl) (by decide) (by decide) (List.forall_mem_cons.2 ⟨?_, List.forall_mem_cons.2 ⟨?_, List.forall_mem_nil _⟩⟩)
            · as_aux_lemma =>
              refine wpOp_list (o := _) rfl ?_
              intro Q' hQ'
              go_wp2_with fail
              refine ⟨hKd _ _ SX, ?_⟩
              refine headW_all (rs := [8]) (by kernel_rfl) (by decide) (by decide) (List.forall_mem_cons.2 ⟨?_, List.forall_mem_nil _⟩)
              refine wpOp_list (o := _) rfl ?_
              intro Q' hQ'
              have SY := SX.blk_row (i := 2) rfl #[.func (.func F) #[] #[], .func (.func G) #[] #[]]
              simp only [List.set_cons_zero, List.set_cons_succ] at SY
              refine wpList_store_row rfl 196 (.tmp 3) (.tmp 10) rfl gx #[.func (.func F) #[] #[], .func (.func G) #[] #[]] rfl rfl 196 _ (SX.blk_at (i := 2) rfl).2.2 (by kernel_rfl) rfl (by simp [Value.oneCell']) ?_
              go_wp2_with fail
              refine ⟨hKd _ _ SY, ?_⟩
              exact ⟨by kernel_rfl, gx, b, by kernel_rfl, ⟨SY.nil, SY.blk_cell (i := 2) rfl 0, SY.blk_cell (i := 0) rfl 0⟩⟩
            · as_aux_lemma =>
              refine wpOp_list (o := _) rfl ?_
              intro Q' hQ'
              have SY := SX.blk_row (i := 2) rfl #[.func (.func F) #[] #[], .func (.func G) #[] #[]]
              simp only [List.set_cons_zero, List.set_cons_succ] at SY
              refine wpList_store_row rfl 196 (.tmp 3) (.tmp 10) rfl gx #[.func (.func F) #[] #[], .func (.func G) #[] #[]] rfl rfl 196 _ (SX.blk_at (i := 2) rfl).2.2 (by kernel_rfl) rfl (by simp [Value.oneCell']) ?_
              go_wp2_with fail
              refine ⟨hKd _ _ SY, ?_⟩
              refine headW_all (rs := [6]) (by kernel_rfl) (by decide) (by decide) (List.forall_mem_cons.2 ⟨?_, List.forall_mem_nil _⟩)
              refine wpOp_list (o := _) rfl ?_
              intro Q' hQ'
              go_wp2_with fail
              refine ⟨hKd _ _ SY, ?_⟩
              exact ⟨by kernel_rfl, gx, b, by kernel_rfl, ⟨SY.nil, SY.blk_cell (i := 2) rfl 0, SY.blk_cell (i := 0) rfl 0⟩⟩
          · as_aux_lemma =>
            refine wpOp_list (o := _) rfl ?_
            intro Q' hQ'
            go_wp2_with fail
            refine ⟨hKd _ _ SX, ?_⟩
            refine headW_all (rs := [5]) (by kernel_rfl) (by decide) (by decide) (List.forall_mem_cons.2 ⟨?_, List.forall_mem_nil _⟩)
            refine wpOp_list (o := _) rfl ?_
            intro Q' hQ'
            go_wp2_with fail
            refine ⟨hKd _ _ SX, ?_⟩
            refine headW_all (rs := [8]) (by kernel_rfl) (by decide) (by decide) (List.forall_mem_cons.2 ⟨?_, List.forall_mem_nil _⟩)
            refine wpOp_list (o := _) rfl ?_
            intro Q' hQ'
            have SY := SX.blk_row (i := 2) rfl #[.func (.func F) #[] #[], .func (.func G) #[] #[]]
            simp only [List.set_cons_zero, List.set_cons_succ] at SY
            refine wpList_store_row rfl 196 (.tmp 3) (.tmp 10) rfl gx #[.func (.func F) #[] #[], .func (.func G) #[] #[]] rfl rfl 196 _ (SX.blk_at (i := 2) rfl).2.2 (by kernel_rfl) rfl (by simp [Value.oneCell']) ?_
            go_wp2_with fail
            refine ⟨hKd _ _ SY, ?_⟩
            exact ⟨by kernel_rfl, gx, b, by kernel_rfl, ⟨SY.nil, SY.blk_cell (i := 2) rfl 0, SY.blk_cell (i := 0) rfl 0⟩⟩
      · as_aux_lemma =>
        refine wpOp_list (o := _) rfl ?_
        intro Q' hQ'
        have SX := SM.blk_new ZM 196
        simp only [List.cons_append, List.nil_append] at SX
        unfold ZM at SX
        go_wp2_with fail
        generalize wk.heap.size = gx at SX ⊢
        generalize World.alloc _ _ = wx at SX ⊢
        refine ⟨hKd _ _ SX, ?_⟩
        refine headW_all (rs := [3]) (by kernel_rfl) (by decide) (by decide) (List.forall_mem_cons.2 ⟨?_, List.forall_mem_nil _⟩)
        refine wpOp_list (o := _) rfl ?_
        intro Q' hQ'
        have hlk := run_lookupS 198 9 196 Tryz.underlying9 Tryz.underlying198 (SX.mapS_at (i := 1) rfl) m jf (mkV F G) hf
        unfold mkV at hlk
        go_wp2_with fail
        clear hlk
        refine ⟨hKd _ _ SX, ?_⟩
        refine headW_all (rs := [4]) (by kernel_rfl) (by decide) (by decide) (List.forall_mem_cons.2 ⟨?_, List.forall_mem_nil _⟩)
        refine wpOp_list (o := _) rfl ?_
        intro Q' hQ'
        go_wp2_with fail
        refine ⟨hKd _ _ SX, ?_⟩
        refine headW_all (rs := [5, 6]) (by kernel_rfl) (by decide) (by decide) (List.forall_mem_cons.2 ⟨?_, List.forall_mem_cons.2 ⟨?_, List.forall_mem_nil _⟩⟩)
        · as_aux_lemma =>
          refine wpOp_list (o := _) rfl ?_
          intro Q' hQ'
          go_wp2_with fail
          refine ⟨hKd _ _ SX, ?_⟩
          refine headW_all (rs := [6, 8]) (by kernel_rfl) (by decide) (by decide) (List.forall_mem_cons.2 ⟨?_, List.forall_mem_cons.2 ⟨?_, List.forall_mem_nil _⟩⟩)
          · as_aux_lemma =>
            refine wpOp_list (o := _) rfl ?_
            intro Q' hQ'
            go_wp2_with fail
            refine ⟨hKd _ _ SX, ?_⟩
            refine headW_all (rs := [8]) (by kernel_rfl) (by decide) (by decide) (List.forall_mem_cons.2 ⟨?_, List.forall_mem_nil _⟩)
            refine wpOp_list (o := _) rfl ?_
            intro Q' hQ'
            have SY := SX.blk_row (i := 2) rfl #[.func (.func F) #[] #[], .func (.func G) #[] #[]]
            simp only [List.set_cons_zero, List.set_cons_succ] at SY
            refine wpList_store_row rfl 196 (.tmp 3) (.tmp 10) rfl gx #[.func (.func F) #[] #[], .func (.func G) #[] #[]] rfl rfl 196 _ (SX.blk_at (i := 2) rfl).2.2 (by kernel_rfl) rfl (by simp [Value.oneCell']) ?_
            go_wp2_with fail
            refine ⟨hKd _ _ SY, ?_⟩
            exact ⟨by kernel_rfl, gx, b, by kernel_rfl, ⟨SY.nil, SY.blk_cell (i := 2) rfl 0, SY.blk_cell (i := 0) rfl 0⟩⟩
          · as_aux_lemma =>
            refine wpOp_list (o := _) rfl ?_
            intro Q' hQ'
            have SY := SX.blk_row (i := 2) rfl #[.func (.func F) #[] #[], .func (.func G) #[] #[]]
            simp only [List.set_cons_zero, List.set_cons_succ] at SY
            refine wpList_store_row rfl 196 (.tmp 3) (.tmp 10) rfl gx #[.func (.func F) #[] #[], .func (.func G) #[] #[]] rfl rfl 196 _ (SX.blk_at (i := 2) rfl).2.2 (by kernel_rfl) rfl (by simp [Value.oneCell']) ?_
            go_wp2_with fail
            refine ⟨hKd _ _ SY, ?_⟩
            refine headW_all (rs := [6]) (by kernel_rfl) (by decide) (by decide) (List.forall_mem_cons.2 ⟨?_, List.forall_mem_nil _⟩)
            refine wpOp_list (o := _) rfl ?_
            intro Q' hQ'
            go_wp2_with fail
            refine ⟨hKd _ _ SY, ?_⟩
            exact ⟨by kernel_rfl, gx, b, by kernel_rfl, ⟨SY.nil, SY.blk_cell (i := 2) rfl 0, SY.blk_cell (i := 0) rfl 0⟩⟩
        · as_aux_lemma =>
          refine wpOp_list (o := _) rfl ?_
          intro Q' hQ'
          go_wp2_with fail
          refine ⟨hKd _ _ SX, ?_⟩
          refine headW_all (rs := [5]) (by kernel_rfl) (by decide) (by decide) (List.forall_mem_cons.2 ⟨?_, List.forall_mem_nil _⟩)
          refine wpOp_list (o := _) rfl ?_
          intro Q' hQ'
          go_wp2_with fail
          refine ⟨hKd _ _ SX, ?_⟩
          refine headW_all (rs := [8]) (by kernel_rfl) (by decide) (by decide) (List.forall_mem_cons.2 ⟨?_, List.forall_mem_nil _⟩)
          refine wpOp_list (o := _) rfl ?_
          intro Q' hQ'
          have SY := SX.blk_row (i := 2) rfl #[.func (.func F) #[] #[], .func (.func G) #[] #[]]
          simp only [List.set_cons_zero, List.set_cons_succ] at SY
          refine wpList_store_row rfl 196 (.tmp 3) (.tmp 10) rfl gx #[.func (.func F) #[] #[], .func (.func G) #[] #[]] rfl rfl 196 _ (SX.blk_at (i := 2) rfl).2.2 (by kernel_rfl) rfl (by simp [Value.oneCell']) ?_
          go_wp2_with fail
          refine ⟨hKd _ _ SY, ?_⟩
          exact ⟨by kernel_rfl, gx, b, by kernel_rfl, ⟨SY.nil, SY.blk_cell (i := 2) rfl 0, SY.blk_cell (i := 0) rfl 0⟩⟩
    · as_aux_lemma =>
      refine wpOp_list (o := _) rfl ?_
      intro Q' hQ'
      have SX := S0.blk_new ZM 196
      simp only [List.cons_append, List.nil_append] at SX
      unfold ZM at SX
      go_wp2_with fail
      generalize w0.heap.size = gx at SX ⊢
      generalize World.alloc _ _ = wx at SX ⊢
      refine ⟨hKd _ _ SX, ?_⟩
      refine headW_all (rs := [0]) (by kernel_rfl) (by decide) (by decide) (List.forall_mem_cons.2 ⟨?_, List.forall_mem_nil _⟩)
      refine wpOp_list (o := _) rfl ?_
      intro Q' hQ'
      go_wp2_with (go_at_call 128; refine (marks_any _).mono ?_; rintro e wk ⟨b, rfl, Sm⟩)
      have SM := SX.call Sm
      simp only [List.cons_append, List.nil_append] at SM
      refine ⟨hKd _ _ SM, ?_⟩
      refine headW_all (rs := [3]) (by kernel_rfl) (by decide) (by decide) (List.forall_mem_cons.2 ⟨?_, List.forall_mem_nil _⟩)
      refine wpOp_list (o := _) rfl ?_
      intro Q' hQ'
      have hlk := run_lookupS 198 9 196 Tryz.underlying9 Tryz.underlying198 (SM.mapS_at (i := 2) rfl) m jf (mkV F G) hf
      unfold mkV at hlk
      go_wp2_with fail
      clear hlk
      refine ⟨hKd _ _ SM, ?_⟩
      refine headW_all (rs := [4]) (by kernel_rfl) (by decide) (by decide) (List.forall_mem_cons.2 ⟨?_, List.forall_mem_nil _⟩)
      refine wpOp_list (o := _) rfl ?_
      intro Q' hQ'
      go_wp2_with fail
      refine ⟨hKd _ _ SM, ?_⟩
      refine headW_all (rs := [5, 6]) (by kernel_rfl) (by decide) (by decide) (List.forall_mem_cons.2 ⟨?_, List.forall_mem_cons.2 ⟨?_, List.forall_mem_nil _⟩⟩)
      · as_aux_lemma =>
        refine wpOp_list (o := _) rfl ?_
        intro Q' hQ'
        go_wp2_with fail
        refine ⟨hKd _ _ SM, ?_⟩
        refine headW_all (rs := [6, 8]) (by kernel_rfl) (by decide) (by decide) (List.forall_mem_cons.2 ⟨?_, List.forall_mem_cons.2 ⟨?_, List.forall_mem_nil _⟩⟩)
        · as_aux_lemma =>
          refine wpOp_list (o := _) rfl ?_
          intro Q' hQ'
          go_wp2_with fail
          refine ⟨hKd _ _ SM, ?_⟩
          refine headW_all (rs := [8]) (by kernel_rfl) (by decide) (by decide) (List.forall_mem_cons.2 ⟨?_, List.forall_mem_nil _⟩)
          refine wpOp_list (o := _) rfl ?_
          intro Q' hQ'
          have SY := SM.blk_row (i := 1) rfl #[.func (.func F) #[] #[], .func (.func G) #[] #[]]
          simp only [List.set_cons_zero, List.set_cons_succ] at SY
          refine wpList_store_row rfl 196 (.tmp 3) (.tmp 10) rfl gx #[.func (.func F) #[] #[], .func (.func G) #[] #[]] rfl rfl 196 _ (SM.blk_at (i := 1) rfl).2.2 (by kernel_rfl) rfl (by simp [Value.oneCell']) ?_
          go_wp2_with fail
          refine ⟨hKd _ _ SY, ?_⟩
          exact ⟨by kernel_rfl, gx, b, by kernel_rfl, ⟨SY.nil, SY.blk_cell (i := 1) rfl 0, SY.blk_cell (i := 0) rfl 0⟩⟩
        · as_aux_lemma =>
          refine wpOp_list (o := _) rfl ?_
          intro Q' hQ'
          have SY := SM.blk_row (i := 1) rfl #[.func (.func F) #[] #[], .func (.func G) #[] #[]]
          simp only [List.set_cons_zero, List.set_cons_succ] at SY
          refine wpList_store_row rfl 196 (.tmp 3) (.tmp 10) rfl gx #[.func (.func F) #[] #[], .func (.func G) #[] #[]] rfl rfl 196 _ (SM.blk_at (i := 1) rfl).2.2 (by kernel_rfl) rfl (by simp [Value.oneCell']) ?_
          go_wp2_with fail
          refine ⟨hKd _ _ SY, ?_⟩
          refine headW_all (rs := [6]) (by kernel_rfl) (by decide) (by decide) (List.forall_mem_cons.2 ⟨?_, List.forall_mem_nil _⟩)
          refine wpOp_list (o := _) rfl ?_
          intro Q' hQ'
          go_wp2_with fail
          refine ⟨hKd _ _ SY, ?_⟩
          exact ⟨by kernel_rfl, gx, b, by kernel_rfl, ⟨SY.nil, SY.blk_cell (i := 1) rfl 0, SY.blk_cell (i := 0) rfl 0⟩⟩
      · as_aux_lemma =>
        refine wpOp_list (o := _) rfl ?_
        intro Q' hQ'
        go_wp2_with fail
        refine ⟨hKd _ _ SM, ?_⟩
        refine headW_all (rs := [5]) (by kernel_rfl) (by decide) (by decide) (List.forall_mem_cons.2 ⟨?_, List.forall_mem_nil _⟩)
        refine wpOp_list (o := _) rfl ?_
        intro Q' hQ'
        go_wp2_with fail
        refine ⟨hKd _ _ SM, ?_⟩
        refine headW_all (rs := [8]) (by kernel_rfl) (by decide) (by decide) (List.forall_mem_cons.2 ⟨?_, List.forall_mem_nil _⟩)
        refine wpOp_list (o := _) rfl ?_
        intro Q' hQ'
        have SY := SM.blk_row (i := 1) rfl #[.func (.func F) #[] #[], .func (.func G) #[] #[]]
        simp only [List.set_cons_zero, List.set_cons_succ] at SY
        refine wpList_store_row rfl 196 (.tmp 3) (.tmp 10) rfl gx #[.func (.func F) #[] #[], .func (.func G) #[] #[]] rfl rfl 196 _ (SM.blk_at (i := 1) rfl).2.2 (by kernel_rfl) rfl (by simp [Value.oneCell']) ?_
        go_wp2_with fail
        refine ⟨hKd _ _ SY, ?_⟩
        exact ⟨by kernel_rfl, gx, b, by kernel_rfl, ⟨SY.nil, SY.blk_cell (i := 1) rfl 0, SY.blk_cell (i := 0) rfl 0⟩⟩
  · rintro a' w6 ⟨gx, b, rfl, hb6, hc0, hc1⟩
    have HS := Lib.hid hb6
    clear hb6 S0 hKd hne hf
    go_wp2_with fail
    refine NoPanic.normal ?_
    go_wp2_with fail
    refine (HF.out _).mono ?_
    rintro e w' ⟨rfl, rfl⟩
    go_wp2_with (go_at_call 106; refine (cardNo _ _).mono ?_; rintro e w' ⟨rfl, rfl⟩)
    go_ret
    exact ⟨rfl, HS.out.bel⟩
theorem checkEntry_ok (W : World) (s : Int) (m : ByteArray) (h : GoodE ⟨s, m⟩) :
    Calls Tryz.prog 124 #[.agg #[.int .i64 s, .string m]] W fun e w' => e = .returned (.int .i64 0) ∧ Below W.heap.size W w' := by
  have e1 : Enters Tryz.prog 131 := enters Tryz.func131 (by kernel_rfl) rfl
  have e2 : Enters Tryz.prog 132 := enters Tryz.func132 (by kernel_rfl) rfl
  rcases h with ⟨hm | hm, h1, h2⟩ | ⟨hm | hm, hs⟩
  · change m = ⟨#[]⟩ at hm
    subst hm
    exact checkEntry_of W s ⟨#[]⟩ 0 131 133 (by kernel_rfl) e1 (fun w => played_ok s w ⟨h1, h2⟩)
  · change m = ⟨#[99]⟩ at hm
    subst hm
    exact checkEntry_of W s ⟨#[99]⟩ 1 131 134 (by kernel_rfl) e1 (fun w => played_ok s w ⟨h1, h2⟩)
  · change m = ⟨#[120]⟩ at hm
    change s = 0 at hs
    subst hm hs
    exact checkEntry_of W 0 ⟨#[120]⟩ 2 132 135 (by kernel_rfl) e2 (fun w => none_ok w)
  · change m = ⟨#[45]⟩ at hm
    change s = 0 at hs
    subst hm hs
    exact checkEntry_of W 0 ⟨#[45]⟩ 3 132 136 (by kernel_rfl) e2 (fun w => none_ok w)
set_option maxRecDepth 100000 in
set_option maxHeartbeats 4000000 in
theorem checkEntries_ok (W : World) (v : Value) (n : Nat) (es : List EI) (h : Rd W (· < W.heap.size) 2 v n (es.flatMap EI.cells)) (hg : ∀ i, i < n → GoodE (eAt es i)) :
    Calls Tryz.prog 110 #[v] W fun e w' => e = .returned (.int .i64 0) ∧ Below W.heap.size W w' := by
  have hn := h.le
  obtain ⟨A, c, rfl, _, _, h⟩ := h.open_
  have H := Lib.hid h
  have HG := Lib.hid hg
  clear h hg
  go_enter Tryz.func110, Tryz.ntmps110
  go_wp2
  go_loopw [8] (fun i w' => ∃ k : Nat, k ≤ n ∧ i = .int .i64 k ∧ Below W.heap.size W w') (fun i _ => n - (intOf i).toNat)
  case atStart => exact ⟨0, Nat.zero_le _, rfl, Below.refl _ _⟩
  case round =>
    obtain ⟨k, hk, rfl, hbw⟩ := hrel
    by_cases hlt : k < n
    · obtain ⟨b, o, x, rfl, hx, c0, c1⟩ := (H.out.below hbw).elem2 (k := k) (fun s : EI => .int .i64 s.s) (fun s : EI => .string s.m) (fun _ => rfl) hlt
      have hp := HG.out k hlt
      rw [eAt_eq hx] at hp
      have HP := Lib.hid hp
      have HB := Lib.hid hbw
      clear hx hbw hp
      obtain ⟨xs, xm⟩ := x
      simp only at c0 c1
      have HB1 : Hid (Below W.heap.size W (wr.alloc (.cells #[.int .i64 xs, .string xm] 65))) := HB.out.alloc HB.out.size _
      go_wp2_with (go_at_call 124; refine (checkEntry_ok _ _ _ HP.out).mono ?_; rintro e w' ⟨rfl, hb2⟩; have HB2 := Lib.hid hb2; clear hb2)
      go_roundw
      case rel => exact ⟨k + 1, by omega, by go_num, HB1.out.trans (HB2.out.mono HB1.out.size)⟩
      case measure => simp [intOf]; omega
    · have HB := Lib.hid hbw
      clear hbw
      go_wp2
      go_ret
      exact ⟨rfl, HB.out⟩
end Go.Proofs.YtnaafefcijgpkaaGreatDoor
