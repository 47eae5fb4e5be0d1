/- Part 7 of the walks of the golf union's program: L11. -/
import Derived.Test.YtnaafefcijgpkaaGreatDoorB06
set_option linter.unusedVariables false
set_option linter.unusedSimpArgs false
set_option linter.unusedSectionVars false
set_option linter.constructorNameAsVariable false
/- Chapter 5: the net strokes of a player. -/
namespace Go.Proofs.YtnaafefcijgpkaaGreatDoor
open Go.RowKit Go.Mem Go.Sheet Go.Adj
theorem eltN : Elt Tryz.prog 95 99 (.agg #[.int .i64 0, .string ⟨#[]⟩]) 2 24 := ⟨Tryz.underlying95, by kernel_rfl, rfl, by decide⟩
def netF (hs : List HI) (es : List EI) (co : Int) (i : Nat) : NI := if (eAt es i).m = bx then ⟨0, .x⟩ else if (eAt es i).m = bd then ⟨0, .d⟩ else ⟨(eAt es i).s - givF hs co i, .o⟩
def nl (f : Nat → NI) (k : Nat) : List NI := (List.range k).map f
theorem nl_snoc (f : Nat → NI) (k : Nat) : nl f (k + 1) = nl f k ++ [f k] := by unfold nl; rw [List.range_succ, List.map_append]; rfl
theorem nl_at (f : Nat → NI) {n k : Nat} (h : k < n) : (nl f n)[k]? = some (f k) := by unfold nl; rw [List.getElem?_map, List.getElem?_range h]; rfl
theorem nl_len (f : Nat → NI) (k : Nat) : (nl f k).length = k := by simp [nl]
theorem row_some2 {W w : World} {L : List Asr} {i : Nat} {e : TypeId} {n : Nat} {v : Value} {xs : List Value} (h : St W w L) (hi : L[i]? = some (row e 2 v n xs)) (hn : 1 ≤ n) : ∃ b c, v = .slice (some ⟨b, 0, none⟩) n c := by
  obtain ⟨g', cap', hv', _, _, _, _, _⟩ := h.row_form hi (by omega)
  exact ⟨_, _, hv'⟩
set_option maxRecDepth 100000 in
set_option maxHeartbeats 4000000 in
theorem nets_ok (W : World) (v ve : Value) (n : Nat) (hs : List HI) (es : List EI) (name : ByteArray) (co : Int) (hco : -99 ≤ co ∧ co ≤ 99) (h : CEnv W v ve n hs es name) :
    Calls Tryz.prog 62 #[.agg #[.string name, ve, .int .i64 co], v] W fun e w' => ∃ v', e = .returned v' ∧ St W w' [row 99 2 v' n ((nl (netF hs es co) n).flatMap NI.cells)] := by
  have HE := Lib.hid h
  have hl := h.len
  have hn := h.gh.len
  rw [← hl] at hn
  have HGB : Hid (∀ k, -100 ≤ givF hs co k ∧ givF hs co k ≤ 100) := fun k => giv_bd h.gh.len hco k
  have HNF : Hid (∀ k, netF hs es co k = if (eAt es k).m = bx then ⟨0, .x⟩ else if (eAt es k).m = bd then ⟨0, .d⟩ else ⟨(eAt es k).s - givF hs co k, .o⟩) := fun _ => rfl
  have HGIV : Hid (∀ w, CEnv w v ve n hs es name → Calls Tryz.prog 93 #[v, .int .i64 co] w fun e w' => ∃ v', e = .returned v' ∧ St w w' [row 3 1 v' n (intsI (gl (givF hs co) n))]) := fun w h => given_any w v n hs co hco h.rh h.gh
  generalize givF hs co = G at *
  generalize hNF : netF hs es co = NF at *
  clear hNF
  obtain ⟨A, c, rfl, _, _, _⟩ := h.rh.open_
  obtain ⟨Ae, ce, rfl, _, _, _⟩ := h.re.open_
  clear h hl
  have hb := (Below.refl W.heap.size W).alloc (Nat.le_refl _) (.cells #[.string name, .slice Ae n ce, .int .i64 co] 54)
  have HB := Lib.hid hb
  have c1 : (W.alloc (.cells #[.string name, .slice Ae n ce, .int .i64 co] 54)).cell? ⟨W.heap.size, 1, none⟩ = some (.slice Ae n ce) := by simp
  have c2 : (W.alloc (.cells #[.string name, .slice Ae n ce, .int .i64 co] 54)).cell? ⟨W.heap.size, 2, none⟩ = some (.int .i64 co) := by simp
  have HE1 := Lib.hid (HE.out.later hb)
  clear hb
  go_enter Tryz.func62, Tryz.ntmps62
  go_wp2_with fail
  generalize W.alloc (.cells #[.string name, .slice Ae n ce, .int .i64 co] 54) = W1 at *
  generalize W.heap.size = gc at c1 c2 ⊢
  have hlt := World.block_lt_of_cell? _ _ c1
  go_at_call 93
  refine (HGIV.out _ HE1.out).mono ?_
  rintro e w3 ⟨vg, rfl, S⟩
  have d1 := (S.bel.cell (p := ⟨gc, 1, none⟩) hlt).trans c1
  have S2 := (St.of_below HB.out).call S
  obtain ⟨bg, cg, rfl⟩ := row_some S2 (i := 0) rfl (by omega)
  have HS := Lib.hid S2
  clear S S2 c1 c2 hlt HE1 HB HGIV
  go_wp2
  clear d1
  have S0 := HS.out.row_nil 99 2
  simp only [List.cons_append, List.nil_append] at S0
  clear HS
  go_loopw [17, 5] (fun i v w' => ∃ k : Nat, k ≤ n ∧ i = .int .i64 k ∧ St W w' [row 3 1 (.slice (some ⟨bg, 0, none⟩) n cg) n (intsI (gl G n)), row 99 2 v k ((nl NF k).flatMap NI.cells)]) (fun i _ _ => n - (intOf i).toNat)
  case atStart => exact ⟨0, Nat.zero_le _, rfl, S0⟩
  case round =>
    obtain ⟨k, hk, rfl, S⟩ := hrel
    clear S0
    by_cases hlt : k < n
    · have HEW := Lib.hid (HE.out.later S.bel)
      obtain ⟨b, o, x, rfl, hx, c0, c1⟩ := HEW.out.re.elem2 (k := k) (fun s : EI => .int .i64 s.s) (fun s : EI => .string s.m) (fun _ => rfl) hlt
      have hpl := HEW.out.ge k hlt
      have hnf := HNF.out k
      rw [eAt_eq hx] at hpl hnf
      have hpb := good_bd hpl
      have hgb := HGB.out k
      have HGA := Lib.hid (gl_at G hlt)
      have HSN := Lib.hid (nl_snoc NF k)
      generalize G k = gk at *
      generalize NF k = nk at *
      have HS := Lib.hid S
      obtain ⟨xs, xm⟩ := x
      simp only at c0 c1 hnf hpb
      have SA := (HS.out.blk_new #[.int .i64 xs, .string xm] 65)
      simp only [List.cons_append, List.nil_append] at SA
      clear hx S
      rcases hpl with ⟨hm | hm, _⟩ | ⟨hm | hm, _⟩
      · change xm = ⟨#[]⟩ at hm
        subst hm
        rw [if_neg (by unfold bx; decide), if_neg (by unfold bd; decide)] at hnf
        subst hnf
        go_wp2_with fail
        clear c0 c1
        have SA := SA.drew
        generalize wr.heap.size = gx at *
        generalize hwd : (wr.alloc (.cells #[.int .i64 xs, .string ⟨#[]⟩] 65)).drew = wd at SA
        have hwd' : (wr.alloc (.cells #[.int .i64 xs, .string ⟨#[]⟩] 65)).drew = wd := hwd
        clear hwd
        refine wp_head_tail' 0 10 2 [] [0, 1, 2, 3, 4, 5, 6, 7] rfl (fun w' => ∃ L, St W w' ([row 3 1 (.slice (some ⟨bg, 0, none⟩) n cg) n (intsI (gl G n)), row 99 2 u5 k ((nl NF k).flatMap NI.cells), blk gx 65 #[.int .i64 xs, .string ⟨#[]⟩]] ++ L)) (by kernel_rfl) (by kernel_rfl) (by rw [hwd']; exact ⟨[], SA⟩) ?_
        simp only [pick, List.filterMap_cons, List.filterMap_nil, List.getElem?_toArray, List.getElem?_cons_succ, List.getElem?_cons_zero]
        generalize hK : (fun w' => ∃ L, St W w' ([row 3 1 (.slice (some ⟨bg, 0, none⟩) n cg) n (intsI (gl G n)), row 99 2 u5 k ((nl NF k).flatMap NI.cells), blk gx 65 #[.int .i64 xs, .string ⟨#[]⟩]] ++ L)) = K
        have kS : ∀ y : Wd K, ∃ L, St W y.w ([row 3 1 (.slice (some ⟨bg, 0, none⟩) n cg) n (intsI (gl G n)), row 99 2 u5 k ((nl NF k).flatMap NI.cells), blk gx 65 #[.int .i64 xs, .string ⟨#[]⟩]] ++ L) := by subst hK; exact fun y => y.h
        have hK2 : ∀ w' L, St W w' ([row 3 1 (.slice (some ⟨bg, 0, none⟩) n cg) n (intsI (gl G n)), row 99 2 u5 k ((nl NF k).flatMap NI.cells), blk gx 65 #[.int .i64 xs, .string ⟨#[]⟩]] ++ L) → K w' := by subst hK; exact fun _ _ h => ⟨_, h⟩
        have hne : Nonempty (Wd K) := ⟨⟨wd, hK2 _ [] SA⟩⟩
        have k0 : ∀ y : Wd K, y.w.cell? ⟨gx, 0, none⟩ = some (.int .i64 xs) := fun y => by
          obtain ⟨L, h⟩ := kS y
          exact h.blk_cell (i := 2) rfl 0
        have k1 : ∀ y : Wd K, y.w.cell? ⟨bg, k, none⟩ = some (.int .i64 gk) := fun y => by
          obtain ⟨L, h⟩ := kS y
          have := rd_cellI (h.row_rd (i := 0) rfl) HGA.out
          rwa [Nat.zero_add] at this
        rw [hwd']
        clear hK kS hwd' HS
        refine wpQuiet_nil ?_
        change wpQuiet _ _ _ _ (_ :: _ :: _ :: _ :: _ :: _ :: _ :: _ :: []) _
        repeat (go_big_quiet_step ((fail)))
        refine wpQuiet_nil ?_
        clear k0 k1 hne
        refine headW_all (rs := [8]) (by kernel_rfl) (by simp) (by kernel_rfl) ?_
        intro i hi
        obtain rfl := List.mem_singleton.1 hi
        refine wpOp_list rfl ?_
        intro Q' hQ'
        go_wp2_with fail
        refine ⟨hK2 _ [] SA, ?_⟩
        refine headW_all (rs := [9]) (by kernel_rfl) (by simp) (by kernel_rfl) ?_
        intro i hi
        obtain rfl := List.mem_singleton.1 hi
        refine wpOp_list rfl ?_
        intro Q' hQ'
        go_wp2_with fail
        have SB := SA.alloc (.cells #[.int .i64 (xs - gk), .string ⟨#[]⟩] 99)
        refine ⟨hK2 _ [] SB, by kernel_rfl, ?_⟩
        clear hK2
        refine wpList_append_st eltN rfl _ _ rfl rfl SB (k := 1) rfl rfl (rd_two (by simp)) (one_net _ _ _) (by omega) (by omega) ?_
        intro v' w' S' _
        go_wp2_with fail
        refine NoPanic.normal ?_
        go_wp2
        go_roundw
        case rel =>
          refine ⟨k + 1, by omega, by go_num, ?_⟩
          have S3 := S'.sub (L' := [_, _]) (List.sublist_append_left [_, _] [_])
          rw [HSN.out, List.flatMap_append]
          simpa [NI.cells, mkN] using S3
        case measure => simp [intOf]; omega
      · change xm = ⟨#[99]⟩ at hm
        subst hm
        rw [if_neg (by unfold bx; decide), if_neg (by unfold bd; decide)] at hnf
        subst hnf
        go_wp2_with fail
        clear c0 c1
        have SA := SA.drew
        generalize wr.heap.size = gx at *
        generalize hwd : (wr.alloc (.cells #[.int .i64 xs, .string ⟨#[99]⟩] 65)).drew = wd at SA
        have hwd' : (wr.alloc (.cells #[.int .i64 xs, .string ⟨#[99]⟩] 65)).drew = wd := hwd
        clear hwd
        refine wp_head_tail' 0 10 2 [] [0, 1, 2, 3, 4, 5, 6, 7] rfl (fun w' => ∃ L, St W w' ([row 3 1 (.slice (some ⟨bg, 0, none⟩) n cg) n (intsI (gl G n)), row 99 2 u5 k ((nl NF k).flatMap NI.cells), blk gx 65 #[.int .i64 xs, .string ⟨#[99]⟩]] ++ L)) (by kernel_rfl) (by kernel_rfl) (by rw [hwd']; exact ⟨[], SA⟩) ?_
        simp only [pick, List.filterMap_cons, List.filterMap_nil, List.getElem?_toArray, List.getElem?_cons_succ, List.getElem?_cons_zero]
        generalize hK : (fun w' => ∃ L, St W w' ([row 3 1 (.slice (some ⟨bg, 0, none⟩) n cg) n (intsI (gl G n)), row 99 2 u5 k ((nl NF k).flatMap NI.cells), blk gx 65 #[.int .i64 xs, .string ⟨#[99]⟩]] ++ L)) = K
        have kS : ∀ y : Wd K, ∃ L, St W y.w ([row 3 1 (.slice (some ⟨bg, 0, none⟩) n cg) n (intsI (gl G n)), row 99 2 u5 k ((nl NF k).flatMap NI.cells), blk gx 65 #[.int .i64 xs, .string ⟨#[99]⟩]] ++ L) := by subst hK; exact fun y => y.h
        have hK2 : ∀ w' L, St W w' ([row 3 1 (.slice (some ⟨bg, 0, none⟩) n cg) n (intsI (gl G n)), row 99 2 u5 k ((nl NF k).flatMap NI.cells), blk gx 65 #[.int .i64 xs, .string ⟨#[99]⟩]] ++ L) → K w' := by subst hK; exact fun _ _ h => ⟨_, h⟩
        have hne : Nonempty (Wd K) := ⟨⟨wd, hK2 _ [] SA⟩⟩
        have k0 : ∀ y : Wd K, y.w.cell? ⟨gx, 0, none⟩ = some (.int .i64 xs) := fun y => by
          obtain ⟨L, h⟩ := kS y
          exact h.blk_cell (i := 2) rfl 0
        have k1 : ∀ y : Wd K, y.w.cell? ⟨bg, k, none⟩ = some (.int .i64 gk) := fun y => by
          obtain ⟨L, h⟩ := kS y
          have := rd_cellI (h.row_rd (i := 0) rfl) HGA.out
          rwa [Nat.zero_add] at this
        rw [hwd']
        clear hK kS hwd' HS
        refine wpQuiet_nil ?_
        change wpQuiet _ _ _ _ (_ :: _ :: _ :: _ :: _ :: _ :: _ :: _ :: []) _
        repeat (go_big_quiet_step ((fail)))
        refine wpQuiet_nil ?_
        clear k0 k1 hne
        refine headW_all (rs := [8]) (by kernel_rfl) (by simp) (by kernel_rfl) ?_
        intro i hi
        obtain rfl := List.mem_singleton.1 hi
        refine wpOp_list rfl ?_
        intro Q' hQ'
        go_wp2_with fail
        refine ⟨hK2 _ [] SA, ?_⟩
        refine headW_all (rs := [9]) (by kernel_rfl) (by simp) (by kernel_rfl) ?_
        intro i hi
        obtain rfl := List.mem_singleton.1 hi
        refine wpOp_list rfl ?_
        intro Q' hQ'
        go_wp2_with fail
        have SB := SA.alloc (.cells #[.int .i64 (xs - gk), .string ⟨#[]⟩] 99)
        refine ⟨hK2 _ [] SB, by kernel_rfl, ?_⟩
        clear hK2
        refine wpList_append_st eltN rfl _ _ rfl rfl SB (k := 1) rfl rfl (rd_two (by simp)) (one_net _ _ _) (by omega) (by omega) ?_
        intro v' w' S' _
        go_wp2_with fail
        refine NoPanic.normal ?_
        go_wp2
        go_roundw
        case rel =>
          refine ⟨k + 1, by omega, by go_num, ?_⟩
          have S3 := S'.sub (L' := [_, _]) (List.sublist_append_left [_, _] [_])
          rw [HSN.out, List.flatMap_append]
          simpa [NI.cells, mkN] using S3
        case measure => simp [intOf]; omega
      · change xm = ⟨#[120]⟩ at hm
        subst hm
        rw [if_pos (by rfl)] at hnf
        subst hnf
        go_wp2_with (at_builtin; refine wpList_append_st eltN rfl _ _ rfl rfl (SA.alloc _) (k := 1) rfl rfl (rd_two (by simp)) (one_net _ _ _) (by omega) (by omega) ?_; intro v' w' S' _)
        go_roundw
        case rel =>
          refine ⟨k + 1, by omega, by go_num, ?_⟩
          have S3 := S'.sub (L' := [_, _]) (List.sublist_append_left [_, _] [_])
          rw [HSN.out, List.flatMap_append]
          simpa [NI.cells, mkN] using S3
        case measure => simp [intOf]; omega
      · change xm = ⟨#[45]⟩ at hm
        subst hm
        rw [if_neg (by unfold bx; decide), if_pos (by rfl)] at hnf
        subst hnf
        go_wp2_with (at_builtin; refine wpList_append_st eltN rfl _ _ rfl rfl (SA.alloc _) (k := 1) rfl rfl (rd_two (by simp)) (one_net _ _ _) (by omega) (by omega) ?_; intro v' w' S' _)
        go_roundw
        case rel =>
          refine ⟨k + 1, by omega, by go_num, ?_⟩
          have S3 := S'.sub (L' := [_, _]) (List.sublist_append_left [_, _] [_])
          rw [HSN.out, List.flatMap_append]
          simpa [NI.cells, mkN] using S3
        case measure => simp [intOf]; omega
    · have HS := Lib.hid S
      clear S
      obtain rfl : k = n := by omega
      go_wp2
      go_ret
      exact ⟨u5, rfl, HS.out.sub (L' := [_]) (List.sublist_append_right [_] [_])⟩
end Go.Proofs.YtnaafefcijgpkaaGreatDoor
