/- Part 31 of the walks of the golf union's program: LR3. -/
import Derived.Test.YtbakoldmfpbnaaaGreatDoorB14
import Derived.Test.YtbakoldmfpbnaaaGreatDoorB06
import Derived.Test.YtbakoldmfpbnaaaGreatDoorB09
set_option linter.unusedVariables false
set_option linter.unusedSimpArgs false
set_option linter.unusedSectionVars false
set_option linter.constructorNameAsVariable false
/- TopLinksRaised: the player who took a stroke more. -/
namespace Go.Adj
open Go.RowKit Go.Mem
theorem flat_set2 : ∀ (l : List EI) (k : Nat) (x : EI) (s : Int), l[k]? = some x → (l.flatMap EI.cells).set (k * 2) (.int .i64 s) = (l.set k ⟨s, x.m⟩).flatMap EI.cells
  | [], _, _, _, h => by cases h
  | y :: l, 0, x, s, h => by cases h; rfl
  | y :: l, k + 1, x, s, h => by
    have ih := flat_set2 l k x s h
    rw [show (k + 1) * 2 = k * 2 + 1 + 1 by omega]
    show EI.cells y ++ _ = _
    rw [List.set_cons_succ, List.flatMap_cons, ← ih]
    rfl
end Go.Adj
namespace Go.Proofs.YtbakoldmfpbnaaaGreatDoor
open Go.RowKit Go.Mem Go.Sheet Go.Adj Go.Shelf
attribute [local go_sem] Oper.semAt_some
def upTo (es : List EI) (k : Nat) : List EI := (es.take k).map upE ++ es.drop k
theorem upTo_at {es : List EI} {k : Nat} {x : EI} (h : es[k]? = some x) : (upTo es k)[k]? = some x := by
  have hk := (List.getElem?_eq_some_iff.1 h).1
  unfold upTo
  rw [List.getElem?_append_right (by simp; omega)]
  simp only [List.length_map, List.length_take, List.getElem?_drop]
  rw [show k + (k - min k es.length) = k by omega]
  exact h
theorem upTo_succ {es : List EI} {k : Nat} {x : EI} (h : es[k]? = some x) : upTo es (k + 1) = (upTo es k).set k (upE x) := by
  have hk := (List.getElem?_eq_some_iff.1 h).1
  have hd : es.drop k = x :: es.drop (k + 1) := by
    rw [List.drop_eq_getElem_cons hk]
    have := (List.getElem?_eq_some_iff.1 h).2
    rw [this]
  unfold upTo
  rw [List.take_add_one, h, hd, List.map_append, List.set_append_right _ _ (by rw [List.length_map, List.length_take]; exact Nat.min_le_left _ _)]
  simp [Nat.min_eq_left (Nat.le_of_lt hk)]
theorem upTo_same {es : List EI} {k : Nat} {x : EI} (h : es[k]? = some x) (hu : upE x = x) : upTo es (k + 1) = upTo es k := by
  rw [upTo_succ h, hu]
  refine List.ext_getElem? fun j => ?_
  by_cases e : k = j
  · subst e; rw [List.getElem?_set_self (List.getElem?_eq_some_iff.1 (upTo_at h)).1, upTo_at h]
  · rw [List.getElem?_set_ne e]
theorem upTo_all (es : List EI) : upTo es es.length = es.map upE := by unfold upTo; simp
theorem upTo_len (es : List EI) (k : Nat) : (upTo es k).length = es.length := by
  unfold upTo; simp; omega
theorem eAt_map {es : List EI} {i : Nat} (h : i < es.length) : eAt (es.map upE) i = upE (eAt es i) := by
  rw [eAt_eq (x := upE (es[i])) (by rw [List.getElem?_map, List.getElem?_eq_getElem h]; rfl), eAt_eq (List.getElem?_eq_getElem h)]
theorem res_up (tmps : Array Value) (w : World) (g2 : Nat) (a b c d : Value) (h2 : tmps.getD 2 undef = .pointer (some ⟨g2, 0, none⟩)) (h3 : tmps.getD 3 undef = d)
    (c0 : w.cell? ⟨g2, 0, none⟩ = some a) (c1 : w.cell? ⟨g2, 1, none⟩ = some b) (c2 : w.cell? ⟨g2, 2, none⟩ = some c) : (results Tryz.f16 tmps).run Tryz.prog w = .ok (.tuple #[.agg #[a, b, c], d]) w := by
  have e2 : tmps[2]?.getD undef = .pointer (some ⟨g2, 0, none⟩) := by simpa using h2
  have e3 : tmps[3]?.getD undef = d := by simpa using h3
  simp [results, Tryz.results16, e2, e3, c0, c1, c2, go_sem]
set_option maxRecDepth 100000 in
set_option maxHeartbeats 4000000 in
theorem up1_any (W : World) (name : ByteArray) (ve : Value) (n : Nat) (es : List EI) (co : Int) (h : Rd W (· < W.heap.size) 2 ve n (es.flatMap EI.cells)) (hn : n ≤ 36) (hg : ∀ i, i < n → GoodE (eAt es i)) :
    Calls Tryz.prog 16 #[.agg #[.string name, ve, .int .i64 co]] W fun e w' => (e = .returned (.tuple #[.agg #[.string name, ve, .int .i64 co], .bool false]) ∧ Below W.heap.size W w') ∨
      (∃ v', e = .returned (.tuple #[.agg #[.string name, v', .int .i64 co], .bool true]) ∧ (∀ i, i < n → GoodE (eAt (es.map upE) i)) ∧ St W w' [row 54 2 v' n ((es.map upE).flatMap EI.cells)]) := by
  have hl := h.count (f := EI.cells) (fun _ => rfl) (by decide)
  obtain ⟨A, c, rfl, _, _, h⟩ := h.open_
  have H := Lib.hid h
  have HL := Lib.hid hl
  have HG := Lib.hid hg
  have H1 : Hid (∀ u ∈ es.flatMap EI.cells, u.oneCell' = true) := fun u hu => by
    obtain ⟨x, _, hx⟩ := List.mem_flatMap.1 hu
    simp only [EI.cells, List.mem_cons, List.not_mem_nil, or_false] at hx
    rcases hx with rfl | rfl <;> rfl
  have S0 := ((((St.refl W).blk_new #[.string name, .slice A n c, .int .i64 co] 33).blk_new #[.string ⟨#[]⟩, .slice none 0 0, .int .i64 0] 33).blk_new #[.string name, .slice A n c, .int .i64 co] 33).row_new (e := 54) (size := 2) (n := 0) #[] (by decide) rfl
  simp only [World.size_alloc, List.cons_append, List.nil_append] at S0
  have HS0 := Lib.hid S0
  clear h hg hl S0
  go_enter Tryz.func16, Tryz.ntmps16
  go_wp2_with (at_builtin; refine wpList_append_st eltE rfl _ _ rfl rfl HS0.out (k := 3) rfl rfl (H.out.later HS0.out.bel) H1.out (by omega) (by omega) ?_; intro v' w1 S1 _; rw [Nat.zero_add] at S1; simp only [List.set_cons_zero, List.set_cons_succ, List.nil_append] at S1; obtain ⟨A1, c1, rfl, _, _, _⟩ := (S1.row_rd (i := 3) rfl).open_; have HS1 := Lib.hid S1; have b0 := S1.blk_cell (i := 2) rfl 0; have b1 := S1.blk_cell (i := 2) rfl 1; have b2 := S1.blk_cell (i := 2) rfl 2; have fz := S1.blk_frozen (i := 2) rfl 1; clear S1)
  have S2 := HS1.out.blk_set (i := 2) rfl 1 (.slice A1 n c1)
  simp only [List.set_cons_zero, List.set_cons_succ] at S2
  obtain ⟨g1, hg1⟩ : ∃ x, x = W.heap.size := ⟨_, rfl⟩
  obtain ⟨g2, hg2⟩ : ∃ x, x = W.heap.size + 1 := ⟨_, rfl⟩
  obtain ⟨g4, hg4⟩ : ∃ x, x = W.heap.size + 1 + 1 := ⟨_, rfl⟩
  rw [← hg4, ← hg2, ← hg1] at S2 ⊢
  clear hg1 hg2 hg4 HS0 HS1 b0 b1 b2 fz
  go_loopw [19] (fun i w' => ∃ k : Nat, k ≤ n ∧ i = .int .i64 k ∧ Hid (∀ i, i < k → GoodE (upE (eAt es i))) ∧ St W w' [blk g1 33 #[.string name, .slice A n c, .int .i64 co], blk g2 33 #[.string ⟨#[]⟩, .slice none 0 0, .int .i64 0], blk g4 33 #[.string name, .slice A1 n c1, .int .i64 co], row 54 2 (.slice A1 n c1) n ((upTo es k).flatMap EI.cells)]) (fun i _ => n - (intOf i).toNat)
  case atStart => exact ⟨0, Nat.zero_le _, rfl, fun i hi => by omega, S2⟩
  case round =>
    obtain ⟨k, hk, rfl, hup, S⟩ := hrel
    clear S2
    by_cases hlt : k < n
    · obtain ⟨x, hx⟩ : ∃ x, es[k]? = some x := ⟨es[k]'(by have := HL.out; omega), List.getElem?_eq_getElem _⟩
      have hgx := HG.out k hlt
      rw [eAt_eq hx] at hgx
      have hat := upTo_at hx
      obtain ⟨g, cap, hv, _, _, _, hcell, hfz⟩ := S.row_form (i := 3) rfl (by omega)
      cases hv
      have e0 : wr.cell? ⟨g, k * 2, none⟩ = some (.int .i64 x.s) := (hcell (k * 2) (by omega)).trans (flatMap_at (f := EI.cells) (s := 2) (j := 0) (fun _ _ => rfl) hat rfl)
      have e1 : wr.cell? ⟨g, k * 2 + 1, none⟩ = some (.string x.m) := (hcell (k * 2 + 1) (by omega)).trans (flatMap_at (f := EI.cells) (s := 2) (j := 1) (fun _ _ => rfl) hat rfl)
      have hfz0 := hfz (k * 2)
      have HX := Lib.hid hx
      have HAT := Lib.hid hat
      have SB := S.blk_new #[.int .i64 x.s, .string x.m] 54
      simp only [List.cons_append, List.nil_append] at SB
      have d0 := SB.blk_cell (i := 2) rfl 1
      have d1 := SB.blk_cell (i := 0) rfl 0
      have d2 := SB.blk_cell (i := 0) rfl 1
      have d3 := SB.blk_cell (i := 0) rfl 2
      have d4 := SB.blk_cell (i := 4) rfl 0
      have d5 := SB.blk_cell (i := 4) rfl 1
      have hglt : g < wr.heap.size := World.block_lt_of_cell? _ _ e0
      have c2 : (wr.alloc (.cells #[.int .i64 x.s, .string x.m] 54)).cell? ⟨g, k * 2, none⟩ = some (.int .i64 x.s) := (((Below.refl wr.heap.size wr).alloc (Nat.le_refl _) _).cell (p := ⟨g, k * 2, none⟩) hglt).trans e0
      have hrow := SB.row_form (i := 3) rfl (by omega)
      obtain ⟨g', cap', hv', _, _, _, _, hfz2⟩ := hrow
      cases hv'
      have c3 := hfz2 (k * 2)
      have HSB := Lib.hid SB
      have HS0 := Lib.hid S
      clear hx hat S hcell hfz hfz0 hfz2 SB
      obtain ⟨xs, xm⟩ := x
      dsimp only at e0 e1 c2 d4 d5
      rcases hgx with ⟨hm | hm, h1, h2⟩ | ⟨hm | hm, hs⟩
      · change xm = be at hm
        subst hm
        change 1 ≤ xs at h1
        change xs ≤ 99 at h2
        have hub : upE ⟨xs, be⟩ = ⟨xs + 1, be⟩ := if_pos (.inl rfl)
        have HUB := Lib.hid hub
        clear hub
        unfold be at e1 c2 c3 d0 d1 d2 d3 d4 d5 HSB
        by_cases h99 : xs = 99
        · subst h99
          have SR := HSB.out.blk_row (i := 1) rfl #[.string name, .slice A n c, .int .i64 co]
          have HSR := Lib.hid SR
          clear SR
          go_wp2_with (refine wpList_store_row rfl 33 (.tmp 2) (.tmp 35) rfl g2 #[.string name, .slice A n c, .int .i64 co] rfl rfl 33 _ (HSB.out.blk_at (i := 1) rfl).2.2 (by kernel_rfl) rfl (by simp [Value.oneCell']) ?_)
          exact bodyPost_ret (res_up _ _ g2 _ _ _ _ rfl rfl (HSR.out.blk_cell (i := 1) rfl 0) (HSR.out.blk_cell (i := 1) rfl 1) (HSR.out.blk_cell (i := 1) rfl 2)) rfl (.inl ⟨rfl, HSR.out.bel⟩)
        · have h9 : (xs == 99) = false := by simpa using h99
          have hx1 : IntKind.i64.wrap (xs + 1) = xs + 1 := IntWalk.i64_in _ (by omega)
          go_wp2
          have S9 := (HS0.out.row_set (i := 3) rfl (k * 2) (.int .i64 (xs + 1))).alloc (.cells #[.int .i64 xs, .string be] 54)
          have hfs := flat_set2 _ _ _ (xs + 1) HAT.out
          go_roundw
          case rel =>
            refine ⟨k + 1, by omega, by go_num, fun i hi => ?_, ?_⟩
            · by_cases e : i = k
              · subst e
                rw [eAt_eq HX.out, HUB.out]
                exact .inl ⟨.inl rfl, by show 1 ≤ xs + 1; omega, by show xs + 1 ≤ 99; omega⟩
              · exact hup.out i (by omega)
            · rw [upTo_succ HX.out, HUB.out]
              have S10 := S9
              simp only [List.set_cons_zero, List.set_cons_succ] at S10
              exact hfs ▸ S10
          case measure => simp [intOf]; omega
      · change xm = bc at hm
        subst hm
        change 1 ≤ xs at h1
        change xs ≤ 99 at h2
        have hub : upE ⟨xs, bc⟩ = ⟨xs + 1, bc⟩ := if_pos (.inr rfl)
        have HUB := Lib.hid hub
        clear hub
        unfold bc at e1 c2 c3 d0 d1 d2 d3 d4 d5 HSB
        by_cases h99 : xs = 99
        · subst h99
          have SR := HSB.out.blk_row (i := 1) rfl #[.string name, .slice A n c, .int .i64 co]
          have HSR := Lib.hid SR
          clear SR
          go_wp2_with (refine wpList_store_row rfl 33 (.tmp 2) (.tmp 35) rfl g2 #[.string name, .slice A n c, .int .i64 co] rfl rfl 33 _ (HSB.out.blk_at (i := 1) rfl).2.2 (by kernel_rfl) rfl (by simp [Value.oneCell']) ?_)
          exact bodyPost_ret (res_up _ _ g2 _ _ _ _ rfl rfl (HSR.out.blk_cell (i := 1) rfl 0) (HSR.out.blk_cell (i := 1) rfl 1) (HSR.out.blk_cell (i := 1) rfl 2)) rfl (.inl ⟨rfl, HSR.out.bel⟩)
        · have h9 : (xs == 99) = false := by simpa using h99
          have hx1 : IntKind.i64.wrap (xs + 1) = xs + 1 := IntWalk.i64_in _ (by omega)
          go_wp2
          have S9 := (HS0.out.row_set (i := 3) rfl (k * 2) (.int .i64 (xs + 1))).alloc (.cells #[.int .i64 xs, .string bc] 54)
          have hfs := flat_set2 _ _ _ (xs + 1) HAT.out
          go_roundw
          case rel =>
            refine ⟨k + 1, by omega, by go_num, fun i hi => ?_, ?_⟩
            · by_cases e : i = k
              · subst e
                rw [eAt_eq HX.out, HUB.out]
                exact .inl ⟨.inr rfl, by show 1 ≤ xs + 1; omega, by show xs + 1 ≤ 99; omega⟩
              · exact hup.out i (by omega)
            · rw [upTo_succ HX.out, HUB.out]
              have S10 := S9
              simp only [List.set_cons_zero, List.set_cons_succ] at S10
              exact hfs ▸ S10
          case measure => simp [intOf]; omega
      · change xm = bx at hm
        subst hm
        have hub : upE ⟨xs, bx⟩ = ⟨xs, bx⟩ := if_neg (by show ¬ (bx = be ∨ bx = bc); decide)
        have HUB := Lib.hid hub
        clear hub
        unfold bx at e1 c2 c3 d0 d1 d2 d3 d4 d5 HSB
        go_wp2
        go_roundw
        case rel =>
          refine ⟨k + 1, by omega, by go_num, fun i hi => ?_, ?_⟩
          · by_cases e : i = k
            · subst e
              rw [eAt_eq HX.out, HUB.out]
              exact .inr ⟨.inl rfl, hs⟩
            · exact hup.out i (by omega)
          · rw [upTo_same HX.out HUB.out]
            exact HSB.out.sub (L' := [_, _, _, _]) (List.sublist_append_left [_, _, _, _] [_])
        case measure => simp [intOf]; omega
      · change xm = bd at hm
        subst hm
        have hub : upE ⟨xs, bd⟩ = ⟨xs, bd⟩ := if_neg (by show ¬ (bd = be ∨ bd = bc); decide)
        have HUB := Lib.hid hub
        clear hub
        unfold bd at e1 c2 c3 d0 d1 d2 d3 d4 d5 HSB
        go_wp2
        go_roundw
        case rel =>
          refine ⟨k + 1, by omega, by go_num, fun i hi => ?_, ?_⟩
          · by_cases e : i = k
            · subst e
              rw [eAt_eq HX.out, HUB.out]
              exact .inr ⟨.inr rfl, hs⟩
            · exact hup.out i (by omega)
          · rw [upTo_same HX.out HUB.out]
            exact HSB.out.sub (L' := [_, _, _, _]) (List.sublist_append_left [_, _, _, _] [_])
        case measure => simp [intOf]; omega
    · obtain rfl : k = n := by omega
      have SR := S.blk_row (i := 1) rfl #[.string name, .slice A1 k c1, .int .i64 co]
      have q0 := S.blk_cell (i := 2) rfl 0
      have q1 := S.blk_cell (i := 2) rfl 1
      have q2 := S.blk_cell (i := 2) rfl 2
      have HSR := Lib.hid SR
      have HS := Lib.hid S
      clear SR S
      go_wp2_with (refine wpList_store_row rfl 33 (.tmp 2) (.tmp 47) rfl g2 #[.string name, .slice A1 k c1, .int .i64 co] rfl rfl 33 _ (HS.out.blk_at (i := 1) rfl).2.2 (by kernel_rfl) rfl (by simp [Value.oneCell']) ?_)
      refine bodyPost_ret (res_up _ _ g2 _ _ _ _ rfl rfl (HSR.out.blk_cell (i := 1) rfl 0) (HSR.out.blk_cell (i := 1) rfl 1) (HSR.out.blk_cell (i := 1) rfl 2)) rfl (.inr ⟨_, rfl, fun i hi => ?_, ?_⟩)
      · rw [eAt_map (by have := HL.out; omega)]; exact hup.out i hi
      · have e : upTo es k = es.map upE := by rw [HL.out, upTo_all]
        rw [← e]
        exact HSR.out.sub (L' := [_]) (.cons _ (.cons _ (.cons _ (List.Sublist.refl _))))
end Go.Proofs.YtbakoldmfpbnaaaGreatDoor
