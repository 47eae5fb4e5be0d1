/- Chapter 5: the best of several net strokes. -/
import Derived.Test.YtbakoldmfpbnaaaGreatDoorP4
set_option linter.unusedVariables false
set_option linter.unusedSimpArgs false
set_option linter.unusedSectionVars false
set_option linter.constructorNameAsVariable false
namespace Go.Proofs.YtbakoldmfpbnaaaGreatDoor
open Go.RowKit Go.Mem Go.Sheet Go.Adj
def stepB (o : NI × Nat) (n : NI) : NI × Nat := (if isO n.x then (if isO o.1.x then (if n.s < o.1.s then n else o.1) else n) else o.1, if isD n.x then o.2 + 1 else o.2)
def accB (l : List NI) : NI × Nat := l.foldl stepB (⟨0, .x⟩, 0)
theorem accB_take {l : List NI} {k : Nat} {x : NI} (h : l[k]? = some x) : accB (l.take (k + 1)) = stepB (accB (l.take k)) x := by
  unfold accB
  rw [List.take_add_one, h, List.foldl_append]; rfl
theorem accB_le (l : List NI) : ∀ o : NI × Nat, (l.foldl stepB o).2 ≤ o.2 + l.length := by
  induction l with
  | nil => intro o; exact Nat.le_refl _
  | cons x l ih =>
    intro o
    have h := ih (stepB o x)
    have h2 : (stepB o x).2 ≤ o.2 + 1 := by unfold stepB; dsimp only; split <;> omega
    rw [List.foldl_cons, List.length_cons]; omega
def bestL (l : List NI) : NI := if (accB l).2 = l.length then ⟨0, .d⟩ else (accB l).1
theorem best_two (a b : NI) : bestL [a, b] = bestN a b := by
  obtain ⟨sa, ax⟩ := a
  obtain ⟨sb, bx⟩ := b
  unfold bestL accB bestN
  cases ax <;> cases bx <;> simp [stepB, isO, isD]
theorem res_best (tmps : Array Value) (w : World) (g2 : Nat) (a b : Value) (h2 : tmps.getD 2 undef = .pointer (some ⟨g2, 0, none⟩)) (c0 : w.cell? ⟨g2, 0, none⟩ = some a) (c1 : w.cell? ⟨g2, 1, none⟩ = some b) : (results Tryz.f48 tmps).run Tryz.prog w = .ok (.agg #[a, b]) w := by
  have e2 : tmps[2]?.getD undef = .pointer (some ⟨g2, 0, none⟩) := by simpa using h2
  simp [results, Tryz.results48, e2, c0, c1, go_sem]
set_option maxRecDepth 100000 in
set_option maxHeartbeats 4000000 in
theorem best_ok (W : World) (v : Value) (n : Nat) (l : List NI) (hn : n ≤ 36) (h : Rd W (· < W.heap.size) 2 v n (l.flatMap NI.cells)) :
    Calls Tryz.prog 48 #[v] W fun e w' => e = .returned (bestL l).val ∧ Below W.heap.size W w' := by
  have HL := Lib.hid (h.count (f := NI.cells) (size := 2) (fun _ => rfl) (by decide))
  obtain ⟨A, c, rfl, _, _, h⟩ := h.open_
  have H := Lib.hid h
  have S0 := ((St.refl W).blk_new #[.int .i64 0, .string ⟨#[]⟩] 64).blk_new #[.int .i64 0, .string ⟨#[120]⟩] 64
  simp only [World.size_alloc, List.cons_append, List.nil_append] at S0
  have HS0 := Lib.hid S0
  clear h S0
  go_enter Tryz.func48, Tryz.ntmps48
  go_wp2
  obtain ⟨g2, hg2⟩ : ∃ x, x = W.heap.size := ⟨_, rfl⟩
  obtain ⟨g3, hg3⟩ : ∃ x, x = W.heap.size + 1 := ⟨_, rfl⟩
  have S0 := HS0.out
  rw [← hg3, ← hg2] at S0 ⊢
  have h23 : g2 ≠ g3 := by omega
  have h32 : g3 ≠ g2 := by omega
  clear hg2 hg3 HS0
  go_loopw [10, 4] (fun i wv w' => ∃ k : Nat, k ≤ n ∧ i = .int .i64 k ∧ wv = .int .i64 ((accB (l.take k)).2 : Nat) ∧ St W w' [blk g2 64 #[.int .i64 0, .string ⟨#[]⟩], blk g3 64 #[.int .i64 (accB (l.take k)).1.s, .string (mkN (accB (l.take k)).1.x)]]) (fun i _ _ => n - (intOf i).toNat)
  case atStart => exact ⟨0, Nat.zero_le _, rfl, rfl, S0⟩
  case round =>
    obtain ⟨k, hk, rfl, rfl, S⟩ := hrel
    clear S0
    by_cases hlt : k < n
    · obtain ⟨b, o, x, hA, hx, c0, c1⟩ := net_elem (H.out.later S.bel) hlt
      subst hA
      have hnx := accB_take hx
      have hle := accB_le (l.take k) (⟨0, .x⟩, 0)
      change (accB (l.take k)).2 ≤ 0 + _ at hle
      rw [List.length_take] at hle
      have hle2 : (accB (l.take k)).2 ≤ 36 := by omega
      clear hle
      generalize accB (l.take k) = O at *
      obtain ⟨⟨os, om⟩, ow⟩ := O
      obtain ⟨xs, xm⟩ := x
      have HNX := Lib.hid hnx
      have S5 := S.blk_new #[.int .i64 xs, .string (mkN xm)] 64
      simp only [List.cons_append, List.nil_append] at S5
      have HS5 := Lib.hid S5
      dsimp only at c0 c1 hle2
      have d0 := S5.blk_cell (i := 2) rfl 0
      have d1 := S5.blk_cell (i := 2) rfl 1
      cases xm
      · have hst : stepB ((⟨os, om⟩ : NI), ow) ⟨xs, .o⟩ = (if isO om then (if xs < os then ⟨xs, .o⟩ else ⟨os, om⟩) else ⟨xs, .o⟩, ow) := rfl
        have HC : Hid (∀ w, Calls Tryz.prog 39 #[.agg #[.int .i64 xs, .string (mkN .o)]] w fun r w' => r = .returned (.bool true) ∧ Below w.heap.size w w') := fun w => counts_any xs .o w
        have HD : Hid (∀ w, Calls Tryz.prog 39 #[.agg #[.int .i64 os, .string (mkN om)]] w fun r w' => r = .returned (.bool (isO om)) ∧ Below w.heap.size w w') := fun w => counts_any os om w
        rw [hst] at HNX
        clear hst hx S S5 hnx
        simp only [mkN] at c0 c1 d0 d1 HC
        obtain ⟨omv, hmk⟩ : ∃ v, v = mkN om := ⟨_, rfl⟩
        obtain ⟨io, hio⟩ : ∃ v, v = isO om := ⟨_, rfl⟩
        rw [← hmk] at HS5 HD
        rw [← hio] at HD HNX
        have HMK := Lib.hid hmk
        clear hmk hio
        rw [show mkN MK.o = ⟨#[]⟩ from rfl] at HS5
        go_wp2_with fail
        generalize hw5 : wr.alloc (.cells #[.int .i64 xs, .string ⟨#[]⟩] 64) = w5 at *
        generalize wr.heap.size = gx at *
        go_at_call 39
        refine (HC.out _).mono ?_
        rintro e w6 ⟨rfl, hb6⟩
        have S6 := HS5.out.ext hb6
        have o0 := S6.blk_cell (i := 1) rfl 0
        have o1 := S6.blk_cell (i := 1) rfl 1
        have HS6 := Lib.hid S6
        clear S6 hb6 HS5 d0 d1 c0 c1 hw5
        go_wp2_with fail
        go_at_call 39
        refine (HD.out _).mono ?_
        rintro e w7 ⟨rfl, hb7⟩
        have S7 := HS6.out.ext hb7
        have o0 := S7.blk_cell (i := 1) rfl 0
        have o1 := S7.blk_cell (i := 1) rfl 1
        have f0 := S7.blk_frozen (i := 1) rfl 0
        have f1 := S7.blk_frozen (i := 1) rfl 1
        have d0 := S7.blk_cell (i := 2) rfl 0
        have d1 := S7.blk_cell (i := 2) rfl 1
        have HS7 := Lib.hid S7
        clear S7 hb7 HS6
        cases io
        · simp only [Bool.false_eq_true, if_false] at HNX
          go_wp2_with fail
          refine ⟨⟨k + 1, by omega, by go_num, by rw [HNX.out], ?_⟩, by simp [intOf]; omega⟩
          rw [HNX.out]
          have S8 := ((HS7.out.blk_set (i := 1) rfl 0 (.int .i64 xs)).blk_set (i := 1) rfl 1 (.string ⟨#[]⟩)).sub (L' := [_, _]) (List.sublist_append_left [_, _] [_])
          exact S8
        · by_cases hl : xs < os
          · have hl1 : decide (xs < os) = true := by simpa using hl
            simp only [if_true, if_pos hl] at HNX
            go_wp2_with fail
            refine ⟨⟨k + 1, by omega, by go_num, by rw [HNX.out], ?_⟩, by simp [intOf]; omega⟩
            rw [HNX.out]
            have S8 := ((HS7.out.blk_set (i := 1) rfl 0 (.int .i64 xs)).blk_set (i := 1) rfl 1 (.string ⟨#[]⟩)).sub (L' := [_, _]) (List.sublist_append_left [_, _] [_])
            exact S8
          · have hl1 : decide (xs < os) = false := by simpa using hl
            simp only [if_true, if_neg hl] at HNX
            go_wp2_with fail
            refine ⟨⟨k + 1, by omega, by go_num, by rw [HNX.out], ?_⟩, by simp [intOf]; omega⟩
            rw [HNX.out]
            have S8 := HS7.out.sub (L' := [_, _]) (List.sublist_append_left [_, _] [_])
            rw [HMK.out] at S8
            exact S8
      · have hst : stepB ((⟨os, om⟩ : NI), ow) ⟨xs, .x⟩ = (⟨os, om⟩, ow) := rfl
        have HC : Hid (∀ w, Calls Tryz.prog 39 #[.agg #[.int .i64 xs, .string ⟨#[120]⟩]] w fun r w' => r = .returned (.bool false) ∧ Below w.heap.size w w') := fun w => counts_any xs .x w
        rw [hst] at HNX
        clear hst hx S S5 hnx
        rw [show mkN MK.x = ⟨#[120]⟩ from rfl] at c1 d1 HS5
        obtain ⟨omv, hmk⟩ : ∃ v, v = mkN om := ⟨_, rfl⟩
        rw [← hmk] at HS5
        have HMK := Lib.hid hmk
        clear hmk
        go_wp2_with fail
        generalize hw5 : wr.alloc (.cells #[.int .i64 xs, .string ⟨#[120]⟩] 64) = w5 at *
        generalize wr.heap.size = gx at *
        go_at_call 39
        refine (HC.out _).mono ?_
        rintro e w6 ⟨rfl, hb6⟩
        have S6 := HS5.out.ext hb6
        have HS6 := Lib.hid S6
        clear S6 hb6 HS5 d0 d1 c0 c1 hw5
        go_wp2_with fail
        refine ⟨⟨k + 1, by omega, by go_num, by rw [HNX.out], ?_⟩, by simp [intOf]; omega⟩
        rw [HNX.out]
        have S8 := HS6.out.sub (L' := [_, _]) (List.sublist_append_left [_, _] [_])
        rw [HMK.out] at S8
        exact S8
      · have hst : stepB ((⟨os, om⟩ : NI), ow) ⟨xs, .d⟩ = (⟨os, om⟩, ow + 1) := rfl
        have HC : Hid (∀ w, Calls Tryz.prog 39 #[.agg #[.int .i64 xs, .string ⟨#[45]⟩]] w fun r w' => r = .returned (.bool false) ∧ Below w.heap.size w w') := fun w => counts_any xs .d w
        rw [hst] at HNX
        clear hst hx S S5 hnx
        rw [show mkN MK.d = ⟨#[45]⟩ from rfl] at c1 d1 HS5
        obtain ⟨omv, hmk⟩ : ∃ v, v = mkN om := ⟨_, rfl⟩
        rw [← hmk] at HS5
        have HMK := Lib.hid hmk
        clear hmk
        go_wp2_with fail
        generalize hw5 : wr.alloc (.cells #[.int .i64 xs, .string ⟨#[45]⟩] 64) = w5 at *
        generalize wr.heap.size = gx at *
        go_at_call 39
        refine (HC.out _).mono ?_
        rintro e w6 ⟨rfl, hb6⟩
        have S6 := HS5.out.ext hb6
        have HS6 := Lib.hid S6
        clear S6 hb6 HS5 d0 d1 c0 c1 hw5
        go_wp2_with fail
        refine ⟨⟨k + 1, by omega, by go_num, by rw [HNX.out]; rfl, ?_⟩, by simp [intOf]; omega⟩
        rw [HNX.out]
        have S8 := HS6.out.sub (L' := [_, _]) (List.sublist_append_left [_, _] [_])
        rw [HMK.out] at S8
        exact S8
    · obtain rfl : n = k := by omega
      have hlt' : l.take n = l := List.take_of_length_le (by rw [← HL.out]; omega)
      rw [hlt'] at S ⊢
      have hbl : bestL l = if (accB l).2 = n then ⟨0, .d⟩ else (accB l).1 := by unfold bestL; rw [HL.out]
      have HBL := Lib.hid hbl
      clear hlt' hbl
      generalize accB l = O at *
      obtain ⟨⟨os, om⟩, ow⟩ := O
      dsimp only at S HBL ⊢
      obtain ⟨omv, hmk⟩ : ∃ v, v = mkN om := ⟨_, rfl⟩
      rw [← hmk] at S
      have HMK := Lib.hid hmk
      clear hmk
      have f0 := S.blk_frozen (i := 0) rfl 0
      have f1 := S.blk_frozen (i := 0) rfl 1
      have b0 := S.blk_cell (i := 0) rfl 0
      have b1 := S.blk_cell (i := 0) rfl 1
      have o0 := S.blk_cell (i := 1) rfl 0
      have o1 := S.blk_cell (i := 1) rfl 1
      have HS := Lib.hid S
      clear S
      by_cases hw : ow = n
      · have t1 : ((ow : Int) == (n : Int)) = true := by simp [hw]
        go_wp2_with fail
        have S8 := (HS.out.blk_set (i := 0) rfl 0 (.int .i64 0)).blk_set (i := 0) rfl 1 (.string ⟨#[45]⟩)
        refine bodyPost_ret (res_best _ _ g2 _ _ rfl (S8.blk_cell (i := 0) rfl 0) (S8.blk_cell (i := 0) rfl 1)) rfl ?_
        refine ⟨?_, S8.bel⟩
        rw [HBL.out, if_pos hw]
        rfl
      · have t1 : ((ow : Int) == (n : Int)) = false := by simp; omega
        go_wp2_with fail
        have S8 := (HS.out.blk_set (i := 0) rfl 0 (.int .i64 os)).blk_set (i := 0) rfl 1 (.string omv)
        refine bodyPost_ret (res_best _ _ g2 _ _ rfl (S8.blk_cell (i := 0) rfl 0) (S8.blk_cell (i := 0) rfl 1)) rfl ?_
        refine ⟨?_, S8.bel⟩
        rw [HBL.out, if_neg hw, HMK.out]
        rfl
end Go.Proofs.YtbakoldmfpbnaaaGreatDoor
/- Chapter 5: Fourball. -/
namespace Go.Proofs.YtbakoldmfpbnaaaGreatDoor
open Go.RowKit Go.Mem Go.Sheet Go.Adj
theorem made_net : ∀ n : Nat, (madeCells (.agg #[.int .i64 0, .string ⟨#[]⟩] : Value).cells (n * 2)).toList = (nl (fun _ => ⟨0, .o⟩) n).flatMap NI.cells
  | 0 => by
    show (madeCells #[.int .i64 0, .string ⟨#[]⟩] (0 * 2)).toList = _
    simp [madeCells, nl]
  | n + 1 => by
    have ih := made_net n
    rw [nl_snoc, List.flatMap_append, ← ih]
    show (madeCells #[.int .i64 0, .string ⟨#[]⟩] ((n + 1) * 2)).toList = (madeCells #[.int .i64 0, .string ⟨#[]⟩] (n * 2)).toList ++ _
    unfold madeCells
    rw [show (n + 1) * 2 = n * 2 + 1 + 1 by omega]
    simp only [Array.toList_map, Array.toList_range, List.range_succ, List.map_append, List.map_cons, List.map_nil, List.append_assoc, List.cons_append, List.nil_append]
    rw [show (n * 2) % (#[Value.int .i64 0, Value.string ⟨#[]⟩]).size = 0 by simp, show (n * 2 + 1) % (#[Value.int .i64 0, Value.string ⟨#[]⟩]).size = 1 by simp]
    rfl
theorem flat_setN : ∀ (l : List NI) (k : Nat) (x : NI), k < l.length → ((l.flatMap NI.cells).set (k * 2) (.int .i64 x.s)).set (k * 2 + 1) (.string (mkN x.x)) = (l.set k x).flatMap NI.cells
  | [], k, x, h => by cases h
  | y :: l, 0, x, h => rfl
  | y :: l, k + 1, x, h => by
    have ih := flat_setN l k x (by simpa using h)
    rw [List.set_cons_succ, List.flatMap_cons, List.flatMap_cons, ← ih, show (k + 1) * 2 = k * 2 + 1 + 1 by omega]
    rfl
/-- the first k of a list, the others not yet there -/
def mixF (B : Nat → NI) (k i : Nat) : NI := if i < k then B i else ⟨0, .o⟩
theorem mixF_set (B : Nat → NI) {n k : Nat} (h : k < n) : (nl (mixF B k) n).set k (B k) = nl (mixF B (k + 1)) n := by
  apply List.ext_getElem?
  intro i
  rw [List.getElem?_set, nl_len]
  by_cases e : k = i
  · subst e
    rw [if_pos rfl, if_pos h, nl_at _ h]
    unfold mixF
    rw [if_pos (by omega)]
  · rw [if_neg e]
    by_cases hi : i < n
    · rw [nl_at _ hi, nl_at _ hi]
      unfold mixF
      by_cases h2 : i < k
      · rw [if_pos h2, if_pos (by omega)]
      · rw [if_neg h2, if_neg (by omega)]
    · rw [List.getElem?_eq_none (by rw [nl_len]; omega), List.getElem?_eq_none (by rw [nl_len]; omega)]
theorem mixF_all (B : Nat → NI) (n : Nat) : nl (mixF B n) n = nl B n := by
  unfold nl
  refine List.map_congr_left fun i hi => ?_
  have := List.mem_range.1 hi
  unfold mixF
  rw [if_pos this]
theorem mixF_none (B : Nat → NI) (n : Nat) : nl (mixF B 0) n = nl (fun _ => ⟨0, .o⟩) n := by
  unfold nl
  refine List.map_congr_left fun i hi => ?_
  unfold mixF
  rw [if_neg (by omega)]
def plN (hs : List HI) (ps : List PI) (j : Nat) : Nat → NI := netF hs (pAt ps j).es (pAt ps j).co
def foF (hs : List HI) (ps : List PI) (m i : Nat) : NI := bestL (nl (fun j => plN hs ps j i) m)
set_option maxRecDepth 100000 in
set_option maxHeartbeats 4000000 in
theorem fourball_ok (W : World) (v vp : Value) (n m : Nat) (hs : List HI) (ps : List PI) (hgh : GoodH hs) (h : Rd W (· < W.heap.size) 2 v n (hs.flatMap HI.cells)) (hp : RdPl W (· < W.heap.size) vp m ps) (hg : GoodPs hs ps m) (hm : 2 ≤ m ∧ m ≤ 4) :
    Calls Tryz.prog 17 #[v, vp] W fun e w' => ∃ v', e = .returned (.tuple #[v', .int .i64 0]) ∧ St W w' [row 64 2 v' n ((nl (foF hs ps m) n).flatMap NI.cells)] := by
  have hl : n = hs.length := h.count (f := HI.cells) (size := 2) (fun _ => rfl) (by decide)
  have hn := hgh.len
  rw [← hl] at hn
  have HCH := Lib.hid (checkHoles_ok W v n hs h hgh)
  have HCP : Hid (∀ w, Below W.heap.size W w → Calls Tryz.prog 45 #[v, vp] w fun e w' => e = .returned (.int .i64 0) ∧ Below w.heap.size w w') := fun w hb => checkPlayers_ok w v vp n m hs ps (h.later hb) (hp.later hb) hg (by omega)
  obtain ⟨A, c, rfl, _, _, _⟩ := h.open_
  obtain ⟨Ap, cp, rfl, _, _, _⟩ := hp.1.open_
  have H := Lib.hid h
  have HPL := Lib.hid hp
  have HG := Lib.hid hg
  have HL := Lib.hid hl
  have HGH := Lib.hid hgh
  have t1 : decide ((m : Int) < 2) = false := by simp; omega
  have t2 : decide ((4 : Int) < (m : Int)) = false := by simp; omega
  clear h hp hg hl hgh
  go_enter Tryz.func17, Tryz.ntmps17
  go_wp2_with fail
  go_at_call 41
  refine HCH.out.mono ?_
  rintro e w1 ⟨rfl, hb1⟩
  have HB1 : Hid (Below W.heap.size W (w1.alloc (.cells #[.int .i64 0, .int .i64 0] 34))) := hb1.alloc hb1.size _
  clear hb1 HCH
  go_wp2_with (first
    | (go_at_call 42; refine (formatNo _ _).mono ?_; rintro e w' ⟨rfl, rfl⟩)
    | (go_at_call 40; refine (formatOk2 _ _ (by simp) (by simp) (by simp)).mono ?_; rintro e w' ⟨rfl, rfl⟩)
    | (go_at_call 45; refine (HCP.out _ HB1.out).mono ?_; rintro e w2 ⟨rfl, hb2⟩; have HB2 := Lib.hid (HB1.out.trans (hb2.mono HB1.out.size)); clear hb2)
    | (at_make; refine wpList_make_st eltN rfl _ _ rfl (n := n) rfl rfl (St.of_below HB2.out) (by omega) (by omega) ?_; intro w3 go S3 _ _))
  have S0 : St W w3 [row 64 2 (.slice (some ⟨go, 0, none⟩) n n) n ((nl (mixF (foF hs ps m) 0) n).flatMap NI.cells)] := by
    rw [made_net, ← mixF_none (foF hs ps m)] at S3
    simpa using S3
  clear S3
  have HLEN : Hid (∀ k, (nl (mixF (foF hs ps m) k) n).length = n) := fun k => nl_len _ _
  have HSET : Hid (∀ k, k < n → (nl (mixF (foF hs ps m) k) n).set k (foF hs ps m k) = nl (mixF (foF hs ps m) (k + 1)) n) := fun k hk => mixF_set _ hk
  have HALL : Hid (nl (mixF (foF hs ps m) n) n = nl (foF hs ps m) n) := mixF_all _ _
  have HFO : Hid (∀ i, bestL (nl (fun j => plN hs ps j i) m) = foF hs ps m i) := fun _ => rfl
  generalize hFE : foF hs ps m = FO at *
  have HFE := Lib.hid hFE
  clear hFE
  have hn2 : n ≤ 36 := hn.2
  go_loopw [40] (fun i w' => ∃ k : Nat, k ≤ n ∧ i = .int .i64 k ∧ St W w' [row 64 2 (.slice (some ⟨go, 0, none⟩) n n) n ((nl (mixF FO k) n).flatMap NI.cells)]) (fun i _ => n - (intOf i).toNat)
  case atStart => exact ⟨0, Nat.zero_le _, rfl, S0⟩
  case round =>
    obtain ⟨k, hk, rfl, S⟩ := hrel
    clear S0
    by_cases hlt : k < n
    · have S1 := S.row_nil 64 2
      simp only [List.cons_append, List.nil_append] at S1
      have HS1 := Lib.hid S1
      clear S S1
      go_wp2_with fail
      go_loopw [45, 10] (fun i v w' => ∃ j : Nat, j ≤ m ∧ i = .int .i64 j ∧ St W w' [row 64 2 (.slice (some ⟨go, 0, none⟩) n n) n ((nl (mixF FO k) n).flatMap NI.cells), row 64 2 v j ((nl (fun j => plN hs ps j k) j).flatMap NI.cells)]) (fun i _ _ => m - (intOf i).toNat)
      case atStart => exact ⟨0, Nat.zero_le _, rfl, HS1.out⟩
      case round =>
        obtain ⟨j, hj, rfl, S⟩ := hrel
        clear HS1
        by_cases hltj : j < m
        · obtain ⟨b, o, x, hA, hx, c0, c1, c2⟩ := (HPL.out.later S.bel).elem hltj
          subst hA
          have hxp := (HPL.out.later S.bel).2 x (List.mem_of_getElem? hx)
          have hgx := HG.out.ok j hltj
          have hpl : plN hs ps j = netF hs x.es x.co := by unfold plN; rw [pAt_eq hx]
          rw [pAt_eq hx] at hgx
          obtain ⟨⟨g1, g2, g3, g4⟩, g5, g6⟩ := hgx
          have hmn : x.m = n := g3.trans HL.out.symm
          have HCE : Hid (∀ w, Below W.heap.size W w → CEnv w (.slice A n c) (.slice x.a x.m x.c) n hs x.es x.name) := fun w hb => by
            have := ((HPL.out.later hb).2 x (List.mem_of_getElem? hx))
            rw [hmn] at this ⊢
            exact ⟨H.out.later hb, this.1, g1, g2, this.2, by rwa [hmn] at g4⟩
          have hco : -99 ≤ x.co ∧ x.co ≤ 99 := ⟨g5, g6⟩
          have hsn := nl_snoc (fun j => plN hs ps j k) j
          rw [show plN hs ps j k = netF hs x.es x.co k by rw [hpl]] at hsn
          have HSN := Lib.hid hsn
          clear hx hxp g1 g2 g3 g4 g5 g6 hpl hsn
          obtain ⟨xn, xa, xm, xc, xes, xco⟩ := x
          simp only at c0 c1 c2 HCE hco hmn HSN
          subst hmn
          have HNT : Hid (∀ w, Below W.heap.size W w → Calls Tryz.prog 47 #[.agg #[.string xn, .slice xa xm xc, .int .i64 xco], .slice A xm c] w fun e w' => ∃ v', e = .returned v' ∧ St w w' [row 64 2 v' xm ((nl (netF hs xes xco) xm).flatMap NI.cells)]) := fun w hb => nets_ok w _ _ xm hs xes xn xco hco (HCE.out w hb)
          have HAT := Lib.hid (nl_at (netF hs xes xco) hlt)
          generalize netF hs xes xco = NF at *
          have SA := S.blk_new #[.string xn, .slice xa xm xc, .int .i64 xco] 33
          simp only [List.cons_append, List.nil_append] at SA
          have p0 := SA.blk_cell (i := 2) rfl 0
          have p1 := SA.blk_cell (i := 2) rfl 1
          have p2 := SA.blk_cell (i := 2) rfl 2
          have HSA := Lib.hid SA
          clear S SA hco HCE
          go_wp2_with fail
          generalize wr.alloc (.cells #[.string xn, .slice xa xm xc, .int .i64 xco] 33) = w5 at *
          generalize wr.heap.size = gx at *
          go_at_call 47
          refine (HNT.out _ HSA.out.bel).mono ?_
          rintro e w6 ⟨vn, rfl, S6⟩
          have S7 := HSA.out.call S6
          simp only [List.cons_append, List.nil_append] at S7
          obtain ⟨bn, cn, rfl⟩ := row_some2 S7 (i := 3) rfl (by omega)
          obtain ⟨b', o', y, hbo, hy, d0, d1⟩ := net_elem (S7.row_rd (i := 3) rfl) hlt
          cases hbo
          rw [HAT.out] at hy
          cases hy
          rw [Nat.zero_add] at d0 d1
          have hsn := HSN.out
          generalize NF k = y at *
          obtain ⟨ys, ym⟩ := y
          dsimp only at d0 d1
          have hcs : NI.cells ⟨ys, ym⟩ = [.int .i64 ys, .string (mkN ym)] := rfl
          have HSN2 : Hid ((nl (fun j => plN hs ps j k) (j + 1)).flatMap NI.cells = (nl (fun j => plN hs ps j k) j).flatMap NI.cells ++ [.int .i64 ys, .string (mkN ym)]) := by
            show _ = _
            rw [hsn, List.flatMap_append]
            simp [NI.cells]
          generalize mkN ym = ymv at *
          have HS8 : Hid (St W (w6.alloc (.cells #[.int .i64 ys, .string ymv] 64)) _) := S7.alloc (.cells #[.int .i64 ys, .string ymv] 64)
          clear S6 S7 HSA HSN HAT HNT c0 c1 c2 p0 p1 p2 hsn hcs
          go_wp2_with (at_builtin; refine wpList_append_st eltN rfl _ _ rfl rfl HS8.out (k := 1) rfl rfl (rd_two (by simp)) (one_net _ _ _) (by omega) (by omega) ?_; intro v' w' S' _)
          go_roundw
          case rel =>
            refine ⟨j + 1, by omega, by go_num, ?_⟩
            have S3 := S'.sub (L' := [_, _]) (List.sublist_append_left [_, _] [_, _])
            rw [HSN2.out]
            exact S3
          case measure => simp [intOf]; omega
        · obtain rfl : m = j := by omega
          have hfo := HFO.out k
          obtain ⟨gw, cw, rfl⟩ := row_some2 S (i := 1) rfl (by omega)
          have HBS := Lib.hid (best_ok wr _ m (nl (fun j => plN hs ps j k) m) (by omega) (S.row_rd (i := 1) rfl).now)
          rw [hfo] at HBS
          have hlk := HLEN.out k
          have hset := flat_setN (nl (mixF FO k) n) k (FO k) (by rw [hlk]; exact hlt)
          rw [HSET.out k hlt] at hset
          have HSE := Lib.hid hset
          have HS := Lib.hid S
          clear S hfo hlk hset
          generalize FO k = y at *
          obtain ⟨ys, ym⟩ := y
          simp only [NI.val] at HBS
          dsimp only at HSE
          generalize mkN ym = ymv at *
          go_wp2_with fail
          go_at_call 48
          refine HBS.out.mono ?_
          rintro e w6 ⟨rfl, hb6⟩
          have S7 := HS.out.ext hb6
          obtain ⟨go', _, hgo, _, _, _, hcc, hfz⟩ := S7.row_form (i := 0) rfl (by omega)
          cases hgo
          have f0 := hfz (k * 2)
          have f1 := hfz (k * 2 + 1)
          have S8 := (S7.row_set (i := 0) rfl (k * 2) (.int .i64 ys)).row_set (i := 0) rfl (k * 2 + 1) (.string ymv)
          simp only [List.set_cons_zero] at S8
          rw [HSE.out] at S8
          have q0 : ∃ u, w6.cell? ⟨go, k * 2, none⟩ = some u := ⟨_, (hcc (k * 2) (by omega)).trans (List.getElem?_eq_getElem (by rw [flatMap_len (fun _ => rfl)  (size := 2), HLEN.out]; omega))⟩
          have q1 : ∃ u, w6.cell? ⟨go, k * 2 + 1, none⟩ = some u := ⟨_, (hcc (k * 2 + 1) (by omega)).trans (List.getElem?_eq_getElem (by rw [flatMap_len (fun _ => rfl)  (size := 2), HLEN.out]; omega))⟩
          obtain ⟨e0, q0⟩ := q0
          obtain ⟨e1, q1⟩ := q1
          have HS8 := Lib.hid (S8.sub (L' := [_]) (List.sublist_append_left [_] [_]))
          clear S7 S8 hb6 HS hcc hfz
          go_wp2_with fail
          go_roundw
          case rel => exact ⟨k + 1, by omega, by go_num, HS8.out⟩
          case measure => simp [intOf]; omega
    · obtain rfl : n = k := by omega
      rw [HALL.out] at S
      have HS := Lib.hid S
      clear S
      go_wp2_with fail
      go_ret2
      refine ⟨_, rfl, ?_⟩
      rw [HFE.out]
      exact HS.out
end Go.Proofs.YtbakoldmfpbnaaaGreatDoor
