/- Chapter 1: Print of any card. -/
import Derived.Test.YtbakoldmfpbnaaaGreatDoorB27
import Derived.Test.YtbakoldmfpbnaaaGreatDoorT2
import Derived.Test.YtbakoldmfpbnaaaGreatDoorB24
set_option linter.unusedVariables false
set_option linter.unusedSimpArgs false
set_option linter.unusedSectionVars false
set_option linter.constructorNameAsVariable false
namespace Go.Adj
open Go.RowKit Go.Mem
def preW (ws : List (List UInt8)) : List (List UInt8) := if ws.length = 0 then ws else ws ++ [[124]]
theorem wordsC_succ (l : List EI) (k : Nat) : wordsC l (k + 1) = preW (wordsC l k) ++ (runsL ((l.drop (9 * k)).take 9)).flatMap wordsR := rfl
theorem words_take {rs : List (Nat × EI)} {j : Nat} {q : Nat × EI} (h : rs[j]? = some q) : (rs.take (j + 1)).flatMap wordsR = (rs.take j).flatMap wordsR ++ wordsR q := by
  rw [List.take_add_one, h, List.flatMap_append]
  simp
theorem flat_rep (n : Nat) (v : Value) : (List.replicate n [v]).flatten = List.replicate n v := by
  induction n with
  | zero => rfl
  | succ n ih => rw [List.replicate_succ, List.flatten_cons, ih, List.replicate_succ]; rfl
theorem wordsC_few {l : List EI} (hl : 1 ≤ l.length ∧ l.length ≤ 36) (hg : ∀ x ∈ l, GoodE x) (k : Nat) (hk : 9 * k < l.length + 9) : (wordsC l k).length ≤ 10 * k ∧ ∀ w ∈ wordsC l k, w.length ≤ 6 := by
  rw [← toksC_word]
  refine ⟨by rw [List.length_map]; exact toksC_len l k, fun w hw => ?_⟩
  obtain ⟨t, ht, rfl⟩ := List.mem_map.1 hw
  obtain ⟨i, hi⟩ := List.mem_iff_getElem?.1 ht
  have := okL_at (toksC_ok hl.2 hg k hk).1 i t hi
  exact (tok_word this).2.1
theorem words_part {l : List EI} (hg : ∀ x ∈ l, GoodE x) (k j : Nat) : (((runsL ((l.drop (9 * k)).take 9)).take j).flatMap wordsR).length ≤ 9 := by
  have h1 : ∀ rs : List (Nat × EI), (rs.flatMap wordsR).length ≤ (expR rs).length := fun rs => by
    rw [← toksRs_word, List.length_map]; exact toksRs_len rs
  have h2 : (expR ((runsL ((l.drop (9 * k)).take 9)).take j)).length ≤ (expR (runsL ((l.drop (9 * k)).take 9))).length := by
    conv => rhs; rw [← List.take_append_drop j (runsL ((l.drop (9 * k)).take 9))]
    unfold expR
    rw [List.flatMap_append, List.length_append]
    omega
  have h3 := h1 ((runsL ((l.drop (9 * k)).take 9)).take j)
  rw [runsL_exp, List.length_take] at h2
  omega
theorem cells_part (l : List EI) (a m : Nat) : ((l.drop a).take m).flatMap EI.cells = ((l.flatMap EI.cells).drop (a * 2)).take (m * 2) := by
  induction a generalizing l with
  | zero =>
    rw [List.drop_zero, Nat.zero_mul, List.drop_zero]
    induction m generalizing l with
    | zero => simp
    | succ m ih =>
      cases l with
      | nil => simp
      | cons x l =>
        rw [List.take_succ_cons, List.flatMap_cons, List.flatMap_cons, ih l, show (m + 1) * 2 = m * 2 + 1 + 1 by omega]
        rfl
  | succ a ih =>
    cases l with
    | nil => simp
    | cons x l =>
      rw [List.drop_succ_cons, ih l, List.flatMap_cons, show (a + 1) * 2 = a * 2 + 1 + 1 by omega]
      rfl
end Go.Adj
namespace Go.Proofs.YtbakoldmfpbnaaaGreatDoor
open Go.RowKit Go.Mem Go.Sheet Go.Adj Go.Shelf Go.MemQ
attribute [local go_sem] Oper.semAt_some
theorem wpListIn_append_st {P : Program} {F : Fence} {nF : Nat} {ops : Array Oper} {rest : List Oper} {o : Oper} {a : Act} {Q : Exit → Act → World → Prop} {W w : World} {L : List Asr} {k : Nat} {t e : TypeId} {z : Value} {size bytes : Nat} (hE : Elt P t e z size bytes)
    (hgd : o.guard = none) (s x : Operand) (ho : o.op = .call { callee := .builtin .append, args := #[s, x], argTypes := #[t, t] })
    {v : Value} {n : Nat} {xs : List Value} (hs : a.eval s = v) (S : St W w L) (hk : L[k]? = some (row e size v n xs)) {g m c : Nat} {news : List Value} (hx : a.eval x = .slice (some ⟨g, 0, none⟩) m c) (hl : news.length = m * size)
    (hc : ∀ j u, news[j]? = some u → w.cell? ⟨g, j, none⟩ = some u) (h1 : ∀ u ∈ news, u.oneCell' = true) (h63 : n + m ≤ maxLen) (hbytes : (n + m) * bytes ≤ 140737488355328)
    (h : ∀ v' w', St W w' (L.set k (row e size v' (n + m) (xs ++ news))) → w.grownBy w' v.ownBlock → wpListIn F nF P ops Q rest (a.put o.dst v') w') : wpListIn F nF P ops Q (o :: rest) a w :=
  wpListIn_append_e hE hgd s x ho W.heap.size hs (S.row_own hk) hx hl hc h1 h63 hbytes S.size fun v' w' h2 h3 h4 => h v' w' (S.row_grown hk h2 h3 fun g hg => by
    rcases h4 with h4 | h4
    · exact .inl (by rw [← h4]; exact hg)
    · rw [h4] at hg; cases hg; exact .inr (Nat.le_refl _)) h3
set_option maxRecDepth 100000 in
set_option maxHeartbeats 8000000 in
theorem print_all (W : World) (v : Value) (n : Nat) (l : List EI) (h : Rd W (· < W.heap.size) 2 v n (l.flatMap EI.cells)) (hn : 1 ≤ n ∧ n ≤ 36) (hg : ∀ i, i < n → GoodE (eAt l i)) :
    Calls Tryz.prog 8 #[v] W fun e w' => e = .returned (.tuple #[.string (wB (joinW (wordsC l ((n + 8) / 9)))), .int .i64 0]) ∧ Below W.heap.size W w' := by
  obtain ⟨b, o, A, c, rfl, hA, hnc, hcm, h⟩ : ∃ b o A c, v = .slice A n c ∧ A = some ⟨b, o, none⟩ ∧ n ≤ c ∧ c ≤ maxLen ∧ Rd W (· < W.heap.size) 2 (.slice A n c) n (l.flatMap EI.cells) := by
    obtain ⟨A, c, rfl, h1, h2, h3⟩ := h.open_
    obtain ⟨b, o, hA, _⟩ := h3.addr (by omega)
    exact ⟨b, o, A, c, rfl, hA, h1, h2, h3⟩
  subst hA
  have H := Lib.hid h
  have HGE := Lib.hid hg
  have HL := Lib.hid (h.count (f := EI.cells) (fun _ => rfl) (by decide))
  have HCE : Hid (∀ w, Below W.heap.size W w → Calls Tryz.prog 25 #[.slice (some ⟨b, o, none⟩) n c] w fun e w' => e = .returned (.int .i64 0) ∧ Below w.heap.size w w') := fun w hb => checkEntries_ok w _ n l (h.later hb) hg
  have t1 : ((n : Int) == 0) = false := by simp; omega
  have t2 : decide ((36 : Int) < (n : Int)) = false := by simp; omega
  have HGL : Hid (∀ x ∈ l, GoodE x) := fun x hx => by
    obtain ⟨i, hi⟩ := List.mem_iff_getElem?.1 hx
    have := hg i (by have := HL.out; have := (List.getElem?_eq_some_iff.1 hi).1; omega)
    rwa [eAt_eq hi] at this
  clear h hg
  refine (callsIn_wide (n := 6)).1 (callsIn_of_wp_marks Tryz.func8 rfl trivial (wpIn_wide.2 ?_) rfl)
  simp only [Tryz.ntmps8, List.size_toArray, List.length_cons, List.length_nil, Nat.reduceAdd, Nat.reduceSub, Array.replicate_succ, Array.replicate_zero, List.push_toArray, List.append_toArray, List.nil_append, List.cons_append]
  go_wp2_with (first
    | (go_at_call 24; refine (cardNo _ _).mono ?_; rintro e w' ⟨rfl, rfl⟩)
    | (go_at_call 25; refine (HCE.out _ (Below.refl _ _)).mono ?_; rintro e w1 ⟨rfl, hb1⟩; have HB1 := Lib.hid hb1; clear hb1)
    | (go_at_call 23; refine (cardOk3 _ _ (by simp) (by simp) (by simp) (by simp)).mono ?_; rintro e w' ⟨rfl, rfl⟩)
    | (go_at_call 26; refine (marks_any _).mono ?_; rintro e w2 ⟨bm, rfl, Sm⟩; have HSM := Lib.hid Sm; clear Sm)
    | (go_at_call 27; refine (chunk_any _ _ _ _).mono ?_; rintro e w3 ⟨rfl, hw3⟩; have HW3 := Lib.hid hw3; clear hw3))
  have S1 := ((((((St.of_below HB1.out).alloc (.cells #[.int .i64 0, .int .i64 0, .int .i64 0] 34)).call HSM.out).blk_new #[.map (some bm)] 77).blk_new #[.slice none 0 0] 79).blk_new #[.slice (some ⟨b, o, none⟩) n c] 29).blk_new #[.int .i64 9] 3
  have S2 := S1.row_nil 9 1
  simp only [World.size_alloc, List.cons_append, List.nil_append] at S2
  have hw3 := HW3.out
  rw [← hw3] at S2
  have hsz3 : w3.heap.size = w2.heap.size + 1 + 1 + 1 + 1 := by rw [hw3]; simp only [World.size_alloc]
  have hW2 : W.heap.size ≤ w2.heap.size := by
    have h1 := HB1.out.size
    have h2 := HSM.out.bel.size
    simp only [World.size_alloc] at h2
    omega
  have hbm : bm < w2.heap.size := (Array.getElem?_eq_some_iff.1 (HSM.out.mapS_at (i := 0) rfl)).1
  clear hw3 S1 HW3 HSM HB1 HCE
  obtain ⟨gm, hgm⟩ : ∃ x, x = w2.heap.size := ⟨_, rfl⟩
  obtain ⟨go, hgo⟩ : ∃ x, x = w2.heap.size + 1 := ⟨_, rfl⟩
  obtain ⟨gs, hgs⟩ : ∃ x, x = w2.heap.size + 1 + 1 := ⟨_, rfl⟩
  obtain ⟨gn, hgn⟩ : ∃ x, x = w2.heap.size + 1 + 1 + 1 := ⟨_, rfl⟩
  rw [← hgn, ← hgs, ← hgo, ← hgm] at S2 ⊢
  have HSZ := Lib.hid (show bm < gm ∧ gm < go ∧ go < gs ∧ gs < gn ∧ gn < w3.heap.size ∧ W.heap.size ≤ gm by omega)
  clear hgm hgo hgs hgn hsz3 hW2 hbm
  have HI0 : Hid (St W w3 (prL bm gm go gs gn (.slice (some ⟨b, o, none⟩) n c) (.slice none 0 0) (wordsC l 0))) := S2
  have hcs := S2.blk_cell (i := 3) rfl 0
  have hcn := S2.blk_cell (i := 4) rfl 0
  have hwsz := S2.bel.size
  clear S2
  refine (wpIn_wide (n := 5)).1 ?_
  refine wpIn_rangeFunc_ownD (F := Fence.wide) (idle := False) (encs := encC) (Kp := KpL W.heap.size [gs, gn]) rfl (by decide) (gf := 65) (lb := #[.pointer (some ⟨gs, 0, none⟩), .pointer (some ⟨gn, 0, none⟩)]) rfl trivial (enters Tryz.func65 (by kernel_rfl) rfl)
    (chunk1_stops 4 (by decide) w3 gs gn W.heap.size b o n c (by omega) ⟨hnc, hcm⟩ hcs hcn hwsz) KpL.trans (KpL.put (by omega) (by have := HSZ.out; intro b hb; simp only [List.mem_cons, List.not_mem_nil, or_false] at hb; omega)) (fun _ => rfl)
    (fun (pre : List Value) X => ∃ (k : Nat) (vo : Value), pre = seqC b o n k ∧ St W X (prL bm gm go gs gn (.slice (some ⟨b, o, none⟩) n c) vo (wordsC l k)))
    (fun _ _ _ => False)
    ?hI (fun h => h.elim) ?hIx ?h0 (fun x a' _ => RoundPr gm go x a') ?hax ?assign ?body ?done ?stop
  case hI =>
    rintro s X Y row ⟨k, vo, h1, h2⟩ hg hr
    have := HSZ.out
    refine ⟨k, vo, h1, h2.turn_c hg fun r hr' => ⟨by have := (hr r hr').1; omega, fun A hA => ?_, (hr r hr').2⟩⟩
    have := (hr r hr').1
    simp only [prL, List.mem_cons, List.not_mem_nil, or_false] at hA
    rcases hA with rfl | rfl | rfl | rfl | rfl | rfl
    · exact avoidC_map (by omega) _ _
    all_goals first | exact avoidC_cells (cellsA_blk _ _ _) _ | exact avoidC_cells (cellsA_row _ _ _ _ _) _
  case hIx => exact fun _ _ _ _ _ h _ _ => h.elim
  case h0 => exact ⟨0, _, rfl, HI0.out⟩
  case hax => exact fun x a' _ X Y row hs hg hr => hs
  case assign =>
    intro lp pre x X K hX _ hi hK
    unfold encC
    gi_wp2
    exact hK _ _ (KeepsFrom.refl _ _) (KpL.refl _ _ _) hi ⟨rfl, rfl, rfl, rfl, rfl⟩
  case stop =>
    intro D cc pre X _ _ h _
    exact h.elim
  case body =>
    intro lp pre x a' X hX hi hA5 hN
    obtain ⟨k, vo, rfl, hS⟩ := hi
    obtain ⟨k', hk', hseq⟩ := hN
    have hkk : k' = k + 1 := by have := congrArg List.length hseq; rw [List.length_append, seqC_len, seqC_len] at this; simpa using this.symm
    subst hkk
    have hx : x = chV b o n k := by
      have e2 := hseq
      rw [seqC_snoc] at e2
      simpa using List.append_cancel_left e2
    have hk9 : 9 * k < n := by omega
    have hnk : 1 ≤ chN n k ∧ chN n k ≤ 9 := by
      unfold chN
      have := Nat.min_le_left 9 (n - 9 * k)
      have h2 : 1 ≤ Nat.min 9 (n - 9 * k) := Nat.le_min.2 ⟨by omega, by omega⟩
      exact ⟨h2, this⟩
    obtain ⟨lk, hlk⟩ : ∃ lk, lk = (l.drop (9 * k)).take 9 := ⟨_, rfl⟩
    have hlkl : lk.length = chN n k := by
      rw [hlk, List.length_take, List.length_drop, ← HL.out]; rfl
    have hwc : wordsC l (k + 1) = preW (wordsC l k) ++ (runsL lk).flatMap wordsR := by rw [wordsC_succ, hlk]
    have hlg : ∀ x ∈ lk, GoodE x := fun x hx => by rw [hlk] at hx; exact HGL.out x (List.mem_of_mem_drop (List.mem_of_mem_take hx))
    have hwp : ∀ j, (((runsL lk).take j).flatMap wordsR).length ≤ 9 := fun j => by rw [hlk]; exact words_part HGL.out k j
    have hpr : ∀ q ∈ runsL lk, 1 ≤ q.1 ∧ q.1 ≤ 9 ∧ GoodE q.2 := by rw [hlk]; exact part_runs HGL.out k
    have hwl : (wordsC l k).length ≤ 40 := by
      have := (wordsC_few ⟨by have := HL.out; omega, by have := HL.out; omega⟩ HGL.out k (by have := HL.out; omega)).1
      omega
    have hcl : lk.flatMap EI.cells = ((l.flatMap EI.cells).drop (9 * k * 2)).take (chN n k * 2) := by
      have e9 : lk = (l.drop (9 * k)).take (chN n k) := by
        rw [hlk]
        refine List.ext_getElem? fun i => ?_
        rw [List.getElem?_take, List.getElem?_take]
        by_cases h1 : i < chN n k
        · rw [if_pos (by omega), if_pos h1]
        · rw [if_neg h1]
          split
          · rw [List.getElem?_drop, List.getElem?_eq_none]
            have := HL.out
            unfold chN at h1
            have h3 : Nat.min 9 (n - 9 * k) = min 9 (n - 9 * k) := rfl
            omega
          · rfl
      rw [e9]
      exact cells_part l (9 * k) (chN n k)
    have HWC := Lib.hid hwc
    have HLG := Lib.hid hlg
    have HWP := Lib.hid hwp
    have HPR := Lib.hid hpr
    have HWL := Lib.hid hwl
    have HLKL := Lib.hid hlkl
    have HRD : Hid (∀ X, Below W.heap.size W X → Rd X (· < X.heap.size) 2 (.slice (some ⟨b, o + 9 * k * 2, none⟩) (chN n k) (chN n k)) (chN n k) (lk.flatMap EI.cells)) := fun X hbX => by
      obtain ⟨b', o', e, q1, q2, q3⟩ := (H.out.later hbX).addr (by omega)
      cases e
      refine ⟨_, chN n k, rfl, Nat.le_refl _, by unfold maxLen; omega, by rw [flatMap_len (f := EI.cells) (size := 2) (fun _ => rfl), hlkl], (fun e => by cases e), fun _ => ⟨_, _, rfl, q1, q2, fun j u hu => ?_⟩⟩
      rw [hcl, List.getElem?_take] at hu
      split at hu
      · rw [List.getElem?_drop] at hu
        have := q3 _ _ hu
        rwa [← Nat.add_assoc] at this
      · cases hu
    have hch : chV b o n k = .slice (some ⟨b, o + 9 * k * 2, none⟩) (chN n k) (chN n k) := rfl
    rw [hch] at hx
    subst hx
    have HCH := Lib.hid hch
    clear hch
    clear hlk hwc hlg hwp hpr hwl hlkl hcl
    generalize chN n k = nk at *
    obtain ⟨h1, h2, h3, h4, h5⟩ := hA5
    obtain ⟨T, dfs⟩ := a'
    dsimp only at h1 h2 h3 h4 h5
    subst h5
    obtain ⟨f, rfl⟩ := frame77p h1 h2 h3 h4
    clear h1 h2 h3 h4 hseq hk'
    obtain ⟨A0, c0, hvo, _, _, _⟩ := (hS.row_rd (i := 5) rfl).open_
    subst hvo
    have c1 := hS.blk_cell (i := 2) rfl 0
    have HX0 := Lib.hid (And.intro hS.bel (And.intro (hS.blk_at (i := 3) rfl).2.2 (hS.blk_at (i := 4) rfl).2.2))
    have HS := Lib.hid hS
    clear hS
    obtain ⟨WS, hWS⟩ : ∃ WS, preW (wordsC l k) = WS := ⟨_, rfl⟩
    have HWSE := Lib.hid hWS
    by_cases hk0 : (wordsC l k).length = 0
    · have hw0 : wordsC l k = [] := List.length_eq_zero_iff.1 hk0
      have HWS : Hid (WS.length ≤ 41) := by show _ ≤ _; rw [← hWS]; unfold preW; rw [if_pos hk0]; omega
      have HS1 : Hid (St W X (prL bm gm go gs gn (.slice (some ⟨b, o, none⟩) n c) (.slice A0 WS.length c0) WS)) := by
        have e : WS = wordsC l k := by rw [← hWS]; unfold preW; rw [if_pos hk0]
        rw [e]; exact HS.out
      have HK1 : Hid (KeepsOthers X X) := KeepsOthers.refl X
      rw [hw0] at c1
      clear hWS HS hk0 hw0
      have hX1 : X = X := rfl
      have HR1 := Lib.hid (HRD.out X HS1.out.bel)
      gi_wp2_with (refine ⟨trivial, ?_⟩; gi_at_call 28; refine (CallsIn.inRound lp (callsIn_wide.2 (runs_all X _ nk lk HR1.out (by omega)))).mono ?_; rintro e w5 ⟨vr, qs, rfl, hq, Sr⟩; obtain ⟨Ar, cr, rfl, _, _, _⟩ := (Sr.row_rd (i := 0) rfl).open_; have HQ := Lib.hid hq; have HSR := Lib.hid Sr; clear hq Sr)
      have hql : qs.length ≤ 9 := by
        have h1 := congrArg List.length HQ.out
        rw [List.length_map] at h1
        have h2 := runsL_len lk
        have h3 := HLKL.out
        omega
      have SS := HS1.out.call HSR.out
      have HKO : Hid (KeepsOthers X w5) := HK1.out.trans ⟨HSR.out.bel.size, fun k o hk _ => (HSR.out.bel.block k (Array.getElem?_eq_some_iff.1 hk).1).trans hk⟩
      clear HSR HS1 HK1 HR1
      gi_loopw [39] (fun i wr => ∃ (j : Nat) (vo : Value), j ≤ qs.length ∧ i = .int .i64 j ∧ Hid (KeepsOthers X wr) ∧ St W wr (prL bm gm go gs gn (.slice (some ⟨b, o, none⟩) n c) vo (WS ++ ((runsL lk).take j).flatMap wordsR) ++ runsS (.slice Ar qs.length cr) qs)) (fun i _ => qs.length - (intOf i).toNat)
      case atStart => exact ⟨0, _, Nat.zero_le _, rfl, HKO.out, by simpa using SS⟩
      case round =>
        obtain ⟨j, vo, hj, rfl, hko, S⟩ := hrel
        clear SS HKO
        by_cases hlt : j < qs.length
        · obtain ⟨⟨v0, qj, x⟩, hq⟩ : ∃ q, qs[j]? = some q := ⟨qs[j], List.getElem?_eq_getElem hlt⟩
          have hrl : (runsL lk)[j]? = some (qj, x) := by rw [← HQ.out, List.getElem?_map, hq]; rfl
          obtain ⟨hq1, hq9, hgx⟩ := HPR.out _ (List.mem_of_getElem? hrl)
          dsimp only at hq1 hq9 hgx
          have hidx : (prL bm gm go gs gn (.slice (some ⟨b, o, none⟩) n c) vo (WS ++ ((runsL lk).take j).flatMap wordsR) ++ runsS (.slice Ar qs.length cr) qs)[j + 7]? = some (runA 54 (v0, qj, x)) := by
            unfold prL runsS
            simp only [List.cons_append, List.nil_append, List.getElem?_cons_succ, List.getElem?_map, hq, Option.map_some]
          obtain ⟨b1, o1, u1, hA1, _, hu1, d0⟩ := (S.row_rd (i := 6) rfl).at_ (k := j) hlt
          obtain rfl : u1 = v0 := by
            rw [List.getElem?_map, hq] at hu1
            exact (Option.some.inj hu1).symm
          have hrd : Rd wr (fun b => W.heap.size ≤ b ∧ b < wr.heap.size) 2 u1 qj (List.replicate qj [.int .i64 x.s, .string x.m]).flatten := S.row_rd (i := j + 7) hidx
          obtain ⟨Aq, cq, rfl, hcq, _, hrd2⟩ := hrd.open_
          obtain ⟨bq, oq, rfl, hbq, _, hcells⟩ := hrd2.addr (by omega)
          have hfl : ∃ r, (List.replicate qj [Value.int .i64 x.s, Value.string x.m]).flatten = .int .i64 x.s :: .string x.m :: r := by
            obtain ⟨p, rfl⟩ : ∃ p, qj = p + 1 := ⟨qj - 1, by omega⟩
            exact ⟨_, by rw [List.replicate_succ, List.flatten_cons]; rfl⟩
          obtain ⟨rr, hfl⟩ := hfl
          rw [hfl] at hcells
          have d1 := hcells 0 _ rfl
          have d2 := hcells 1 _ rfl
          rw [Nat.add_zero] at d1
          subst hA1
          have g0 := S.blk_cell (i := 1) rfl 0
          obtain ⟨jf, G, F, hfind, hEn, hWF⟩ := word_fn x hgx
          have HFI := Lib.hid hfind
          have HRL := Lib.hid hrl
          have hwe : (wE x).length ≤ 3 := by
            have := one_ok hgx
            simp only [oneOk, Bool.and_eq_true, beq_iff_eq, bne_iff_ne, Bool.not_eq_true', decide_eq_true_eq] at this
            omega
          have HEN := Lib.hid hEn
          have HWF := Lib.hid hWF
          have HS := Lib.hid S
          obtain ⟨xs, xm⟩ := x
          dsimp only at d1 d2 HFI HWF
          clear hq hrl hgx hidx hu1 hrd hrd2 hcells hfind S hEn hWF hfl
          gi_wp2_with fail
          refine wpIn_cls 11 (fun w' => ∃ q, w' = wr.drewN q) (by kernel_rfl) (by kernel_rfl) (by kernel_rfl) ⟨1, rfl⟩ ?_
          simp only [List.take_succ_cons, List.take_zero, List.drop_succ_cons, List.drop_zero]
          generalize hK : (fun w' => ∃ q, w' = wr.drewN q) = K
          intro hne
          have kw : ∀ y : Wd K, ∃ q, y.w = wr.drewN q := by subst hK; exact fun y => y.h
          clear hK
          have k0 : ∀ y : Wd K, y.w.cell? ⟨gm, 0, none⟩ = some (.map (some bm)) := fun y => by obtain ⟨q, hq⟩ := kw y; rw [hq]; exact g0
          have k1 : ∀ y : Wd K, y.w.cell? ⟨bq, oq, none⟩ = some (.int .i64 xs) := fun y => by obtain ⟨q, hq⟩ := kw y; rw [hq]; exact d1
          have k2 : ∀ y : Wd K, y.w.cell? ⟨bq, oq + 1, none⟩ = some (.string xm) := fun y => by obtain ⟨q, hq⟩ := kw y; rw [hq]; exact d2
          have k3 : ∀ y : Wd K, (Instr.lookup 77 (.map (some bm)) (.string xm) false).run Tryz.prog y.w = .ok (.agg #[.func (.func G) #[] #[], .func (.func F) #[] #[]]) y.w := fun y => by
            obtain ⟨q, hq⟩ := kw y
            rw [hq]
            exact run_lookupS1 77 9 88 Tryz.underlying9 Tryz.underlying77 ((HS.out.drewN q).mapS_at (i := 0) rfl) xm jf (mkV G F) HFI.out
          have hfm := fld_mark
          have hE := HEN.out
          unfold Enters at hE
          repeat (go_big_quiet_step ((fail)))
          refine wpQuiet_nil ?_
          intro y
          obtain ⟨q, hq⟩ := kw y
          have HS6 : Hid (St W y.w (prL bm gm go gs gn (.slice (some ⟨b, o, none⟩) n c) vo (WS ++ ((runsL lk).take j).flatMap wordsR) ++ runsS (.slice (some ⟨b1, o1, none⟩) qs.length cr) qs)) := by show St _ _ _; rw [hq]; exact HS.out.drewN q
          have HKO6 : Hid (KeepsOthers X y.w) := by
            show KeepsOthers X y.w
            rw [hq]
            exact hko.out.trans ⟨Nat.le_refl _, fun _ _ h _ => h⟩
          clear k0 k1 k2 k3 kw hq HS hko hne d0 d1 d2 g0 hfm
          generalize y.w = w6 at *
          have hwz : (wB (wE ⟨xs, xm⟩)).size ≤ 3 := by rw [wB_size]; exact hwe
          generalize hwx : wB (wE ⟨xs, xm⟩) = wx at *
          have hlw : (WS ++ ((runsL lk).take j).flatMap wordsR).length ≤ 60 := by
            have h1 := HWP.out j
            have h2 := HWS.out
            rw [List.length_append]
            omega
          have HTK : Hid ((WS ++ ((runsL lk).take (j + 1)).flatMap wordsR) = (WS ++ ((runsL lk).take j).flatMap wordsR) ++ wordsR (qj, ⟨xs, xm⟩)) := by
            show _ = _
            rw [words_take HRL.out, List.append_assoc]
          generalize hLX : prL bm gm go gs gn (.slice (some ⟨b, o, none⟩) n c) vo (WS ++ ((runsL lk).take j).flatMap wordsR) ++ runsS (.slice (some ⟨b1, o1, none⟩) qs.length cr) qs = LX at *
          have HL2 : Hid (LX[2]? = some (blk go 79 #[vo])) := by show _ = _; rw [← hLX]; rfl
          have HL5 : Hid (LX[5]? = some (row 9 1 vo (WS ++ ((runsL lk).take j).flatMap wordsR).length ((WS ++ ((runsL lk).take j).flatMap wordsR).map fun w => .string (wB w)))) := by show _ = _; rw [← hLX]; rfl
          have HLX := Lib.hid hLX
          have HWX := Lib.hid hwx
          clear hLX hwx
          generalize WS ++ ((runsL lk).take j).flatMap wordsR = ws at *
          by_cases hq2 : 2 < qj
          · have hq2' : decide ((2 : Int) < (qj : Int)) = true := by simp; omega
            have hq2'' : decide (2 < qj) = true := by simp; omega
            gi_wp2_with (refine ⟨trivial, ?_⟩; refine (CallsIn.inRound lp (callsIn_wide.2 (HWF.out _))).mono ?_; rintro e w' ⟨rfl, rfl⟩)
            clear HWF hE
            refine wpIn_head_tail 0 8 4 [] [0, 1, 2, 5] rfl (fun w' => St W w' LX ∧ KeepsOthers X w') (by kernel_rfl) (by kernel_rfl) (by kernel_rfl) ⟨HS6.out.drew, HKO6.out.trans ⟨Nat.le_refl _, fun _ _ h _ => h⟩⟩ ?_
            simp only [pick, List.filterMap_cons, List.filterMap_nil, List.getElem?_toArray, List.getElem?_cons_succ, List.getElem?_cons_zero]
            generalize hK : (fun w' => St W w' LX ∧ KeepsOthers X w') = K2
            have kS : ∀ y : Wd K2, St W y.w LX := by subst hK; exact fun y => y.h.1
            have hK2 : ∀ w', St W w' LX → KeepsOthers X w' → K2 w' := by subst hK; exact fun _ h h2 => ⟨h, h2⟩
            have hne2 : Nonempty (Wd K2) := ⟨⟨_, hK2 _ HS6.out HKO6.out⟩⟩
            have k0 : ∀ y : Wd K2, y.w.cell? ⟨go, 0, none⟩ = some vo := fun y => (kS y).blk_cell HL2.out 0
            clear hK kS
            have HS7 : Hid (St W w6.drew LX) := HS6.out.drew
            have HKO7 : Hid (KeepsOthers X w6.drew) := HKO6.out.trans ⟨Nat.le_refl _, fun _ _ h _ => h⟩
            refine wpQuiet_nil ?_
            change wpQuiet _ _ _ _ (_ :: _ :: _ :: _ :: []) _
            repeat (go_big_quiet_step ((fail)))
            refine wpQuiet_nil ?_
            have hdg := dgL_len qj
            have hs2 : ¬ 9223372036854775807 < (wB (dgL qj)).size + 1 := by omega
            have hs3 : ¬ 9223372036854775807 < (wB (dgL qj)).size + 1 + wx.size := by omega
            have hs4 : ¬ 9223372036854775807 < (wB (dgL qj) ++ (⟨#[42]⟩ : ByteArray)).size + wx.size := by rw [ByteArray.size_append]; show ¬ _ < (wB (dgL qj)).size + 1 + wx.size; omega
            have hnw : wB (dgL qj) ++ (⟨#[42]⟩ : ByteArray) ++ wx = wB (dgL qj ++ 42 :: wE ⟨xs, xm⟩) := by
              rw [← HWX.out, show (⟨#[42]⟩ : ByteArray) = wB [42] from rfl, wB_app, wB_app, List.append_assoc]; rfl
            have HNW := Lib.hid hnw
            clear hnw
            clear k0 hne2 HS6 HKO6
            generalize w6.drew = w7 at *
            refine headW_all (rs := [3]) (by kernel_rfl) (by simp) (by kernel_rfl) ?_
            intro i hi
            obtain rfl := List.mem_singleton.1 hi
            refine wpOp_list rfl ?_
            intro Q' hQ'
            go_wp2_with (go_at_call 29; refine (itoa_any qj (by omega) _).mono ?_; rintro e w' ⟨rfl, rfl⟩)
            refine ⟨hK2 _ HS7.out HKO7.out, ?_⟩
            refine headW_all (rs := [4]) (by kernel_rfl) (by simp) (by kernel_rfl) ?_
            intro i hi
            obtain rfl := List.mem_singleton.1 hi
            refine wpOp_list rfl ?_
            intro Q' hQ'
            go_wp2_with fail
            refine ⟨hK2 _ HS7.out HKO7.out, ?_⟩
            refine headW_all (rs := [6]) (by kernel_rfl) (by simp) (by kernel_rfl) ?_
            intro i hi
            obtain rfl := List.mem_singleton.1 hi
            refine wpOp_list rfl ?_
            intro Q' hQ'
            go_wp2_with fail
            refine ⟨hK2 _ HS7.out HKO7.out, ?_⟩
            refine headW_all (rs := [7]) (by kernel_rfl) (by simp) (by kernel_rfl) ?_
            intro i hi
            obtain rfl := List.mem_singleton.1 hi
            refine wpOp_list rfl ?_
            intro Q' hQ'
            go_wp2_with fail
            generalize wB (dgL qj) ++ (⟨#[42]⟩ : ByteArray) ++ wx = wy at *
            have S10 := HS7.out.alloc (.cells #[.string wy] 9)
            have HKO9 : Hid (KeepsOthers X (w7.alloc (.cells #[.string wy] 9))) := HKO7.out.trans (KeepsOthers.alloc _ _)
            have hrd : Rd (w7.alloc (.cells #[.string wy] 9)) (fun _ => True) 1 (.slice (some ⟨w7.heap.size, 0, none⟩) 1 1) 1 [.string wy] := rd_one (by simp)
            refine ⟨hK2 _ S10 HKO9.out, by kernel_rfl, ?_⟩
            clear hK2 HS7 HKO7
            generalize hw9 : w7.alloc (.cells #[.string wy] 9) = w9 at *
            clear hw9
            have hcell : ∀ g, vo.ownBlock = some g → ∃ cur, w9.heap[g]? = some (.cells cur 9 (0, 0)) := fun g hg => by
              obtain ⟨F, _, ⟨hrow, _⟩⟩ := S10.get (i := 5) HL5.out
              exact (ownsRow_cells hrow hg).2
            refine wpList_append_st eltStr rfl _ _ rfl rfl S10 (k := 5) HL5.out rfl hrd (by simp [Value.oneCell']) (by omega) (by omega) ?_
            intro v' w10 S11 hgr
            have hko10 : KeepsOthers X w10 := HKO9.out.trans (KeepsOthers.of_grownBy hgr fun j o hj ho => by
              obtain ⟨cur, hc⟩ := hcell j hj
              rw [hc] at ho; cases ho; rfl)
            have g0 := S11.blk_cell (i := 2) (by rw [← HLX.out]; rfl) 0
            have g1 := S11.blk_frozen (i := 2) (g := go) (t := 79) (cs := #[vo]) (by rw [← HLX.out]; rfl) 0
            obtain ⟨Ab, cb, rfl, _, _, _⟩ := (S11.row_rd (i := 5) (by rw [← HLX.out]; rfl)).open_
            have HS11 := Lib.hid S11
            have HKO10 := Lib.hid hko10
            clear S11 hko10 hcell hgr S10 hrd
            go_wp2_with fail
            refine OnlyN.normal ?_
            gi_wp2
            have S12 := HS11.out.blk_set (i := 2) (g := go) (t := 79) (cs := #[vo]) (by rw [← HLX.out]; rfl) 0 (.slice Ab (ws.length + 1) cb)
            rw [← HLX.out] at S12
            go_roundw
            case rel =>
              refine ⟨j + 1, .slice Ab (ws.length + 1) cb, by omega, by go_num, HKO10.out.trans (KeepsOthers.setCell _ _ _), ?_⟩
              rw [HTK.out]
              unfold prL
              rw [List.length_append, List.map_append]
              rw [show (wordsR (qj, ⟨xs, xm⟩)).map (fun w => Value.string (wB w)) = [.string wy] by rw [HNW.out]; unfold wordsR; rw [if_pos (by dsimp only; omega)]; rfl, show (wordsR (qj, ⟨xs, xm⟩)).length = 1 by unfold wordsR; rw [if_pos (by dsimp only; omega)]; rfl]
              exact S12
            case measure => simp [intOf]; omega
          · have hq2' : decide ((2 : Int) < (qj : Int)) = false := by simp; omega
            have hq2'' : decide (2 < qj) = false := by simp; omega
            gi_wp2_with (refine ⟨trivial, ?_⟩; refine (CallsIn.inRound lp (callsIn_wide.2 (HWF.out _))).mono ?_; rintro e w' ⟨rfl, rfl⟩)
            clear HWF hE
            refine wpIn_head_tail 0 6 2 [] [0, 1, 3, 4] rfl (fun w' => St W w' LX ∧ KeepsOthers X w') (by kernel_rfl) (by kernel_rfl) (by kernel_rfl) ⟨HS6.out.drew, HKO6.out.trans ⟨Nat.le_refl _, fun _ _ h _ => h⟩⟩ ?_
            simp only [pick, List.filterMap_cons, List.filterMap_nil, List.getElem?_toArray, List.getElem?_cons_succ, List.getElem?_cons_zero]
            generalize hK : (fun w' => St W w' LX ∧ KeepsOthers X w') = K2
            have kS : ∀ y : Wd K2, St W y.w LX := by subst hK; exact fun y => y.h.1
            have hK2 : ∀ w', St W w' LX → KeepsOthers X w' → K2 w' := by subst hK; exact fun _ h h2 => ⟨h, h2⟩
            have hne2 : Nonempty (Wd K2) := ⟨⟨_, hK2 _ HS6.out HKO6.out⟩⟩
            have k0 : ∀ y : Wd K2, y.w.cell? ⟨go, 0, none⟩ = some vo := fun y => (kS y).blk_cell HL2.out 0
            clear hK kS
            have HS7 : Hid (St W w6.drew LX) := HS6.out.drew
            have HKO7 : Hid (KeepsOthers X w6.drew) := HKO6.out.trans ⟨Nat.le_refl _, fun _ _ h _ => h⟩
            refine wpQuiet_nil ?_
            change wpQuiet _ _ _ _ (_ :: _ :: _ :: _ :: []) _
            repeat (go_big_quiet_step ((fail)))
            refine wpQuiet_nil ?_
            clear k0 hne2 HS6 HKO6
            generalize w6.drew = w7 at *
            refine headW_all (rs := [2]) (by kernel_rfl) (by simp) (by kernel_rfl) ?_
            intro i hi
            obtain rfl := List.mem_singleton.1 hi
            refine wpOp_list rfl ?_
            intro Q' hQ'
            go_wp2_with fail
            have S8 := HS7.out.alloc (.cells #[.string wx] 9)
            have HKO8 : Hid (KeepsOthers X (w7.alloc (.cells #[.string wx] 9))) := HKO7.out.trans (KeepsOthers.alloc _ _)
            have HREP := Lib.hid (repeatS_any (w7.alloc (.cells #[.string wx] 9)) w7.heap.size qj [.string wx] rfl (by simp [Value.oneCell']) (fun j v hv => by rw [cell_of_row _ _ j _ _ _ (heap_alloc_new w7 _)]; simpa using hv) (by simp) (by omega))
            have HS8 := Lib.hid S8
            refine ⟨hK2 _ S8 HKO8.out, ?_⟩
            clear S8
            refine headW_all (rs := [5]) (by kernel_rfl) (by simp) (by kernel_rfl) ?_
            intro i hi
            obtain rfl := List.mem_singleton.1 hi
            refine wpOp_list rfl ?_
            intro Q' hQ'
            go_wp2_with (go_at_call 30; refine HREP.out.mono ?_; rintro e w9 ⟨g, rfl, S9⟩)
            have hko9 : KeepsOthers X w9 := HKO8.out.trans ⟨S9.bel.size, fun k o hk _ => (S9.bel.block k (Array.getElem?_eq_some_iff.1 hk).1).trans hk⟩
            refine ⟨hK2 _ (HS8.out.ext S9.bel) hko9, by kernel_rfl, ?_⟩
            have hrd := (S9.row_rd (i := 0) rfl).now
            have S10 := HS8.out.ext S9.bel
            have HKO9 := Lib.hid hko9
            clear hK2 S9 HREP HS8 HS7 HKO7 HKO8 hko9
            have h1c : ∀ u ∈ (List.replicate qj [Value.string wx]).flatten, u.oneCell' = true := fun u hu => by
              obtain ⟨l, hl, hu⟩ := List.mem_flatten.1 hu
              rw [(List.mem_replicate.1 hl).2] at hu
              rw [List.mem_singleton.1 hu]; rfl
            have hcell : ∀ g, vo.ownBlock = some g → ∃ cur, w9.heap[g]? = some (.cells cur 9 (0, 0)) := fun g hg => by
              obtain ⟨F, _, ⟨hrow, _⟩⟩ := S10.get (i := 5) HL5.out
              exact (ownsRow_cells hrow hg).2
            refine wpList_append_st eltStr rfl _ _ rfl rfl S10 (k := 5) HL5.out rfl hrd h1c (by omega) (by omega) ?_
            intro v' w10 S11 hgr
            have hko10 : KeepsOthers X w10 := HKO9.out.trans (KeepsOthers.of_grownBy hgr fun j o hj ho => by
              obtain ⟨cur, hc⟩ := hcell j hj
              rw [hc] at ho; cases ho; rfl)
            have g0 := S11.blk_cell (i := 2) (by rw [← HLX.out]; rfl) 0
            have g1 := S11.blk_frozen (i := 2) (g := go) (t := 79) (cs := #[vo]) (by rw [← HLX.out]; rfl) 0
            obtain ⟨Ab, cb, rfl, _, _, _⟩ := (S11.row_rd (i := 5) (by rw [← HLX.out]; rfl)).open_
            have HS11 := Lib.hid S11
            have HKO10 := Lib.hid hko10
            clear S11 hko10 hcell hgr S10 hrd
            go_wp2_with fail
            refine OnlyN.normal ?_
            gi_wp2
            have S12 := HS11.out.blk_set (i := 2) (g := go) (t := 79) (cs := #[vo]) (by rw [← HLX.out]; rfl) 0 (.slice Ab (ws.length + qj) cb)
            rw [← HLX.out] at S12
            go_roundw
            case rel =>
              refine ⟨j + 1, .slice Ab (ws.length + qj) cb, by omega, by go_num, HKO10.out.trans (KeepsOthers.setCell _ _ _), ?_⟩
              rw [HTK.out]
              unfold prL
              rw [List.length_append, List.map_append]
              rw [show (wordsR (qj, ⟨xs, xm⟩)).map (fun w => Value.string (wB w)) = (List.replicate qj [Value.string wx]).flatten by rw [← HWX.out]; unfold wordsR; rw [if_neg (by dsimp only; omega), List.map_replicate]; exact (flat_rep _ _).symm, show (wordsR (qj, ⟨xs, xm⟩)).length = qj by unfold wordsR; rw [if_neg (by dsimp only; omega), List.length_replicate]]
              exact S12
            case measure => simp [intOf]; omega
        · have ejq : j = qs.length := by omega
          subst ejq
          have HS := Lib.hid S
          have hko := hko
          clear S
          gi_wp2
          obtain ⟨x1, x2, x3⟩ := HX0.out
          have hrl : (runsL lk).length = qs.length := by rw [← HQ.out, List.length_map]
          refine ⟨hko.out.from _, ⟨below_between x1 HS.out.bel hko.out.size, hko.out.size, fun g hg => ?_⟩, k + 1, vo, by rw [seqC_snoc, HCH.out], ?_⟩
          · simp only [List.mem_cons, List.not_mem_nil, or_false] at hg
            rcases hg with rfl | rfl
            · rw [x2]; exact (HS.out.blk_at (i := 3) rfl).2.2
            · rw [x3]; exact (HS.out.blk_at (i := 4) rfl).2.2
          · rw [HWC.out, HWSE.out]
            have S9 := HS.out
            rw [← hrl, List.take_length] at S9
            exact S9.sub (List.sublist_append_left _ _)
    · have HWS : Hid (WS.length ≤ 41) := by show _ ≤ _; rw [← hWS]; unfold preW; rw [if_neg hk0, List.length_append, List.length_singleton]; have := HWL.out; omega
      have hWE : WS = wordsC l k ++ [[124]] := by rw [← hWS]; unfold preW; rw [if_neg hk0]
      have SB := HS.out.alloc (.cells #[.string ⟨#[124]⟩] 9)
      have HNC : Hid (∀ j u, ([Value.string ⟨#[124]⟩] : List Value)[j]? = some u → (X.alloc (.cells #[.string ⟨#[124]⟩] 9)).cell? ⟨X.heap.size, j, none⟩ = some u) := fun j u hu => by
        rw [cell_of_row _ X.heap.size j _ _ _ (heap_alloc_new X _)]
        simpa using hu
      have HWE := Lib.hid hWE
      have hwl := HWL.out
      have HSB := Lib.hid SB
      generalize hWK : wordsC l k = WK at *
      have t8 : decide ((0 : Int) < (WK.length : Int)) = true := by simp; omega
      have t8' : decide (0 < WK.length) = true := by simp; omega
      clear hWS HS SB hWE hk0 hWK
      gi_wp2_with (gi_at_builtin; refine wpListIn_append_st eltStr rfl _ _ rfl rfl HSB.out (k := 5) rfl (m := 1) (news := [.string ⟨#[124]⟩]) rfl rfl HNC.out (by simp [Value.oneCell']) (by unfold maxLen; omega) (by omega) ?_; intro v' w4 S4 hgr; obtain ⟨Ab, cb, rfl, _, _, _⟩ := (S4.row_rd (i := 5) rfl).open_; have g0 := S4.blk_cell (i := 2) rfl 0; have g1 := S4.blk_frozen (i := 2) (g := go) (t := 79) (cs := #[.slice A0 WK.length c0]) rfl 0; have HS4 := Lib.hid S4; have HGR := Lib.hid hgr; clear S4 hgr)
      have S5 := HS4.out.blk_set (i := 2) (g := go) (t := 79) (cs := #[.slice A0 WK.length c0]) rfl 0 (.slice Ab (WK.length + 1) cb)
      have hcell : ∀ g, (Value.slice A0 WK.length c0).ownBlock = some g → ∃ cur, (X.alloc (.cells #[.string ⟨#[124]⟩] 9)).heap[g]? = some (.cells cur 9 (0, 0)) := fun g hg => by
        obtain ⟨F, _, ⟨hrow, _⟩⟩ := HSB.out.get (i := 5) rfl
        exact (ownsRow_cells hrow hg).2
      have HK1 : Hid (KeepsOthers X (w4.setCell ⟨go, 0, none⟩ (.slice Ab (WK.length + 1) cb))) := ((KeepsOthers.alloc _ _).trans (KeepsOthers.of_grownBy HGR.out fun j o hj ho => by
        obtain ⟨cur, hc⟩ := hcell j hj
        rw [hc] at ho; cases ho; rfl)).trans (KeepsOthers.setCell _ _ _)
      have HS1 : Hid (St W (w4.setCell ⟨go, 0, none⟩ (.slice Ab (WK.length + 1) cb)) (prL bm gm go gs gn (.slice (some ⟨b, o, none⟩) n c) (.slice Ab WS.length cb) WS)) := by
        have e : WS.length = WK.length + 1 := by rw [HWE.out, List.length_append, List.length_singleton]
        show St _ _ _
        unfold prL
        rw [e, HWE.out, List.map_append]
        exact S5
      clear S5 hcell HGR HS4 HSB HNC g0 g1
      generalize w4.setCell ⟨go, 0, none⟩ (.slice Ab (WK.length + 1) cb) = X1 at *
      have HR1 := Lib.hid (HRD.out X1 HS1.out.bel)
      gi_wp2_with (refine ⟨trivial, ?_⟩; gi_at_call 28; refine (CallsIn.inRound lp (callsIn_wide.2 (runs_all X1 _ nk lk HR1.out (by omega)))).mono ?_; rintro e w5 ⟨vr, qs, rfl, hq, Sr⟩; obtain ⟨Ar, cr, rfl, _, _, _⟩ := (Sr.row_rd (i := 0) rfl).open_; have HQ := Lib.hid hq; have HSR := Lib.hid Sr; clear hq Sr)
      have hql : qs.length ≤ 9 := by
        have h1 := congrArg List.length HQ.out
        rw [List.length_map] at h1
        have h2 := runsL_len lk
        have h3 := HLKL.out
        omega
      have SS := HS1.out.call HSR.out
      have HKO : Hid (KeepsOthers X w5) := HK1.out.trans ⟨HSR.out.bel.size, fun k o hk _ => (HSR.out.bel.block k (Array.getElem?_eq_some_iff.1 hk).1).trans hk⟩
      clear HSR HS1 HK1 HR1
      gi_loopw [39] (fun i wr => ∃ (j : Nat) (vo : Value), j ≤ qs.length ∧ i = .int .i64 j ∧ Hid (KeepsOthers X wr) ∧ St W wr (prL bm gm go gs gn (.slice (some ⟨b, o, none⟩) n c) vo (WS ++ ((runsL lk).take j).flatMap wordsR) ++ runsS (.slice Ar qs.length cr) qs)) (fun i _ => qs.length - (intOf i).toNat)
      case atStart => exact ⟨0, _, Nat.zero_le _, rfl, HKO.out, by simpa using SS⟩
      case round =>
        obtain ⟨j, vo, hj, rfl, hko, S⟩ := hrel
        clear SS HKO
        by_cases hlt : j < qs.length
        · obtain ⟨⟨v0, qj, x⟩, hq⟩ : ∃ q, qs[j]? = some q := ⟨qs[j], List.getElem?_eq_getElem hlt⟩
          have hrl : (runsL lk)[j]? = some (qj, x) := by rw [← HQ.out, List.getElem?_map, hq]; rfl
          obtain ⟨hq1, hq9, hgx⟩ := HPR.out _ (List.mem_of_getElem? hrl)
          dsimp only at hq1 hq9 hgx
          have hidx : (prL bm gm go gs gn (.slice (some ⟨b, o, none⟩) n c) vo (WS ++ ((runsL lk).take j).flatMap wordsR) ++ runsS (.slice Ar qs.length cr) qs)[j + 7]? = some (runA 54 (v0, qj, x)) := by
            unfold prL runsS
            simp only [List.cons_append, List.nil_append, List.getElem?_cons_succ, List.getElem?_map, hq, Option.map_some]
          obtain ⟨b1, o1, u1, hA1, _, hu1, d0⟩ := (S.row_rd (i := 6) rfl).at_ (k := j) hlt
          obtain rfl : u1 = v0 := by
            rw [List.getElem?_map, hq] at hu1
            exact (Option.some.inj hu1).symm
          have hrd : Rd wr (fun b => W.heap.size ≤ b ∧ b < wr.heap.size) 2 u1 qj (List.replicate qj [.int .i64 x.s, .string x.m]).flatten := S.row_rd (i := j + 7) hidx
          obtain ⟨Aq, cq, rfl, hcq, _, hrd2⟩ := hrd.open_
          obtain ⟨bq, oq, rfl, hbq, _, hcells⟩ := hrd2.addr (by omega)
          have hfl : ∃ r, (List.replicate qj [Value.int .i64 x.s, Value.string x.m]).flatten = .int .i64 x.s :: .string x.m :: r := by
            obtain ⟨p, rfl⟩ : ∃ p, qj = p + 1 := ⟨qj - 1, by omega⟩
            exact ⟨_, by rw [List.replicate_succ, List.flatten_cons]; rfl⟩
          obtain ⟨rr, hfl⟩ := hfl
          rw [hfl] at hcells
          have d1 := hcells 0 _ rfl
          have d2 := hcells 1 _ rfl
          rw [Nat.add_zero] at d1
          subst hA1
          have g0 := S.blk_cell (i := 1) rfl 0
          obtain ⟨jf, G, F, hfind, hEn, hWF⟩ := word_fn x hgx
          have HFI := Lib.hid hfind
          have HRL := Lib.hid hrl
          have hwe : (wE x).length ≤ 3 := by
            have := one_ok hgx
            simp only [oneOk, Bool.and_eq_true, beq_iff_eq, bne_iff_ne, Bool.not_eq_true', decide_eq_true_eq] at this
            omega
          have HEN := Lib.hid hEn
          have HWF := Lib.hid hWF
          have HS := Lib.hid S
          obtain ⟨xs, xm⟩ := x
          dsimp only at d1 d2 HFI HWF
          clear hq hrl hgx hidx hu1 hrd hrd2 hcells hfind S hEn hWF hfl
          gi_wp2_with fail
          refine wpIn_cls 11 (fun w' => ∃ q, w' = wr.drewN q) (by kernel_rfl) (by kernel_rfl) (by kernel_rfl) ⟨1, rfl⟩ ?_
          simp only [List.take_succ_cons, List.take_zero, List.drop_succ_cons, List.drop_zero]
          generalize hK : (fun w' => ∃ q, w' = wr.drewN q) = K
          intro hne
          have kw : ∀ y : Wd K, ∃ q, y.w = wr.drewN q := by subst hK; exact fun y => y.h
          clear hK
          have k0 : ∀ y : Wd K, y.w.cell? ⟨gm, 0, none⟩ = some (.map (some bm)) := fun y => by obtain ⟨q, hq⟩ := kw y; rw [hq]; exact g0
          have k1 : ∀ y : Wd K, y.w.cell? ⟨bq, oq, none⟩ = some (.int .i64 xs) := fun y => by obtain ⟨q, hq⟩ := kw y; rw [hq]; exact d1
          have k2 : ∀ y : Wd K, y.w.cell? ⟨bq, oq + 1, none⟩ = some (.string xm) := fun y => by obtain ⟨q, hq⟩ := kw y; rw [hq]; exact d2
          have k3 : ∀ y : Wd K, (Instr.lookup 77 (.map (some bm)) (.string xm) false).run Tryz.prog y.w = .ok (.agg #[.func (.func G) #[] #[], .func (.func F) #[] #[]]) y.w := fun y => by
            obtain ⟨q, hq⟩ := kw y
            rw [hq]
            exact run_lookupS1 77 9 88 Tryz.underlying9 Tryz.underlying77 ((HS.out.drewN q).mapS_at (i := 0) rfl) xm jf (mkV G F) HFI.out
          have hfm := fld_mark
          have hE := HEN.out
          unfold Enters at hE
          repeat (go_big_quiet_step ((fail)))
          refine wpQuiet_nil ?_
          intro y
          obtain ⟨q, hq⟩ := kw y
          have HS6 : Hid (St W y.w (prL bm gm go gs gn (.slice (some ⟨b, o, none⟩) n c) vo (WS ++ ((runsL lk).take j).flatMap wordsR) ++ runsS (.slice (some ⟨b1, o1, none⟩) qs.length cr) qs)) := by show St _ _ _; rw [hq]; exact HS.out.drewN q
          have HKO6 : Hid (KeepsOthers X y.w) := by
            show KeepsOthers X y.w
            rw [hq]
            exact hko.out.trans ⟨Nat.le_refl _, fun _ _ h _ => h⟩
          clear k0 k1 k2 k3 kw hq HS hko hne d0 d1 d2 g0 hfm
          generalize y.w = w6 at *
          have hwz : (wB (wE ⟨xs, xm⟩)).size ≤ 3 := by rw [wB_size]; exact hwe
          generalize hwx : wB (wE ⟨xs, xm⟩) = wx at *
          have hlw : (WS ++ ((runsL lk).take j).flatMap wordsR).length ≤ 60 := by
            have h1 := HWP.out j
            have h2 := HWS.out
            rw [List.length_append]
            omega
          have HTK : Hid ((WS ++ ((runsL lk).take (j + 1)).flatMap wordsR) = (WS ++ ((runsL lk).take j).flatMap wordsR) ++ wordsR (qj, ⟨xs, xm⟩)) := by
            show _ = _
            rw [words_take HRL.out, List.append_assoc]
          generalize hLX : prL bm gm go gs gn (.slice (some ⟨b, o, none⟩) n c) vo (WS ++ ((runsL lk).take j).flatMap wordsR) ++ runsS (.slice (some ⟨b1, o1, none⟩) qs.length cr) qs = LX at *
          have HL2 : Hid (LX[2]? = some (blk go 79 #[vo])) := by show _ = _; rw [← hLX]; rfl
          have HL5 : Hid (LX[5]? = some (row 9 1 vo (WS ++ ((runsL lk).take j).flatMap wordsR).length ((WS ++ ((runsL lk).take j).flatMap wordsR).map fun w => .string (wB w)))) := by show _ = _; rw [← hLX]; rfl
          have HLX := Lib.hid hLX
          have HWX := Lib.hid hwx
          clear hLX hwx
          generalize WS ++ ((runsL lk).take j).flatMap wordsR = ws at *
          by_cases hq2 : 2 < qj
          · have hq2' : decide ((2 : Int) < (qj : Int)) = true := by simp; omega
            have hq2'' : decide (2 < qj) = true := by simp; omega
            gi_wp2_with (refine ⟨trivial, ?_⟩; refine (CallsIn.inRound lp (callsIn_wide.2 (HWF.out _))).mono ?_; rintro e w' ⟨rfl, rfl⟩)
            clear HWF hE
            refine wpIn_head_tail 0 8 4 [] [0, 1, 2, 5] rfl (fun w' => St W w' LX ∧ KeepsOthers X w') (by kernel_rfl) (by kernel_rfl) (by kernel_rfl) ⟨HS6.out.drew, HKO6.out.trans ⟨Nat.le_refl _, fun _ _ h _ => h⟩⟩ ?_
            simp only [pick, List.filterMap_cons, List.filterMap_nil, List.getElem?_toArray, List.getElem?_cons_succ, List.getElem?_cons_zero]
            generalize hK : (fun w' => St W w' LX ∧ KeepsOthers X w') = K2
            have kS : ∀ y : Wd K2, St W y.w LX := by subst hK; exact fun y => y.h.1
            have hK2 : ∀ w', St W w' LX → KeepsOthers X w' → K2 w' := by subst hK; exact fun _ h h2 => ⟨h, h2⟩
            have hne2 : Nonempty (Wd K2) := ⟨⟨_, hK2 _ HS6.out HKO6.out⟩⟩
            have k0 : ∀ y : Wd K2, y.w.cell? ⟨go, 0, none⟩ = some vo := fun y => (kS y).blk_cell HL2.out 0
            clear hK kS
            have HS7 : Hid (St W w6.drew LX) := HS6.out.drew
            have HKO7 : Hid (KeepsOthers X w6.drew) := HKO6.out.trans ⟨Nat.le_refl _, fun _ _ h _ => h⟩
            refine wpQuiet_nil ?_
            change wpQuiet _ _ _ _ (_ :: _ :: _ :: _ :: []) _
            repeat (go_big_quiet_step ((fail)))
            refine wpQuiet_nil ?_
            have hdg := dgL_len qj
            have hs2 : ¬ 9223372036854775807 < (wB (dgL qj)).size + 1 := by omega
            have hs3 : ¬ 9223372036854775807 < (wB (dgL qj)).size + 1 + wx.size := by omega
            have hs4 : ¬ 9223372036854775807 < (wB (dgL qj) ++ (⟨#[42]⟩ : ByteArray)).size + wx.size := by rw [ByteArray.size_append]; show ¬ _ < (wB (dgL qj)).size + 1 + wx.size; omega
            have hnw : wB (dgL qj) ++ (⟨#[42]⟩ : ByteArray) ++ wx = wB (dgL qj ++ 42 :: wE ⟨xs, xm⟩) := by
              rw [← HWX.out, show (⟨#[42]⟩ : ByteArray) = wB [42] from rfl, wB_app, wB_app, List.append_assoc]; rfl
            have HNW := Lib.hid hnw
            clear hnw
            clear k0 hne2 HS6 HKO6
            generalize w6.drew = w7 at *
            refine headW_all (rs := [3]) (by kernel_rfl) (by simp) (by kernel_rfl) ?_
            intro i hi
            obtain rfl := List.mem_singleton.1 hi
            refine wpOp_list rfl ?_
            intro Q' hQ'
            go_wp2_with (go_at_call 29; refine (itoa_any qj (by omega) _).mono ?_; rintro e w' ⟨rfl, rfl⟩)
            refine ⟨hK2 _ HS7.out HKO7.out, ?_⟩
            refine headW_all (rs := [4]) (by kernel_rfl) (by simp) (by kernel_rfl) ?_
            intro i hi
            obtain rfl := List.mem_singleton.1 hi
            refine wpOp_list rfl ?_
            intro Q' hQ'
            go_wp2_with fail
            refine ⟨hK2 _ HS7.out HKO7.out, ?_⟩
            refine headW_all (rs := [6]) (by kernel_rfl) (by simp) (by kernel_rfl) ?_
            intro i hi
            obtain rfl := List.mem_singleton.1 hi
            refine wpOp_list rfl ?_
            intro Q' hQ'
            go_wp2_with fail
            refine ⟨hK2 _ HS7.out HKO7.out, ?_⟩
            refine headW_all (rs := [7]) (by kernel_rfl) (by simp) (by kernel_rfl) ?_
            intro i hi
            obtain rfl := List.mem_singleton.1 hi
            refine wpOp_list rfl ?_
            intro Q' hQ'
            go_wp2_with fail
            generalize wB (dgL qj) ++ (⟨#[42]⟩ : ByteArray) ++ wx = wy at *
            have S10 := HS7.out.alloc (.cells #[.string wy] 9)
            have HKO9 : Hid (KeepsOthers X (w7.alloc (.cells #[.string wy] 9))) := HKO7.out.trans (KeepsOthers.alloc _ _)
            have hrd : Rd (w7.alloc (.cells #[.string wy] 9)) (fun _ => True) 1 (.slice (some ⟨w7.heap.size, 0, none⟩) 1 1) 1 [.string wy] := rd_one (by simp)
            refine ⟨hK2 _ S10 HKO9.out, by kernel_rfl, ?_⟩
            clear hK2 HS7 HKO7
            generalize hw9 : w7.alloc (.cells #[.string wy] 9) = w9 at *
            clear hw9
            have hcell : ∀ g, vo.ownBlock = some g → ∃ cur, w9.heap[g]? = some (.cells cur 9 (0, 0)) := fun g hg => by
              obtain ⟨F, _, ⟨hrow, _⟩⟩ := S10.get (i := 5) HL5.out
              exact (ownsRow_cells hrow hg).2
            refine wpList_append_st eltStr rfl _ _ rfl rfl S10 (k := 5) HL5.out rfl hrd (by simp [Value.oneCell']) (by omega) (by omega) ?_
            intro v' w10 S11 hgr
            have hko10 : KeepsOthers X w10 := HKO9.out.trans (KeepsOthers.of_grownBy hgr fun j o hj ho => by
              obtain ⟨cur, hc⟩ := hcell j hj
              rw [hc] at ho; cases ho; rfl)
            have g0 := S11.blk_cell (i := 2) (by rw [← HLX.out]; rfl) 0
            have g1 := S11.blk_frozen (i := 2) (g := go) (t := 79) (cs := #[vo]) (by rw [← HLX.out]; rfl) 0
            obtain ⟨Ab, cb, rfl, _, _, _⟩ := (S11.row_rd (i := 5) (by rw [← HLX.out]; rfl)).open_
            have HS11 := Lib.hid S11
            have HKO10 := Lib.hid hko10
            clear S11 hko10 hcell hgr S10 hrd
            go_wp2_with fail
            refine OnlyN.normal ?_
            gi_wp2
            have S12 := HS11.out.blk_set (i := 2) (g := go) (t := 79) (cs := #[vo]) (by rw [← HLX.out]; rfl) 0 (.slice Ab (ws.length + 1) cb)
            rw [← HLX.out] at S12
            go_roundw
            case rel =>
              refine ⟨j + 1, .slice Ab (ws.length + 1) cb, by omega, by go_num, HKO10.out.trans (KeepsOthers.setCell _ _ _), ?_⟩
              rw [HTK.out]
              unfold prL
              rw [List.length_append, List.map_append]
              rw [show (wordsR (qj, ⟨xs, xm⟩)).map (fun w => Value.string (wB w)) = [.string wy] by rw [HNW.out]; unfold wordsR; rw [if_pos (by dsimp only; omega)]; rfl, show (wordsR (qj, ⟨xs, xm⟩)).length = 1 by unfold wordsR; rw [if_pos (by dsimp only; omega)]; rfl]
              exact S12
            case measure => simp [intOf]; omega
          · have hq2' : decide ((2 : Int) < (qj : Int)) = false := by simp; omega
            have hq2'' : decide (2 < qj) = false := by simp; omega
            gi_wp2_with (refine ⟨trivial, ?_⟩; refine (CallsIn.inRound lp (callsIn_wide.2 (HWF.out _))).mono ?_; rintro e w' ⟨rfl, rfl⟩)
            clear HWF hE
            refine wpIn_head_tail 0 6 2 [] [0, 1, 3, 4] rfl (fun w' => St W w' LX ∧ KeepsOthers X w') (by kernel_rfl) (by kernel_rfl) (by kernel_rfl) ⟨HS6.out.drew, HKO6.out.trans ⟨Nat.le_refl _, fun _ _ h _ => h⟩⟩ ?_
            simp only [pick, List.filterMap_cons, List.filterMap_nil, List.getElem?_toArray, List.getElem?_cons_succ, List.getElem?_cons_zero]
            generalize hK : (fun w' => St W w' LX ∧ KeepsOthers X w') = K2
            have kS : ∀ y : Wd K2, St W y.w LX := by subst hK; exact fun y => y.h.1
            have hK2 : ∀ w', St W w' LX → KeepsOthers X w' → K2 w' := by subst hK; exact fun _ h h2 => ⟨h, h2⟩
            have hne2 : Nonempty (Wd K2) := ⟨⟨_, hK2 _ HS6.out HKO6.out⟩⟩
            have k0 : ∀ y : Wd K2, y.w.cell? ⟨go, 0, none⟩ = some vo := fun y => (kS y).blk_cell HL2.out 0
            clear hK kS
            have HS7 : Hid (St W w6.drew LX) := HS6.out.drew
            have HKO7 : Hid (KeepsOthers X w6.drew) := HKO6.out.trans ⟨Nat.le_refl _, fun _ _ h _ => h⟩
            refine wpQuiet_nil ?_
            change wpQuiet _ _ _ _ (_ :: _ :: _ :: _ :: []) _
            repeat (go_big_quiet_step ((fail)))
            refine wpQuiet_nil ?_
            clear k0 hne2 HS6 HKO6
            generalize w6.drew = w7 at *
            refine headW_all (rs := [2]) (by kernel_rfl) (by simp) (by kernel_rfl) ?_
            intro i hi
            obtain rfl := List.mem_singleton.1 hi
            refine wpOp_list rfl ?_
            intro Q' hQ'
            go_wp2_with fail
            have S8 := HS7.out.alloc (.cells #[.string wx] 9)
            have HKO8 : Hid (KeepsOthers X (w7.alloc (.cells #[.string wx] 9))) := HKO7.out.trans (KeepsOthers.alloc _ _)
            have HREP := Lib.hid (repeatS_any (w7.alloc (.cells #[.string wx] 9)) w7.heap.size qj [.string wx] rfl (by simp [Value.oneCell']) (fun j v hv => by rw [cell_of_row _ _ j _ _ _ (heap_alloc_new w7 _)]; simpa using hv) (by simp) (by omega))
            have HS8 := Lib.hid S8
            refine ⟨hK2 _ S8 HKO8.out, ?_⟩
            clear S8
            refine headW_all (rs := [5]) (by kernel_rfl) (by simp) (by kernel_rfl) ?_
            intro i hi
            obtain rfl := List.mem_singleton.1 hi
            refine wpOp_list rfl ?_
            intro Q' hQ'
            go_wp2_with (go_at_call 30; refine HREP.out.mono ?_; rintro e w9 ⟨g, rfl, S9⟩)
            have hko9 : KeepsOthers X w9 := HKO8.out.trans ⟨S9.bel.size, fun k o hk _ => (S9.bel.block k (Array.getElem?_eq_some_iff.1 hk).1).trans hk⟩
            refine ⟨hK2 _ (HS8.out.ext S9.bel) hko9, by kernel_rfl, ?_⟩
            have hrd := (S9.row_rd (i := 0) rfl).now
            have S10 := HS8.out.ext S9.bel
            have HKO9 := Lib.hid hko9
            clear hK2 S9 HREP HS8 HS7 HKO7 HKO8 hko9
            have h1c : ∀ u ∈ (List.replicate qj [Value.string wx]).flatten, u.oneCell' = true := fun u hu => by
              obtain ⟨l, hl, hu⟩ := List.mem_flatten.1 hu
              rw [(List.mem_replicate.1 hl).2] at hu
              rw [List.mem_singleton.1 hu]; rfl
            have hcell : ∀ g, vo.ownBlock = some g → ∃ cur, w9.heap[g]? = some (.cells cur 9 (0, 0)) := fun g hg => by
              obtain ⟨F, _, ⟨hrow, _⟩⟩ := S10.get (i := 5) HL5.out
              exact (ownsRow_cells hrow hg).2
            refine wpList_append_st eltStr rfl _ _ rfl rfl S10 (k := 5) HL5.out rfl hrd h1c (by omega) (by omega) ?_
            intro v' w10 S11 hgr
            have hko10 : KeepsOthers X w10 := HKO9.out.trans (KeepsOthers.of_grownBy hgr fun j o hj ho => by
              obtain ⟨cur, hc⟩ := hcell j hj
              rw [hc] at ho; cases ho; rfl)
            have g0 := S11.blk_cell (i := 2) (by rw [← HLX.out]; rfl) 0
            have g1 := S11.blk_frozen (i := 2) (g := go) (t := 79) (cs := #[vo]) (by rw [← HLX.out]; rfl) 0
            obtain ⟨Ab, cb, rfl, _, _, _⟩ := (S11.row_rd (i := 5) (by rw [← HLX.out]; rfl)).open_
            have HS11 := Lib.hid S11
            have HKO10 := Lib.hid hko10
            clear S11 hko10 hcell hgr S10 hrd
            go_wp2_with fail
            refine OnlyN.normal ?_
            gi_wp2
            have S12 := HS11.out.blk_set (i := 2) (g := go) (t := 79) (cs := #[vo]) (by rw [← HLX.out]; rfl) 0 (.slice Ab (ws.length + qj) cb)
            rw [← HLX.out] at S12
            go_roundw
            case rel =>
              refine ⟨j + 1, .slice Ab (ws.length + qj) cb, by omega, by go_num, HKO10.out.trans (KeepsOthers.setCell _ _ _), ?_⟩
              rw [HTK.out]
              unfold prL
              rw [List.length_append, List.map_append]
              rw [show (wordsR (qj, ⟨xs, xm⟩)).map (fun w => Value.string (wB w)) = (List.replicate qj [Value.string wx]).flatten by rw [← HWX.out]; unfold wordsR; rw [if_neg (by dsimp only; omega), List.map_replicate]; exact (flat_rep _ _).symm, show (wordsR (qj, ⟨xs, xm⟩)).length = qj by unfold wordsR; rw [if_neg (by dsimp only; omega), List.length_replicate]]
              exact S12
            case measure => simp [intOf]; omega
        · have ejq : j = qs.length := by omega
          subst ejq
          have HS := Lib.hid S
          have hko := hko
          clear S
          gi_wp2
          obtain ⟨x1, x2, x3⟩ := HX0.out
          have hrl : (runsL lk).length = qs.length := by rw [← HQ.out, List.length_map]
          refine ⟨hko.out.from _, ⟨below_between x1 HS.out.bel hko.out.size, hko.out.size, fun g hg => ?_⟩, k + 1, vo, by rw [seqC_snoc, HCH.out], ?_⟩
          · simp only [List.mem_cons, List.not_mem_nil, or_false] at hg
            rcases hg with rfl | rfl
            · rw [x2]; exact (HS.out.blk_at (i := 3) rfl).2.2
            · rw [x3]; exact (HS.out.blk_at (i := 4) rfl).2.2
          · rw [HWC.out, HWSE.out]
            have S9 := HS.out
            rw [← hrl, List.take_length] at S9
            exact S9.sub (List.sublist_append_left _ _)
  case done =>
    intro D xs X hD hS hI hK
    obtain ⟨k, vo, hkx, S⟩ := hI
    have hkn : k = (n + 8) / 9 := by have := congrArg List.length (hkx.symm.trans hS); rwa [seqC_len, seqC_len] at this
    subst hkn
    have hwf1 := wordsC_few ⟨by have := HL.out; omega, by have := HL.out; omega⟩ HGL.out ((n + 8) / 9) (by have := HL.out; omega)
    have hwf0 : 1 ≤ (wordsC l ((n + 8) / 9)).length := by
      rw [← toksC_word, List.length_map]
      have := (toksC_ok (by have := HL.out; omega) HGL.out ((n + 8) / 9) (by have := HL.out; omega)).2.2
      omega
    have hwf : 1 ≤ (wordsC l ((n + 8) / 9)).length ∧ (wordsC l ((n + 8) / 9)).length ≤ 40 ∧ ∀ w ∈ wordsC l ((n + 8) / 9), w.length ≤ 6 := ⟨hwf0, by omega, hwf1.2⟩
    clear hwf0 hwf1
    generalize hws : wordsC l ((n + 8) / 9) = ws at *
    have HWS := Lib.hid hws
    clear hws
    obtain ⟨f1, f2, f3⟩ := hwf
    obtain ⟨Ao, co, rfl, hcap, _, hrd⟩ := (S.row_rd (i := 5) rfl).open_
    obtain ⟨bw, ow, rfl, _, hbw, hcells⟩ := hrd.addr (by omega)
    have c0 := S.blk_cell (i := 2) rfl 0
    have HJ : Hid (Calls Tryz.prog 31 #[.slice (some ⟨bw, ow, none⟩) ws.length co, .string ⟨#[32]⟩] X fun e w' => e = .returned (.string (wB (joinW ws))) ∧ Below X.heap.size X w') := by
      have e1 : (ws.map wB).map (fun x : ByteArray => x.data.toList) = ws := by rw [List.map_map]; exact List.map_id _
      have hj := Tryz.strings_Join bw ow co (ws.map wB) ⟨#[32]⟩ X (fun j x hx => hcells j _ (by
        rw [List.getElem?_map] at hx ⊢
        cases hw : ws[j]? with
        | none => rw [hw] at hx; cases hx
        | some w => rw [hw] at hx; cases hx; rfl)) hbw (by rw [List.length_map]; omega) (by rw [List.length_map]; omega) (by
          rw [e1]
          show (Lib.join ws [32]).length ≤ _
          rw [joinW_join]
          have := joinW_len ws f3
          omega)
      rw [e1, List.length_map] at hj
      refine hj.mono ?_
      rintro e w' ⟨rfl, h⟩
      refine ⟨?_, h⟩
      show Ending.returned (.string (wB (Lib.join ws [32]))) = _
      rw [joinW_join]
    have HK := Lib.hid hK
    have HS := Lib.hid S
    clear S hkx hS hcells hrd hK
    go_wp2_with (go_at_call 31; refine HJ.out.mono ?_; rintro e w4 ⟨rfl, hb4⟩; have HB4 := Lib.hid hb4; clear hb4)
    have hK4 : w4.heap[D]? = some (.deferred (some [])) := (HB4.out.block D (Array.getElem?_eq_some_iff.1 HK.out).1).trans HK.out
    have hbel := ((HS.out.ext HB4.out).nil.turn_c (r := some D) (grownBy_putObj' w4 D (.deferred none)) fun k e => by
      cases e
      exact ⟨by omega, (fun A hA => absurd hA (List.not_mem_nil)), _, hK4, rfl⟩).bel
    rw [HWS.out]
    refine ⟨by simp, .inl ⟨_, _, rfl, run_takeDeferred hK4, ?_⟩⟩
    exact ⟨_, res_print _ _ _ _ rfl rfl, rfl, hbel⟩
end Go.Proofs.YtbakoldmfpbnaaaGreatDoor
