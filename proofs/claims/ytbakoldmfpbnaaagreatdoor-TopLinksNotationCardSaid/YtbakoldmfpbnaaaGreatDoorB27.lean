/- Part 27 of the walks of the golf union's program: LN9. -/
import Derived.Test.YtbakoldmfpbnaaaGreatDoorB12
import Derived.Test.YtbakoldmfpbnaaaGreatDoorB23
import Derived.Test.YtbakoldmfpbnaaaGreatDoorB25
import Derived.Test.YtbakoldmfpbnaaaGreatDoorB26
import Derived.Laws.EntriesVeiled
set_option linter.unusedVariables false
set_option linter.unusedSimpArgs false
set_option linter.unusedSectionVars false
set_option linter.constructorNameAsVariable false
/- Chapter 1: Print. -/
namespace Go.Mem
open Go.RowKit
/-- an assertion that does not speak of block r, unless r holds cells -/
def AvoidC (r : Nat) (A : Asr) : Prop := ∀ (w : World) (F : Nat → Prop), A.holds w F → (∀ o, w.heap[r]? = some o → o.isCells = false) → A.holds w (fun b => F b ∧ b ≠ r)
theorem avoidC_cells {A : Asr} (h : CellsA A) (r : Nat) : AvoidC r A := fun w F h1 h2 => h w F r h1 h2
theorem avoidC_map {r b : Nat} (h : b ≠ r) (es : Array MapEntry) (c : Nat) : AvoidC r (mapS b es c) := fun _ _ ⟨h1, h2⟩ _ => ⟨h1, h2, h⟩
theorem Sep.avoidC {L : List Asr} : ∀ {w : World} {F : Nat → Prop} {r : Nat}, Sep L w F → (∀ A ∈ L, AvoidC r A) → (∀ o, w.heap[r]? = some o → o.isCells = false) → Sep L w (fun b => F b ∧ b ≠ r) := by
  induction L with
  | nil => intros; trivial
  | cons A L ih =>
    rintro w F r ⟨F1, h1, h2, h3⟩ hL hr
    refine ⟨fun b => F1 b ∧ b ≠ r, fun b hb => ⟨h1 b hb.1, hb.2⟩, hL A (by simp) w F1 h2 hr, (ih h3 (fun B hB => hL B (by simp [hB])) hr).mono ?_⟩
    rintro b ⟨⟨hb, hn⟩, hne⟩
    exact ⟨⟨hb, hne⟩, fun h => hn h.1⟩
theorem St.turn_c {W X Y : World} {L : List Asr} {r : Option Nat} (h : St W X L) (hg : X.grownBy Y r) (hr : ∀ k, r = some k → W.heap.size ≤ k ∧ (∀ A ∈ L, AvoidC k A) ∧ ∃ o : Obj, X.heap[k]? = some o ∧ o.isCells = false) : St W Y L := by
  refine ⟨h.1.grown hg h.1.size fun k hk => (hr k hk).1, ?_⟩
  have hs := hg.size
  cases r with
  | none => exact (Sep.loc (w' := Y) h.2 hs fun b hb => hg.block b hb.2 (by simp)).mono fun b hb => ⟨hb.1, by omega⟩
  | some k =>
    obtain ⟨_, hL, o, ho, hc⟩ := hr k rfl
    refine (Sep.loc (w' := Y) (h.2.avoidC (r := k) hL fun o' ho' => by rw [ho] at ho'; cases ho'; exact hc) hs fun b hb => hg.block b hb.1.2 fun e => hb.2 (by cases e; rfl)).mono fun b hb => ⟨hb.1.1, by have := hb.1.2; omega⟩
end Go.Mem
namespace Go.Proofs.YtbakoldmfpbnaaaGreatDoor
open Go.RowKit Go.Mem Go.Sheet Go.Adj Go.Shelf Go.MemQ
attribute [local go_sem] Oper.semAt_some
set_option maxRecDepth 100000 in
theorem frame77p {T : Array Value} {v5 v6 v7 : Value} (h : T.size = 77) (h5 : T.getD 5 undef = v5) (h6 : T.getD 6 undef = v6) (h7 : T.getD 7 undef = v7) : ∃ f : Nat → Value, T = #[f 0, f 1, f 2, f 3, f 4, v5, v6, v7, f 8, f 9, f 10, f 11, f 12, f 13, f 14, f 15, f 16, f 17, f 18, f 19, f 20, f 21, f 22, f 23, f 24, f 25, f 26, f 27, f 28, f 29, f 30, f 31, f 32, f 33, f 34, f 35, f 36, f 37, f 38, f 39, f 40, f 41, f 42, f 43, f 44, f 45, f 46, f 47, f 48, f 49, f 50, f 51, f 52, f 53, f 54, f 55, f 56, f 57, f 58, f 59, f 60, f 61, f 62, f 63, f 64, f 65, f 66, f 67, f 68, f 69, f 70, f 71, f 72, f 73, f 74, f 75, f 76] := by
  obtain ⟨f, hf⟩ : ∃ f : Nat → Value, f = fun i => T.getD i undef := ⟨_, rfl⟩
  have e : ((List.range 77).map f).toArray = #[f 0, f 1, f 2, f 3, f 4, f 5, f 6, f 7, f 8, f 9, f 10, f 11, f 12, f 13, f 14, f 15, f 16, f 17, f 18, f 19, f 20, f 21, f 22, f 23, f 24, f 25, f 26, f 27, f 28, f 29, f 30, f 31, f 32, f 33, f 34, f 35, f 36, f 37, f 38, f 39, f 40, f 41, f 42, f 43, f 44, f 45, f 46, f 47, f 48, f 49, f 50, f 51, f 52, f 53, f 54, f 55, f 56, f 57, f 58, f 59, f 60, f 61, f 62, f 63, f 64, f 65, f 66, f 67, f 68, f 69, f 70, f 71, f 72, f 73, f 74, f 75, f 76] := rfl
  have e2 := arr_litm T 77 h
  rw [← hf, e] at e2
  rw [show T.getD 5 undef = f 5 by rw [hf]] at h5
  rw [show T.getD 6 undef = f 6 by rw [hf]] at h6
  rw [show T.getD 7 undef = f 7 by rw [hf]] at h7
  refine ⟨f, ?_⟩
  rw [← h5, ← h6, ← h7]
  exact e2
theorem words_single : ∀ (rs : List (Nat × EI)), (∀ q ∈ rs, q.1 = 1) → rs.flatMap wordsR = rs.map fun q => wE q.2
  | [], _ => rfl
  | (j, x) :: rs, h => by
    have e : j = 1 := h (j, x) (by simp)
    subst e
    rw [List.flatMap_cons, words_single rs fun q hq => h q (by simp [hq])]
    rfl
theorem words_next {rs : List (Nat × EI)} {j : Nat} {x : EI} (h : rs[j]? = some (1, x)) : (rs.take (j + 1)).flatMap wordsR = (rs.take j).flatMap wordsR ++ [wE x] := by
  rw [List.take_add_one, h, List.flatMap_append]; rfl
theorem hseq1 (b o n : Nat) (hn : 1 ≤ n ∧ n ≤ 9) : seqC b o n 0 ++ [.slice (some ⟨b, o, none⟩) n n] = seqC b o n 1 := by
  have e : chN n 0 = n := by show min 9 (n - 9 * 0) = n; omega
  rw [seqC_snoc, chV, e, Nat.mul_zero, Nat.zero_mul, Nat.add_zero]
theorem words_few {l : List EI} (hn : 1 ≤ l.length ∧ l.length ≤ 9) (hg : ∀ i, i < l.length → GoodE (eAt l i)) (hd : ∀ i, ∀ x y, l[i]? = some x → l[i + 1]? = some y → x ≠ y) :
    1 ≤ ((runsL l).flatMap wordsR).length ∧ ((runsL l).flatMap wordsR).length ≤ 9 ∧ ∀ w ∈ (runsL l).flatMap wordsR, w.length ≤ 6 := by
  rw [words_single _ fun q hq => (runsL_one hd q hq).1]
  refine ⟨?_, ?_, fun w hw => ?_⟩
  · rw [List.length_map]
    obtain ⟨q, hq, _⟩ := pushR_last (runsL (l.take (l.length - 1))) (l[l.length - 1]'(by omega))
    rw [← runsL_take (List.getElem?_eq_getElem _), show l.length - 1 + 1 = l.length by omega, List.take_length] at hq
    cases hr : runsL l with
    | nil => rw [hr] at hq; cases hq
    | cons a r => simp
  · rw [List.length_map]; have := runsL_len l; omega
  · obtain ⟨q, hq, rfl⟩ := List.mem_map.1 hw
    obtain ⟨i, hi⟩ := List.mem_iff_getElem?.1 (runsL_one hd q hq).2
    have h1 := hg i (List.getElem?_eq_some_iff.1 hi).1
    rw [eAt_eq hi] at h1
    have := one_ok h1
    simp only [oneOk, Bool.and_eq_true, beq_iff_eq, bne_iff_ne, Bool.not_eq_true', decide_eq_true_eq] at this
    omega
theorem res_print (tmps : Array Value) (w : World) (a b : Value) (h2 : tmps.getD 2 undef = a) (h3 : tmps.getD 3 undef = b) : (results Tryz.f8 tmps).run Tryz.prog w = .ok (.tuple #[a, b]) w := by
  have e2 : tmps[2]?.getD undef = a := by simpa using h2
  have e3 : tmps[3]?.getD undef = b := by simpa using h3
  simp [results, Tryz.results8, e2, e3, go_sem]
theorem fld_mark (u v : FuncId) (w : World) : (Instr.field 88 (.agg #[.func (.func u) #[] #[], .func (.func v) #[] #[]]) 1).run Tryz.prog w = .ok (.func (.func v) #[] #[]) w := by
  simp [Instr.field, asAgg, run_underlying Tryz.underlying88, Result.andThen, go_sem]
/-- what Print holds -/
def prL (b gm go gs gn : Nat) (vs vo : Value) (ws : List (List UInt8)) : List Asr :=
  [mapS b marksE 4, blk gm 77 #[.map (some b)], blk go 79 #[vo], blk gs 29 #[vs], blk gn 3 #[.int .i64 9], row 9 1 vo ws.length (ws.map fun w => .string (wB w))]
/-- the frame of a round of Print -/
def RoundPr (gm go : Nat) (v : Value) (a : Act) : Prop :=
  a.tmps.size = 77 ∧ a.tmps.getD 5 undef = .pointer (some ⟨gm, 0, none⟩) ∧ a.tmps.getD 6 undef = .pointer (some ⟨go, 0, none⟩) ∧ a.tmps.getD 7 undef = v ∧ a.defers = []
set_option maxRecDepth 100000 in
set_option maxHeartbeats 8000000 in
theorem print_any (W : World) (v : Value) (n : Nat) (l : List EI) (h : Rd W (· < W.heap.size) 2 v n (l.flatMap EI.cells)) (hn : 1 ≤ n ∧ n ≤ 9) (hg : ∀ i, i < n → GoodE (eAt l i)) (hd : ∀ i, ∀ x y, l[i]? = some x → l[i + 1]? = some y → x ≠ y) :
    Calls Tryz.prog 8 #[v] W fun e w' => e = .returned (.tuple #[.string (wB (joinW (wordsC l ((n + 8) / 9)))), .int .i64 0]) ∧ Below W.heap.size W w' := by
  obtain ⟨b, o, A, c, rfl, hA, hnc, hcm, h⟩ : ∃ b o A c, v = .slice A n c ∧ A = some ⟨b, o, none⟩ ∧ n ≤ c ∧ c ≤ maxLen ∧ Rd W (· < W.heap.size) 2 (.slice A n c) n (l.flatMap EI.cells) := by
    obtain ⟨A, c, rfl, h1, h2, h3⟩ := h.open_
    obtain ⟨b, o, hA, _⟩ := h3.addr (by omega)
    exact ⟨b, o, A, c, rfl, hA, h1, h2, h3⟩
  subst hA
  have H := Lib.hid h
  have HD := Lib.hid hd
  have HGE := Lib.hid hg
  have HL := Lib.hid (h.count (f := EI.cells) (fun _ => rfl) (by decide))
  have HCE : Hid (∀ w, Below W.heap.size W w → Calls Tryz.prog 25 #[.slice (some ⟨b, o, none⟩) n c] w fun e w' => e = .returned (.int .i64 0) ∧ Below w.heap.size w w') := fun w hb => checkEntries_ok w _ n l (h.later hb) hg
  have t1 : ((n : Int) == 0) = false := by simp; omega
  have t2 : decide ((36 : Int) < (n : Int)) = false := by simp; omega
  clear h hd hg
  refine (callsIn_wide (n := 6)).1 (callsIn_of_wp_marks Tryz.func8 rfl trivial (wpIn_wide.2 ?_) rfl)
  simp only [Tryz.ntmps8, List.size_toArray, List.length_cons, List.length_nil, Nat.reduceAdd, Nat.reduceSub, Array.replicate_succ, Array.replicate_zero, List.push_toArray, List.append_toArray, List.nil_append, List.cons_append]
  go_wp2_with (first
    | (go_at_call 24; refine (cardNo _ _).mono ?_; rintro e w' ⟨rfl, rfl⟩)
    | (go_at_call 25; refine (HCE.out _ (Below.refl _ _)).mono ?_; rintro e w1 ⟨rfl, hb1⟩; have HB1 := Lib.hid hb1; clear hb1)
    | (go_at_call 23; refine (cardOk3 _ _ (by simp) (by simp) (by simp) (by simp)).mono ?_; rintro e w' ⟨rfl, rfl⟩)
    | (go_at_call 26; refine (marks_any _).mono ?_; rintro e w2 ⟨bm, rfl, Sm⟩; have HSM := Lib.hid Sm; clear Sm)
    | (go_at_call 27; refine (chunk_any _ _ _ _).mono ?_; rintro e w3 ⟨rfl, hw3⟩; have HW3 := Lib.hid hw3; clear hw3))
  have S1 := ((((((St.of_below HB1.out).alloc (.cells #[.int .i64 0, .int .i64 0, .int .i64 0] 34)).call HSM.out).blk_new #[.map (some bm)] 77).blk_new #[.slice none 0 0] 79).blk_new #[.slice (some ⟨b, o, none⟩) n c] 29).blk_new #[.int .i64 9] 3
  have S2 := S1.row_nil 9 1
  simp only [World.size_alloc, List.cons_append, List.nil_append] at S2
  have hw3 := HW3.out
  rw [← hw3] at S2
  have hsz3 : w3.heap.size = w2.heap.size + 1 + 1 + 1 + 1 := by rw [hw3]; simp only [World.size_alloc]
  have hW2 : W.heap.size ≤ w2.heap.size := by
    have h1 := HB1.out.size
    have h2 := HSM.out.bel.size
    simp only [World.size_alloc] at h2
    omega
  have hbm : bm < w2.heap.size := (Array.getElem?_eq_some_iff.1 (HSM.out.mapS_at (i := 0) rfl)).1
  clear hw3 S1 HW3 HSM HB1 HCE
  obtain ⟨gm, hgm⟩ : ∃ x, x = w2.heap.size := ⟨_, rfl⟩
  obtain ⟨go, hgo⟩ : ∃ x, x = w2.heap.size + 1 := ⟨_, rfl⟩
  obtain ⟨gs, hgs⟩ : ∃ x, x = w2.heap.size + 1 + 1 := ⟨_, rfl⟩
  obtain ⟨gn, hgn⟩ : ∃ x, x = w2.heap.size + 1 + 1 + 1 := ⟨_, rfl⟩
  rw [← hgn, ← hgs, ← hgo, ← hgm] at S2 ⊢
  have HSZ := Lib.hid (show bm < gm ∧ gm < go ∧ go < gs ∧ gs < gn ∧ gn < w3.heap.size ∧ W.heap.size ≤ gm by omega)
  clear hgm hgo hgs hgn hsz3 hW2 hbm
  have HI0 : Hid (St W w3 (prL bm gm go gs gn (.slice (some ⟨b, o, none⟩) n c) (.slice none 0 0) (wordsC l 0))) := S2
  have hcs := S2.blk_cell (i := 3) rfl 0
  have hcn := S2.blk_cell (i := 4) rfl 0
  have hwsz := S2.bel.size
  clear S2
  refine (wpIn_wide (n := 5)).1 ?_
  refine wpIn_rangeFunc_ownD (F := Fence.wide) (idle := False) (encs := encC) (Kp := KpL W.heap.size [gs, gn]) rfl (by decide) (gf := 65) (lb := #[.pointer (some ⟨gs, 0, none⟩), .pointer (some ⟨gn, 0, none⟩)]) rfl trivial (enters Tryz.func65 (by kernel_rfl) rfl)
    (chunk1_stops 4 (by decide) w3 gs gn W.heap.size b o n c (by omega) ⟨hnc, hcm⟩ hcs hcn hwsz) KpL.trans (KpL.put (by omega) (by have := HSZ.out; intro b hb; simp only [List.mem_cons, List.not_mem_nil, or_false] at hb; omega)) (fun _ => rfl)
    (fun (pre : List Value) X => ∃ (k : Nat) (vo : Value), pre = seqC b o n k ∧ St W X (prL bm gm go gs gn (.slice (some ⟨b, o, none⟩) n c) vo (wordsC l k)))
    (fun _ _ _ => False)
    ?hI (fun h => h.elim) ?hIx ?h0 (fun x a' _ => RoundPr gm go x a') ?hax ?assign ?body ?done ?stop
  case hI =>
    rintro s X Y row ⟨k, vo, h1, h2⟩ hg hr
    have := HSZ.out
    refine ⟨k, vo, h1, h2.turn_c hg fun r hr' => ⟨by have := (hr r hr').1; omega, fun A hA => ?_, (hr r hr').2⟩⟩
    have := (hr r hr').1
    simp only [prL, List.mem_cons, List.not_mem_nil, or_false] at hA
    rcases hA with rfl | rfl | rfl | rfl | rfl | rfl
    · exact avoidC_map (by omega) _ _
    all_goals first | exact avoidC_cells (cellsA_blk _ _ _) _ | exact avoidC_cells (cellsA_row _ _ _ _ _) _
  case hIx => exact fun _ _ _ _ _ h _ _ => h.elim
  case h0 => exact ⟨0, _, rfl, HI0.out⟩
  case hax => exact fun x a' _ X Y row hs hg hr => hs
  case assign =>
    intro lp pre x X K hX _ hi hK
    unfold encC
    gi_wp2
    exact hK _ _ (KeepsFrom.refl _ _) (KpL.refl _ _ _) hi ⟨rfl, rfl, rfl, rfl, rfl⟩
  case stop =>
    intro D cc pre X _ _ h _
    exact h.elim
  case body =>
    intro lp pre x a' X hX hi hA5 hN
    obtain ⟨k, vo, rfl, hS⟩ := hi
    obtain ⟨k', hk', hseq⟩ := hN
    have hkk : k' = k + 1 := by have := congrArg List.length hseq; rw [List.length_append, seqC_len, seqC_len] at this; simpa using this.symm
    subst hkk
    obtain rfl : k = 0 := by omega
    have hx : x = .slice (some ⟨b, o, none⟩) n n := by
      have e : chN n 0 = n := by show min 9 (n - 9 * 0) = n; omega
      have : x = chV b o n 0 := by simpa [seqC] using hseq
      rw [this, chV, e, Nat.mul_zero, Nat.zero_mul, Nat.add_zero]
    subst hx
    obtain ⟨h1, h2, h3, h4, h5⟩ := hA5
    obtain ⟨T, dfs⟩ := a'
    dsimp only at h1 h2 h3 h4 h5
    subst h5
    obtain ⟨f, rfl⟩ := frame77p h1 h2 h3 h4
    clear h1 h2 h3 h4 hseq hk'
    have HRD : Hid (Rd X (· < X.heap.size) 2 (.slice (some ⟨b, o, none⟩) n n) n (l.flatMap EI.cells)) := by
      obtain ⟨b', o', e, q1, q2, q3⟩ := (H.out.later hS.bel).addr (by omega)
      exact ⟨_, n, rfl, Nat.le_refl _, by omega, H.out.len, (fun e => by cases e), fun _ => ⟨b', o', e, q1, q2, q3⟩⟩
    obtain ⟨A0, c0, hvo, _, _, _⟩ := (hS.row_rd (i := 5) rfl).open_
    change vo = .slice A0 0 c0 at hvo
    subst hvo
    have c1 := hS.blk_cell (i := 2) rfl 0
    have HX0 := Lib.hid (And.intro hS.bel (And.intro (hS.blk_at (i := 3) rfl).2.2 (hS.blk_at (i := 4) rfl).2.2))
    have HS := Lib.hid hS
    clear hS
    gi_wp2_with (refine ⟨trivial, ?_⟩; gi_at_call 28; refine (CallsIn.inRound lp (callsIn_wide.2 (runs_any X _ n l HRD.out (by omega) HD.out))).mono ?_; rintro e w5 ⟨vr, qs, rfl, hq, Sr⟩; obtain ⟨Ar, cr, rfl, _, _, _⟩ := (Sr.row_rd (i := 0) rfl).open_; have HQ := Lib.hid hq; have HSR := Lib.hid Sr; clear hq Sr)
    have hql : qs.length ≤ 9 := by
      have h1 := congrArg List.length HQ.out
      rw [List.length_map] at h1
      have h2 := runsL_len l
      have h3 := HL.out
      omega
    have SS := HS.out.call HSR.out
    have HKO : Hid (KeepsOthers X w5) := ⟨HSR.out.bel.size, fun k o hk _ => (HSR.out.bel.block k (Array.getElem?_eq_some_iff.1 hk).1).trans hk⟩
    clear HSR c1
    gi_loopw [39] (fun i wr => ∃ (j : Nat) (vo : Value), j ≤ qs.length ∧ i = .int .i64 j ∧ Hid (KeepsOthers X wr) ∧ St W wr (prL bm gm go gs gn (.slice (some ⟨b, o, none⟩) n c) vo (((runsL l).take j).flatMap wordsR) ++ runsS (.slice Ar qs.length cr) qs)) (fun i _ => qs.length - (intOf i).toNat)
    case atStart => exact ⟨0, _, Nat.zero_le _, rfl, HKO.out, SS⟩
    case round =>
      obtain ⟨j, vo, hj, rfl, hko, S⟩ := hrel
      clear SS HKO HS
      by_cases hlt : j < qs.length
      · obtain ⟨⟨v0, qj, x⟩, hq⟩ : ∃ q, qs[j]? = some q := ⟨qs[j], List.getElem?_eq_getElem hlt⟩
        have hrl : (runsL l)[j]? = some (qj, x) := by rw [← HQ.out, List.getElem?_map, hq]; rfl
        obtain ⟨e1, hxl⟩ := runsL_one HD.out _ (List.mem_of_getElem? hrl)
        change qj = 1 at e1
        subst e1
        have hgx : GoodE x := by
          obtain ⟨i, hi⟩ := List.mem_iff_getElem?.1 hxl
          have h1 := (List.getElem?_eq_some_iff.1 hi).1
          have := HGE.out i (by have := HL.out; omega)
          rwa [eAt_eq hi] at this
        have hidx : (prL bm gm go gs gn (.slice (some ⟨b, o, none⟩) n c) vo (((runsL l).take j).flatMap wordsR) ++ runsS (.slice Ar qs.length cr) qs)[j + 7]? = some (runA 54 (v0, 1, x)) := by
          unfold prL runsS
          simp only [List.cons_append, List.nil_append, List.getElem?_cons_succ, List.getElem?_map, hq, Option.map_some]
        obtain ⟨b1, o1, u1, hA1, _, hu1, d0⟩ := (S.row_rd (i := 6) rfl).at_ (k := j) hlt
        obtain rfl : u1 = v0 := by
          rw [List.getElem?_map, hq] at hu1
          exact (Option.some.inj hu1).symm
        have hrd : Rd wr (fun b => W.heap.size ≤ b ∧ b < wr.heap.size) 2 u1 1 [.int .i64 x.s, .string x.m] := S.row_rd (i := j + 7) hidx
        obtain ⟨Aq, cq, rfl, hcq, _, hrd2⟩ := hrd.open_
        obtain ⟨bq, oq, rfl, hbq, _, hcells⟩ := hrd2.addr (by decide)
        have d1 := hcells 0 _ rfl
        have d2 := hcells 1 _ rfl
        rw [Nat.add_zero] at d1
        subst hA1
        have g0 := S.blk_cell (i := 1) rfl 0
        obtain ⟨jf, G, F, hfind, hEn, hWF⟩ := word_fn x hgx
        have HFI := Lib.hid hfind
        have HRL := Lib.hid hrl
        have HGX := Lib.hid hgx
        have HEN := Lib.hid hEn
        have HWF := Lib.hid hWF
        have HS := Lib.hid S
        obtain ⟨xs, xm⟩ := x
        dsimp only at d1 d2 HFI HWF
        clear hq hrl hgx hidx hu1 hrd hrd2 hcells hfind S hxl hEn hWF
        gi_wp2_with fail
        refine wpIn_cls 11 (fun w' => ∃ q, w' = wr.drewN q) (by kernel_rfl) (by kernel_rfl) (by kernel_rfl) ⟨1, rfl⟩ ?_
        simp only [List.take_succ_cons, List.take_zero, List.drop_succ_cons, List.drop_zero]
        generalize hK : (fun w' => ∃ q, w' = wr.drewN q) = K
        intro hne
        have kw : ∀ y : Wd K, ∃ q, y.w = wr.drewN q := by subst hK; exact fun y => y.h
        clear hK
        have k0 : ∀ y : Wd K, y.w.cell? ⟨gm, 0, none⟩ = some (.map (some bm)) := fun y => by obtain ⟨q, hq⟩ := kw y; rw [hq]; exact g0
        have k1 : ∀ y : Wd K, y.w.cell? ⟨bq, oq, none⟩ = some (.int .i64 xs) := fun y => by obtain ⟨q, hq⟩ := kw y; rw [hq]; exact d1
        have k2 : ∀ y : Wd K, y.w.cell? ⟨bq, oq + 1, none⟩ = some (.string xm) := fun y => by obtain ⟨q, hq⟩ := kw y; rw [hq]; exact d2
        have k3 : ∀ y : Wd K, (Instr.lookup 77 (.map (some bm)) (.string xm) false).run Tryz.prog y.w = .ok (.agg #[.func (.func G) #[] #[], .func (.func F) #[] #[]]) y.w := fun y => by
          obtain ⟨q, hq⟩ := kw y
          rw [hq]
          exact run_lookupS1 77 9 88 Tryz.underlying9 Tryz.underlying77 ((HS.out.drewN q).mapS_at (i := 0) rfl) xm jf (mkV G F) HFI.out
        have hfm := fld_mark
        have hE := HEN.out
        unfold Enters at hE
        repeat (go_big_quiet_step ((fail)))
        refine wpQuiet_nil ?_
        intro y
        obtain ⟨q, hq⟩ := kw y
        have HS6 : Hid (St W y.w (prL bm gm go gs gn (.slice (some ⟨b, o, none⟩) n c) vo (((runsL l).take j).flatMap wordsR) ++ runsS (.slice (some ⟨b1, o1, none⟩) qs.length cr) qs)) := by show St _ _ _; rw [hq]; exact HS.out.drewN q
        have HKO6 : Hid (KeepsOthers X y.w) := by
          show KeepsOthers X y.w
          rw [hq]
          exact hko.out.trans ⟨Nat.le_refl _, fun _ _ h _ => h⟩
        clear k0 k1 k2 k3 kw hq HS hko hne d0 d1 d2 g0 hfm
        generalize y.w = w6 at *
        generalize hwx : wB (wE ⟨xs, xm⟩) = wx at *
        gi_wp2_with (refine ⟨trivial, ?_⟩; refine (CallsIn.inRound lp (callsIn_wide.2 (HWF.out _))).mono ?_; rintro e w' ⟨rfl, rfl⟩)
        generalize hLX : prL bm gm go gs gn (.slice (some ⟨b, o, none⟩) n c) vo (((runsL l).take j).flatMap wordsR) ++ runsS (.slice (some ⟨b1, o1, none⟩) qs.length cr) qs = LX at *
        have HL2 : Hid (LX[2]? = some (blk go 79 #[vo])) := by show _ = _; rw [← hLX]; rfl
        have HL5 : Hid (LX[5]? = some (row 9 1 vo (((runsL l).take j).flatMap wordsR).length ((((runsL l).take j).flatMap wordsR).map fun w => .string (wB w)))) := by show _ = _; rw [← hLX]; rfl
        have HLX := Lib.hid hLX
        have HWX := Lib.hid hwx
        clear hLX hwx HWF hE
        refine wpIn_head_tail 0 6 2 [] [0, 1, 3, 4] rfl (fun w' => St W w' LX ∧ KeepsOthers X w') (by kernel_rfl) (by kernel_rfl) (by kernel_rfl) ⟨HS6.out.drew, HKO6.out.trans ⟨Nat.le_refl _, fun _ _ h _ => h⟩⟩ ?_
        simp only [pick, List.filterMap_cons, List.filterMap_nil, List.getElem?_toArray, List.getElem?_cons_succ, List.getElem?_cons_zero]
        generalize hK : (fun w' => St W w' LX ∧ KeepsOthers X w') = K2
        have kS : ∀ y : Wd K2, St W y.w LX := by subst hK; exact fun y => y.h.1
        have hK2 : ∀ w', St W w' LX → KeepsOthers X w' → K2 w' := by subst hK; exact fun _ h h2 => ⟨h, h2⟩
        have hne2 : Nonempty (Wd K2) := ⟨⟨_, hK2 _ HS6.out HKO6.out⟩⟩
        have k0 : ∀ y : Wd K2, y.w.cell? ⟨go, 0, none⟩ = some vo := fun y => (kS y).blk_cell HL2.out 0
        clear hK kS
        have HS7 : Hid (St W w6.drew LX) := HS6.out.drew
        have HKO7 : Hid (KeepsOthers X w6.drew) := HKO6.out.trans ⟨Nat.le_refl _, fun _ _ h _ => h⟩
        refine wpQuiet_nil ?_
        change wpQuiet _ _ _ _ (_ :: _ :: _ :: _ :: []) _
        repeat (go_big_quiet_step ((fail)))
        refine wpQuiet_nil ?_
        clear k0 hne2 HS6 HKO6
        generalize w6.drew = w7 at *
        refine headW_all (rs := [2]) (by kernel_rfl) (by simp) (by kernel_rfl) ?_
        intro i hi
        obtain rfl := List.mem_singleton.1 hi
        refine wpOp_list rfl ?_
        intro Q' hQ'
        go_wp2_with fail
        have S8 := HS7.out.alloc (.cells #[.string wx] 9)
        have HKO8 : Hid (KeepsOthers X (w7.alloc (.cells #[.string wx] 9))) := HKO7.out.trans (KeepsOthers.alloc _ _)
        have HREP := Lib.hid (repeatS_any (w7.alloc (.cells #[.string wx] 9)) w7.heap.size 1 [.string wx] rfl (by simp [Value.oneCell']) (fun j v hv => by rw [cell_of_row _ _ j _ _ _ (heap_alloc_new w7 _)]; simpa using hv) (by simp) (by omega))
        have HS8 := Lib.hid S8
        refine ⟨hK2 _ S8 HKO8.out, ?_⟩
        clear S8
        refine headW_all (rs := [5]) (by kernel_rfl) (by simp) (by kernel_rfl) ?_
        intro i hi
        obtain rfl := List.mem_singleton.1 hi
        refine wpOp_list rfl ?_
        intro Q' hQ'
        go_wp2_with (go_at_call 30; refine HREP.out.mono ?_; rintro e w9 ⟨g, rfl, S9⟩)
        have hko9 : KeepsOthers X w9 := HKO8.out.trans ⟨S9.bel.size, fun k o hk _ => (S9.bel.block k (Array.getElem?_eq_some_iff.1 hk).1).trans hk⟩
        refine ⟨hK2 _ (HS8.out.ext S9.bel) hko9, by kernel_rfl, ?_⟩
        have hrd := (S9.row_rd (i := 0) rfl).now
        have S10 := HS8.out.ext S9.bel
        have HKO9 := Lib.hid hko9
        clear hK2 S9 HREP HS8 HS7 HKO7 HKO8 hko9
        have HTK := Lib.hid (words_next HRL.out)
        have hlen : (((runsL l).take j).flatMap wordsR).length ≤ 9 := by
          rw [words_single _ fun q hq => (runsL_one HD.out q (List.mem_of_mem_take hq)).1, List.length_map, List.length_take]
          omega
        have hcell : ∀ g, vo.ownBlock = some g → ∃ cur, w9.heap[g]? = some (.cells cur 9 (0, 0)) := fun g hg => by
          obtain ⟨F, _, ⟨hrow, _⟩⟩ := S10.get (i := 5) HL5.out
          exact (ownsRow_cells hrow hg).2
        generalize ((runsL l).take j).flatMap wordsR = ws at *
        refine wpList_append_st eltStr rfl _ _ rfl rfl S10 (k := 5) HL5.out rfl hrd (by simp [Value.oneCell']) (by omega) (by omega) ?_
        intro v' w10 S11 hgr
        have hko10 : KeepsOthers X w10 := HKO9.out.trans (KeepsOthers.of_grownBy hgr fun j o hj ho => by
          obtain ⟨cur, hc⟩ := hcell j hj
          rw [hc] at ho; cases ho; rfl)
        have g0 := S11.blk_cell (i := 2) (by rw [← HLX.out]; rfl) 0
        have g1 := S11.blk_frozen (i := 2) (g := go) (t := 79) (cs := #[vo]) (by rw [← HLX.out]; rfl) 0
        obtain ⟨Ab, cb, rfl, _, _, _⟩ := (S11.row_rd (i := 5) (by rw [← HLX.out]; rfl)).open_
        have HS11 := Lib.hid S11
        have HKO10 := Lib.hid hko10
        clear S11 hko10 hcell hgr S10 hrd
        go_wp2_with fail
        refine OnlyN.normal ?_
        gi_wp2
        have S12 := HS11.out.blk_set (i := 2) (g := go) (t := 79) (cs := #[vo]) (by rw [← HLX.out]; rfl) 0 (.slice Ab (ws.length + 1) cb)
        rw [← HLX.out] at S12
        go_roundw
        case rel =>
          refine ⟨j + 1, .slice Ab (ws.length + 1) cb, by omega, by go_num, HKO10.out.trans (KeepsOthers.setCell _ _ _), ?_⟩
          rw [HTK.out]
          unfold prL
          rw [List.length_append, List.map_append]
          rw [show [wE ⟨xs, xm⟩].map (fun w => Value.string (wB w)) = [.string wx] by rw [← HWX.out]; rfl]
          exact S12
        case measure => simp [intOf]; omega
      · have ejq : j = qs.length := by omega
        subst ejq
        have HS := Lib.hid S
        have hko := hko
        clear S
        gi_wp2
        obtain ⟨x1, x2, x3⟩ := HX0.out
        have hrl : (runsL l).length = qs.length := by rw [← HQ.out, List.length_map]
        refine ⟨hko.out.from _, ⟨below_between x1 HS.out.bel hko.out.size, hko.out.size, fun g hg => ?_⟩, 1, vo, by rw [← hseq1 b o n hn], ?_⟩
        · simp only [List.mem_cons, List.not_mem_nil, or_false] at hg
          rcases hg with rfl | rfl
          · rw [x2]; exact (HS.out.blk_at (i := 3) rfl).2.2
          · rw [x3]; exact (HS.out.blk_at (i := 4) rfl).2.2
        · rw [wordsC_one l (by have := HL.out; omega)]
          have S9 := HS.out
          rw [← hrl, List.take_length] at S9
          exact S9.sub (List.sublist_append_left _ _)
  case done =>
    intro D xs X hD hS hI hK
    obtain ⟨k, vo, hkx, S⟩ := hI
    have hkn : k = (n + 8) / 9 := by have := congrArg List.length (hkx.symm.trans hS); rwa [seqC_len, seqC_len] at this
    subst hkn
    have hwf := words_few (l := l) (by have := HL.out; omega) (fun i hi => HGE.out i (by have := HL.out; omega)) HD.out
    rw [← wordsC_one l (by have := HL.out; omega), show 1 = (n + 8) / 9 by omega] at hwf
    generalize hws : wordsC l ((n + 8) / 9) = ws at *
    have HWS := Lib.hid hws
    clear hws
    obtain ⟨f1, f2, f3⟩ := hwf
    obtain ⟨Ao, co, rfl, hcap, _, hrd⟩ := (S.row_rd (i := 5) rfl).open_
    obtain ⟨bw, ow, rfl, _, hbw, hcells⟩ := hrd.addr (by omega)
    have c0 := S.blk_cell (i := 2) rfl 0
    have HJ : Hid (Calls Tryz.prog 31 #[.slice (some ⟨bw, ow, none⟩) ws.length co, .string ⟨#[32]⟩] X fun e w' => e = .returned (.string (wB (joinW ws))) ∧ Below X.heap.size X w') := by
      have e1 : (ws.map wB).map (fun x : ByteArray => x.data.toList) = ws := by rw [List.map_map]; exact List.map_id _
      have hj := Tryz.strings_Join bw ow co (ws.map wB) ⟨#[32]⟩ X (fun j x hx => hcells j _ (by
        rw [List.getElem?_map] at hx ⊢
        cases hw : ws[j]? with
        | none => rw [hw] at hx; cases hx
        | some w => rw [hw] at hx; cases hx; rfl)) hbw (by rw [List.length_map]; omega) (by rw [List.length_map]; omega) (by
          rw [e1]
          show (Lib.join ws [32]).length ≤ _
          rw [joinW_join]
          have := joinW_len ws f3
          omega)
      rw [e1, List.length_map] at hj
      refine hj.mono ?_
      rintro e w' ⟨rfl, h⟩
      refine ⟨?_, h⟩
      show Ending.returned (.string (wB (Lib.join ws [32]))) = _
      rw [joinW_join]
    have HK := Lib.hid hK
    have HS := Lib.hid S
    clear S hkx hS hcells hrd hK
    go_wp2_with (go_at_call 31; refine HJ.out.mono ?_; rintro e w4 ⟨rfl, hb4⟩; have HB4 := Lib.hid hb4; clear hb4)
    have hK4 : w4.heap[D]? = some (.deferred (some [])) := (HB4.out.block D (Array.getElem?_eq_some_iff.1 HK.out).1).trans HK.out
    have hbel := ((HS.out.ext HB4.out).nil.turn_c (r := some D) (grownBy_putObj' w4 D (.deferred none)) fun k e => by
      cases e
      exact ⟨by omega, (fun A hA => absurd hA (List.not_mem_nil)), _, hK4, rfl⟩).bel
    rw [HWS.out]
    refine ⟨by simp, .inl ⟨_, _, rfl, run_takeDeferred hK4, ?_⟩⟩
    exact ⟨_, res_print _ _ _ _ rfl rfl, rfl, hbel⟩
end Go.Proofs.YtbakoldmfpbnaaaGreatDoor
