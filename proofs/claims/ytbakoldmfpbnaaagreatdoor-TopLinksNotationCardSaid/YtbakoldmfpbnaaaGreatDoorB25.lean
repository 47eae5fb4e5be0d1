/- Part 25 of the walks of the golf union's program: LN6. -/
import Derived.Test.YtbakoldmfpbnaaaGreatDoorB21
import Derived.Test.YtbakoldmfpbnaaaGreatDoorB24
import Derived.Laws.EntriesVeiled
set_option linter.unusedVariables false
set_option linter.unusedSimpArgs false
set_option linter.unusedSectionVars false
set_option linter.constructorNameAsVariable false
/- Chapter 1: Parse. -/
namespace Go.Mem
open Go.RowKit
theorem Sep.perm {L L' : List Asr} (h : L.Perm L') : ∀ {w : World} {F : Nat → Prop}, Sep L w F → Sep L' w F := by
  induction h with
  | nil => intros; trivial
  | cons A _ ih => rintro w F ⟨F1, h1, h2, h3⟩; exact ⟨F1, h1, h2, ih h3⟩
  | swap A B L =>
    rintro w F ⟨F1, h1, h2, F2, g1, g2, g3⟩
    exact ⟨F2, fun b hb => (g1 b hb).1, g2, F1, fun b hb => ⟨h1 b hb, fun h => (g1 b h).2 hb⟩, h2, g3.mono fun b ⟨⟨a, c⟩, d⟩ => ⟨⟨a, d⟩, c⟩⟩
  | trans _ _ ih1 ih2 => intro w F h; exact ih2 (ih1 h)
theorem St.perm {W w : World} {L L' : List Asr} (h : St W w L) (hp : L.Perm L') : St W w L' := ⟨h.1, Sep.perm hp h.2⟩
theorem perm8 {α : Type} (a b c r f l g w : α) : [a, b, c, r, f, l, g, w].Perm [r, w, a, b, c, f, l, g] :=
  (List.perm_append_comm (l₁ := [a, b, c, r, f, l, g]) (l₂ := [w])).trans (((List.perm_middle (l₁ := [a, b, c]) (l₂ := [f, l, g]) (a := r)).cons w).trans (List.Perm.swap r w _))
/-- an assertion on blocks of cells alone -/
def CellsA (A : Asr) : Prop := ∀ (w : World) (F : Nat → Prop) (r : Nat), A.holds w F → (∀ o, w.heap[r]? = some o → o.isCells = false) → A.holds w (fun b => F b ∧ b ≠ r)
theorem cellsA_blk (g : Nat) (t : TypeId) (cs : Array Value) : CellsA (blk g t cs) := fun w F r ⟨h1, h2⟩ hr => ⟨h1, h2, fun e => by subst e; have := hr _ h1; cases this⟩
theorem cellsA_row (e : TypeId) (size : Nat) (v : Value) (n : Nat) (xs : List Value) : CellsA (row e size v n xs) := fun w F r ⟨h1, h2⟩ hr => ⟨h1, fun g hg => ⟨h2 g hg, fun e => by
  subst e
  rcases h1.2 with ⟨rfl, _⟩ | ⟨g', cap, cur, rfl, _, h4, _⟩
  · cases hg
  · cases hg
    have := hr _ h4
    cases this⟩⟩
theorem Sep.avoid {L : List Asr} : ∀ {w : World} {F : Nat → Prop} {r : Nat}, Sep L w F → (∀ A ∈ L, CellsA A) → (∀ o, w.heap[r]? = some o → o.isCells = false) → Sep L w (fun b => F b ∧ b ≠ r) := by
  induction L with
  | nil => intros; trivial
  | cons A L ih =>
    rintro w F r ⟨F1, h1, h2, h3⟩ hL hr
    refine ⟨fun b => F1 b ∧ b ≠ r, fun b hb => ⟨h1 b hb.1, hb.2⟩, hL A (by simp) w F1 r h2 hr, (ih h3 (fun B hB => hL B (by simp [hB])) hr).mono ?_⟩
    rintro b ⟨⟨hb, hn⟩, hne⟩
    exact ⟨⟨hb, hne⟩, fun h => hn h.1⟩
theorem St.turn_other {W X Y : World} {L : List Asr} {r : Option Nat} (h : St W X L) (hL : ∀ A ∈ L, CellsA A) (hg : X.grownBy Y r) (hr : ∀ k, r = some k → W.heap.size ≤ k ∧ ∃ o : Obj, X.heap[k]? = some o ∧ o.isCells = false) : St W Y L := by
  refine ⟨h.1.grown hg h.1.size fun k hk => (hr k hk).1, ?_⟩
  have hs := hg.size
  cases r with
  | none => exact (Sep.loc (w' := Y) h.2 hs fun b hb => hg.block b hb.2 (by simp)).mono fun b hb => ⟨hb.1, by omega⟩
  | some k =>
    obtain ⟨_, o, ho, hc⟩ := hr k rfl
    refine (Sep.loc (w' := Y) (h.2.avoid hL (r := k) fun o' ho' => by rw [ho] at ho'; cases ho'; exact hc) hs fun b hb => hg.block b hb.1.2 fun e => hb.2 (by cases e; rfl)).mono fun b hb => ⟨hb.1.1, by have := hb.1.2; omega⟩
theorem below_between {B : Nat} {W X Y : World} (h1 : Below B W X) (h2 : Below B W Y) (hs : X.heap.size ≤ Y.heap.size) : Below B X Y :=
  ⟨h2.os.trans h1.os.symm, h2.tape.trans h1.tape.symm, h2.output.trans h1.output.symm, hs, fun k hk => (h2.block k hk).trans (h1.block k hk).symm⟩
/-- block r is this object -/
def objA (r : Nat) (o : Obj) : Asr where
  holds w F := w.heap[r]? = some o ∧ F r
  loc := fun ⟨h, hF⟩ _ hk => ⟨(hk r hF).trans h, hF⟩
  mono := fun ⟨h, hF⟩ hh => ⟨h, hh r hF⟩
def AvoidA (r : Nat) (A : Asr) : Prop := ∀ (w : World) (F : Nat → Prop), A.holds w F → A.holds w (fun b => F b ∧ b ≠ r)
theorem avoidA_blk {r g : Nat} (h : g ≠ r) (t : TypeId) (cs : Array Value) : AvoidA r (blk g t cs) := fun _ _ ⟨h1, h2⟩ => ⟨h1, h2, h⟩
theorem avoidA_row {r : Nat} {e : TypeId} {size : Nat} {v : Value} {n : Nat} {xs : List Value} (h : v.ownBlock ≠ some r) : AvoidA r (row e size v n xs) := fun _ _ ⟨h1, h2⟩ => ⟨h1, fun g hg => ⟨h2 g hg, fun e => h (by rw [hg, e])⟩⟩
theorem Sep.avoid2 {r : Nat} {L : List Asr} : ∀ {w : World} {F : Nat → Prop}, Sep L w F → (∀ A ∈ L, AvoidA r A) → Sep L w (fun b => F b ∧ b ≠ r) := by
  induction L with
  | nil => intros; trivial
  | cons A L ih =>
    rintro w F ⟨F1, h1, h2, h3⟩ hL
    refine ⟨fun b => F1 b ∧ b ≠ r, fun b hb => ⟨h1 b hb.1, hb.2⟩, hL A (by simp) w F1 h2, (ih h3 (fun B hB => hL B (by simp [hB]))).mono ?_⟩
    rintro b ⟨⟨hb, hn⟩, hne⟩
    exact ⟨⟨hb, hne⟩, fun h => hn h.1⟩
theorem St.add_obj {W X : World} {L : List Asr} {r : Nat} {o : Obj} (h : St W X L) (hL : ∀ A ∈ L, AvoidA r A) (h1 : W.heap.size ≤ r) (ho : X.heap[r]? = some o) : St W X (L ++ [objA r o]) := by
  have hlt := (Array.getElem?_eq_some_iff.1 ho).1
  refine ⟨h.1, ((h.2.avoid2 hL).append (L' := [objA r o]) (F' := fun b => b = r) ⟨fun b => b = r, fun b hb => hb, ⟨ho, rfl⟩, trivial⟩ fun b hb hb' => hb.2 hb').mono ?_⟩
  rintro b (hb | hb)
  · exact hb.1
  · subst hb; exact ⟨h1, hlt⟩
theorem sep_obj {r : Nat} {o : Obj} : ∀ {L : List Asr} {w : World} {F : Nat → Prop}, Sep (L ++ [objA r o]) w F → F r ∧ w.heap[r]? = some o
  | [], w, F, ⟨F1, h1, h2, _⟩ => ⟨h1 r h2.2, h2.1⟩
  | A :: L, w, F, ⟨F1, h1, h2, h3⟩ => by
    have := sep_obj (L := L) h3
    exact ⟨this.1.1, this.2⟩
/-- the second limb, a row, lies apart from the last, an object -/
theorem St.row_apart {W X : World} {B : Asr} {L : List Asr} {e : TypeId} {size n r : Nat} {v : Value} {xs : List Value} {o : Obj} (h : St W X ((B :: row e size v n xs :: L) ++ [objA r o])) : v.ownBlock ≠ some r ∧ X.heap[r]? = some o := by
  obtain ⟨_, F1, h1, h2, F2, g1, g2, g3⟩ := h
  have := sep_obj (L := L) g3
  exact ⟨fun e => this.1.2 (g2.2 r e), this.2⟩
end Go.Mem
namespace Go.Proofs.YtbakoldmfpbnaaaGreatDoor
open Go.RowKit Go.Mem Go.Sheet Go.Adj Go.Shelf Go.MemQ
attribute [local go_sem] Oper.semAt_some
set_option maxRecDepth 100000 in
theorem frame49p {T : Array Value} {v7 v8 v9 v10 : Value} (h : T.size = 49) (h7 : T.getD 7 undef = v7) (h8 : T.getD 8 undef = v8) (h9 : T.getD 9 undef = v9) (h10 : T.getD 10 undef = v10) : ∃ f : Nat → Value, T = #[f 0, f 1, f 2, f 3, f 4, f 5, f 6, v7, v8, v9, v10, f 11, f 12, f 13, f 14, f 15, f 16, f 17, f 18, f 19, f 20, f 21, f 22, f 23, f 24, f 25, f 26, f 27, f 28, f 29, f 30, f 31, f 32, f 33, f 34, f 35, f 36, f 37, f 38, f 39, f 40, f 41, f 42, f 43, f 44, f 45, f 46, f 47, f 48] := by
  obtain ⟨f, hf⟩ : ∃ f : Nat → Value, f = fun i => T.getD i undef := ⟨_, rfl⟩
  have e : ((List.range 49).map f).toArray = #[f 0, f 1, f 2, f 3, f 4, f 5, f 6, f 7, f 8, f 9, f 10, f 11, f 12, f 13, f 14, f 15, f 16, f 17, f 18, f 19, f 20, f 21, f 22, f 23, f 24, f 25, f 26, f 27, f 28, f 29, f 30, f 31, f 32, f 33, f 34, f 35, f 36, f 37, f 38, f 39, f 40, f 41, f 42, f 43, f 44, f 45, f 46, f 47, f 48] := rfl
  have e2 := arr_litm T 49 h
  rw [← hf, e] at e2
  rw [show T.getD 7 undef = f 7 by rw [hf]] at h7
  rw [show T.getD 8 undef = f 8 by rw [hf]] at h8
  rw [show T.getD 9 undef = f 9 by rw [hf]] at h9
  rw [show T.getD 10 undef = f 10 by rw [hf]] at h10
  refine ⟨f, ?_⟩
  rw [← h7, ← h8, ← h9, ← h10]
  exact e2

theorem first2_new (w : World) (g : Nat) (hg : w.heap.size = g) : Calls Tryz.prog 23 #[.slice (some ⟨g, 0, none⟩) 2 2] (w.alloc (.cells #[.int .i64 0, .int .i64 0] 34)) fun r w' => r = .returned (.int .i64 0) ∧ w.alloc (.cells #[.int .i64 0, .int .i64 0] 34) = w' := by
  subst hg
  exact cardOk2 _ _ (by simp) (by simp) (by simp)
theorem res_parse (tmps : Array Value) (w : World) (g2 g3 g4 : Nat) (a b c : Value) (h2 : tmps.getD 2 undef = .pointer (some ⟨g2, 0, none⟩)) (h3 : tmps.getD 3 undef = .pointer (some ⟨g3, 0, none⟩)) (h4 : tmps.getD 4 undef = .pointer (some ⟨g4, 0, none⟩))
    (c2 : w.cell? ⟨g2, 0, none⟩ = some a) (c3 : w.cell? ⟨g3, 0, none⟩ = some b) (c4 : w.cell? ⟨g4, 0, none⟩ = some c) : (results Tryz.f9 tmps).run Tryz.prog w = .ok (.tuple #[a, b, c]) w := by
  have e2 : tmps[2]?.getD undef = .pointer (some ⟨g2, 0, none⟩) := by simpa using h2
  have e3 : tmps[3]?.getD undef = .pointer (some ⟨g3, 0, none⟩) := by simpa using h3
  have e4 : tmps[4]?.getD undef = .pointer (some ⟨g4, 0, none⟩) := by simpa using h4
  simp [results, Tryz.results9, e2, e3, e4, c2, c3, c4, go_sem]
/-- the reader takes a word that may come -/
theorem take_tok (W w : World) (gr : Nat) (ve : Value) (bar : Bool) (t : Tok) (es : List EI) (L : List Asr) (S : St W w (blk gr 93 #[ve, .bool bar] :: row 54 2 ve es.length (es.flatMap EI.cells) :: L)) (hg : GlobM w) (ht : t.ok es.length bar) :
    Calls Tryz.prog 32 #[.pointer (some ⟨gr, 0, none⟩), .string (wB t.word)] w fun e w' => e = .returned (.int .i64 0) ∧ (∃ ve', St W w' (blk gr 93 #[ve', .bool t.isBar] :: row 54 2 ve' (es ++ t.es).length ((es ++ t.es).flatMap EI.cells) :: L)) ∧ KeepX (fun k => k = gr ∨ ve.ownBlock = some k) w w' := by
  cases t with
  | bar =>
    obtain ⟨h1, h2, rfl⟩ := ht
    obtain ⟨A, c, rfl, _, _, _⟩ := (S.row_rd (i := 1) rfl).open_
    refine (take_bar W w gr es.length c A _ S h1 h2).mono ?_
    rintro e w' ⟨rfl, S', hK⟩
    refine ⟨rfl, ⟨.slice A es.length c, ?_⟩, hK⟩
    rw [show es ++ Tok.es .bar = es from List.append_nil es]
    exact S'
  | one x =>
    refine (take_one W w gr es.length ve bar x es L S hg ht.1 ht.2).mono ?_
    rintro e w' ⟨rfl, ⟨v', S'⟩, hK⟩
    refine ⟨rfl, ⟨v', ?_⟩, hK⟩
    rw [List.length_append]
    exact S'
  | rep j x =>
    refine (take_rep W w gr es.length j ve bar x es L S hg ht.1 ⟨ht.2.1, ht.2.2.1⟩ ht.2.2.2).mono ?_
    rintro e w' ⟨rfl, ⟨v', S'⟩, hK⟩
    refine ⟨rfl, ⟨v', ?_⟩, hK⟩
    rw [List.length_append, show (Tok.es (.rep j x)).length = j from List.length_replicate]
    exact S'
/-- what Parse holds behind k words -/
def parL (gr g2 g3 g4 gf gl gw : Nat) (ts : List Tok) (k : Nat) (ve : Value) : List Asr :=
  [blk gr 93 #[ve, .bool (barAt ts k)], row 54 2 ve (esOf ts k).length ((esOf ts k).flatMap EI.cells), blk g2 29 #[.slice none 0 0], blk g3 3 #[.int .i64 0], blk g4 34 #[.int .i64 0],
    blk gf 94 #[.func (.func 32) #[.pointer (some ⟨gr, 0, none⟩)] #[]], blk gl 3 #[.int .i64 k], blk gw 9 #[.string (wB (textW ts))]]
/-- the frame of a round of Parse -/
def RoundPa (gf gl : Nat) (x : Nat × Tok) (a : Act) : Prop :=
  a.tmps.size = 49 ∧ a.tmps.getD 7 undef = .pointer (some ⟨gf, 0, none⟩) ∧ a.tmps.getD 8 undef = .pointer (some ⟨gl, 0, none⟩) ∧ a.tmps.getD 9 undef = .int .i64 ((x.1 : Int) + 1) ∧ a.tmps.getD 10 undef = .string (wB x.2.word) ∧ a.defers = []
set_option maxRecDepth 100000 in
set_option maxHeartbeats 4000000 in
theorem parse_any (W : World) (ts : List Tok) (h : Nota ts) (hg : GlobM W) :
    Calls Tryz.prog 9 #[.string (wB (textW ts))] W fun e w' => ∃ v', e = .returned (.tuple #[v', .int .i64 0, .int .i64 0]) ∧ St W w' [row 54 2 v' (esOf ts ts.length).length ((esOf ts ts.length).flatMap EI.cells)] := by
  have HN := Lib.hid h
  have HG := Lib.hid hg
  have t1 : decide (4096 < ((wB (textW ts)).size : Int)) = false := by rw [wB_size]; have := h.len; simp; omega
  have t2 : (wB (textW ts)).toList.isEmpty = false := by
    refine bytes_ne0 fun e => ?_
    have := h.pos
    have e2 : (wB (textW ts)).size = 0 := by rw [e]; rfl
    rw [wB_size] at e2
    omega
  have hstop := fun (m : Nat) (hm : 1 ≤ m) (w : World) (Bs n₀ : Nat) => words1_stops m hm w Bs n₀ ts h
  have HST := Lib.hid hstop
  clear h hg hstop
  generalize hsw : wB (textW ts) = sw at *
  have HSW := Lib.hid hsw
  clear hsw
  refine (callsIn_wide (n := 6)).1 (callsIn_of_wp_marks Tryz.func9 rfl trivial (wpIn_wide.2 ?_) rfl)
  simp only [Tryz.ntmps9, List.size_toArray, List.length_cons, List.length_nil, Nat.reduceAdd, Nat.reduceSub, Array.replicate_succ, Array.replicate_zero, List.push_toArray, List.append_toArray, List.nil_append, List.cons_append]
  go_wp2_with (first
    | (go_at_call 24; refine (cardNo _ _).mono ?_; rintro e w' ⟨rfl, rfl⟩)
    | (go_at_call 23; refine (first2_new _ _ (by simp only [World.size_alloc])).mono ?_; rintro e w' ⟨rfl, rfl⟩)
    | (go_at_call 33; refine (words_any _ _).mono ?_; rintro e w3 ⟨rfl, hw3q⟩; have HW3 := Lib.hid hw3q; clear hw3q))
  have hw3 := HW3.out
  clear HW3
  have S1 := (((((((((St.refl W).blk_new #[.slice none 0 0] 29).blk_new #[.int .i64 0] 3).blk_new #[.int .i64 0] 34).alloc (.cells #[.int .i64 0, .int .i64 0] 34)).blk_new #[.slice none 0 0, .bool false] 93).blk_new #[.func (.func 32) #[.pointer (some ⟨W.heap.size + 1 + 1 + 1 + 1, 0, none⟩)] #[]] 94).blk_new #[.int .i64 0] 3).blk_new #[.string sw] 9).row_nil 54 2
  simp only [World.size_alloc, List.cons_append, List.nil_append] at S1 hw3
  rw [← hw3] at S1
  have S2 := S1.perm (perm8 _ _ _ _ _ _ _ _)
  have hsz3 : w3.heap.size = W.heap.size + 1 + 1 + 1 + 1 + 1 + 1 + 1 + 1 := by rw [hw3]; simp only [World.size_alloc]
  clear hw3 S1
  have hbl3 := S2.bel
  have hbw := S2.blk_cell (i := 7) rfl 0
  have hgw := HG.out.later hbl3
  obtain ⟨gr, hgr⟩ : ∃ x, x = W.heap.size + 1 + 1 + 1 + 1 := ⟨_, rfl⟩
  obtain ⟨gf, hgf⟩ : ∃ x, x = W.heap.size + 1 + 1 + 1 + 1 + 1 := ⟨_, rfl⟩
  obtain ⟨gl, hgl⟩ : ∃ x, x = W.heap.size + 1 + 1 + 1 + 1 + 1 + 1 := ⟨_, rfl⟩
  obtain ⟨gw, hgwe⟩ : ∃ x, x = W.heap.size + 1 + 1 + 1 + 1 + 1 + 1 + 1 := ⟨_, rfl⟩
  rw [← hgwe, ← hgl, ← hgf, ← hgr] at S2
  rw [← hgwe] at hbw
  have hI0 : St W w3 (parL gr W.heap.size (W.heap.size + 1) (W.heap.size + 1 + 1) gf gl gw ts 0 (.slice none 0 0)) := by
    unfold parL
    rw [HSW.out]
    exact S2
  have HI0 := Lib.hid hI0
  have HSZ := Lib.hid (show gr < w3.heap.size ∧ gf < w3.heap.size ∧ gl < w3.heap.size ∧ gw < w3.heap.size ∧ W.heap.size + 1 + 1 < w3.heap.size by omega)
  rw [← hgwe, ← hgl, ← hgf, ← hgr]
  clear S2 hI0 hgr hgf hgl hgwe hsz3
  obtain ⟨g2, hg2⟩ : ∃ x, x = W.heap.size := ⟨_, rfl⟩
  obtain ⟨g3, hg3⟩ : ∃ x, x = W.heap.size + 1 := ⟨_, rfl⟩
  obtain ⟨g4, hg4⟩ : ∃ x, x = W.heap.size + 1 + 1 := ⟨_, rfl⟩
  rw [← hg4, ← hg3] at HI0
  rw [← hg4, ← hg3]
  have HG2 := Lib.hid hg2
  refine (wpIn_wide (n := 5)).1 ?_
  refine wpIn_rangeFunc_ownC (F := Fence.wide) (idle := False) (encs := encT) (Kp := KpL W.heap.size [w3.heap.size + 2]) rfl (by decide) (gf := 75) (lb := #[.pointer (some ⟨gw, 0, none⟩)]) rfl trivial (enters Tryz.func75 (by kernel_rfl) rfl)
    (HST.out 4 (by decide) w3 gw W.heap.size hbw hgw hbl3.size) KpL.trans (KpL.put (by have := hbl3.size; omega) (by intro b hb; simp only [List.mem_cons, List.not_mem_nil, or_false] at hb; omega)) (fun _ => rfl)
    (fun (pre : List (Nat × Tok)) X => ∃ (k : Nat) (ve : Value), pre = seqT ts k ∧ ve.ownBlock ≠ some (w3.heap.size + 2) ∧ St W X (parL gr W.heap.size g3 g4 gf gl gw ts k ve))
    (fun _ _ _ => False)
    ?hI (fun h => h.elim) ?hIx ?h0 (fun x a' _ => RoundPa gf gl x a') ?hax ?assign ?body ?done ?stop
  case hI =>
    rintro s X Y row ⟨k, ve, h1, hv, h2⟩ hg hr
    refine ⟨k, ve, h1, hv, h2.turn_other (fun A hA => ?_) hg fun r hr' => ⟨by have := (hr r hr').1; have := hbl3.size; omega, (hr r hr').2⟩⟩
    simp only [parL, List.mem_cons, List.not_mem_nil, or_false] at hA
    rcases hA with rfl | rfl | rfl | rfl | rfl | rfl | rfl | rfl
    all_goals first | exact cellsA_blk _ _ _ | exact cellsA_row _ _ _ _ _
  case hIx => exact fun _ _ _ _ _ h _ _ => h.elim
  case h0 => exact ⟨0, _, rfl, by simp [Value.ownBlock], HI0.out⟩
  case hax => exact fun x a' _ X Y row hs hg hr => hs
  case assign =>
    intro lp pre x X K hX _ hi hK
    unfold encT
    gi_wp2
    exact hK _ _ (KeepsFrom.refl _ _) (KpL.refl _ _ _) hi ⟨rfl, rfl, rfl, rfl, rfl, rfl⟩
  case stop =>
    intro D cc pre X _ _ h _
    exact h.elim
  case body =>
    intro lp pre x a' X hX hi hA5 hN
    obtain ⟨k, ve, rfl, hve, hS⟩ := hi
    obtain ⟨k', hk', hseq⟩ := hN
    have hkk : k' = k + 1 := by have := congrArg List.length hseq; rw [List.length_append, seqT_len, seqT_len] at this; simpa using this.symm
    subst hkk
    rw [seqT_snoc] at hseq
    have hx : x = (k, tAt ts k) := by simpa using (List.append_inj' hseq rfl).2
    subst hx
    obtain ⟨t, ht⟩ : ∃ t, ts[k]? = some t := ⟨ts[k], by simp [show k < ts.length by omega]⟩
    have htok := HN.out.ok k t ht
    have htAt := tAt_eq ht
    have hes : esOf ts (k + 1) = esOf ts k ++ t.es := by unfold esOf; rw [take_at ht, List.flatMap_append]; simp
    have hbar : barAt ts (k + 1) = t.isBar := by show (tAt ts k).isBar = _; rw [htAt]
    obtain ⟨h1, h2, h3, h4, h5, h6⟩ := hA5
    obtain ⟨T, dfs⟩ := a'
    dsimp only at h1 h2 h3 h4 h5 h6
    subst h6
    obtain ⟨f, rfl⟩ := frame49p h1 h2 h3 h4 h5
    rw [htAt]
    clear h1 h2 h3 h4 h5 hseq
    obtain ⟨o, ho⟩ : ∃ o, X.heap[w3.heap.size + 2]? = some o := ⟨_, Array.getElem?_eq_getElem hX⟩
    have hSZ := HSZ.out
    have hS2 := hS.add_obj (r := w3.heap.size + 2) (o := o) (fun A hA => by
      simp only [parL, List.mem_cons, List.not_mem_nil, or_false] at hA
      rcases hA with rfl | rfl | rfl | rfl | rfl | rfl | rfl | rfl
      · exact avoidA_blk (by omega) _ _
      · exact avoidA_row hve
      all_goals exact avoidA_blk (by omega) _ _) (by have := hbl3.size; omega) ho
    have HTK := Lib.hid (take_tok W X gr ve (barAt ts k) t (esOf ts k) _ hS2 (HG.out.later hS.bel) htok)
    have c0 := hS.blk_cell (i := 5) rfl 0
    have hcgr := (hS.blk_at (i := 0) rfl).2.2
    have hvc : ∀ g, ve.ownBlock = some g → ∃ cur, X.heap[g]? = some (.cells cur 54 (0, 0)) := fun g hg => by
      obtain ⟨F, _, ⟨hrow, _⟩⟩ := hS.get (i := 1) rfl
      exact (ownsRow_cells hrow hg).2
    have hne3 : ve.ownBlock ≠ some (w3.heap.size + 2) := hve
    have HKF : Hid (∀ w' u, KeepX (fun k => k = gr ∨ ve.ownBlock = some k) X w' → Below W.heap.size W (w'.setCell ⟨gl, 0, none⟩ u) → KeepsFrom w3.heap.size X (w'.setCell ⟨gl, 0, none⟩ u) ∧ KpL W.heap.size [w3.heap.size + 2] X (w'.setCell ⟨gl, 0, none⟩ u)) := fun w' u hk hbY => by
      have hsz : X.heap.size ≤ (w'.setCell ⟨gl, 0, none⟩ u).heap.size := by simp [World.setCell]; exact hk.1
      refine ⟨⟨hsz, fun q o hq ho hoc => ?_⟩, below_between hS.bel hbY hsz, hsz, fun b hb => ?_⟩
      · have hql : q < X.heap.size := (Array.getElem?_eq_some_iff.1 ho).1
        rw [Below.heap_setCell _ _ _ _ (show q ≠ gl by omega), hk.2 q hql fun e => ?_]
        · exact ho
        · rcases e with e | e
          · omega
          · obtain ⟨cur, hc⟩ := hvc q e
            rw [ho] at hc; cases hc; cases hoc
      · simp only [List.mem_cons, List.not_mem_nil, or_false] at hb
        subst hb
        rw [Below.heap_setCell _ _ _ _ (show w3.heap.size + 2 ≠ gl by omega), hk.2 _ hX fun e => ?_]
        rcases e with e | e
        · omega
        · exact hne3 e
    have HES := Lib.hid hes
    have HBAR := Lib.hid hbar
    have HSQ := Lib.hid (seqT_snoc ts k)
    have HAT := Lib.hid htAt
    have hE := enters Tryz.func32 (by kernel_rfl) rfl
    unfold Enters at hE
    clear hS2 ho hve hS htok ht htAt hes hbar hcgr hvc hne3 hSZ
    gi_wp2_with (refine ⟨trivial, ?_⟩; gi_at_call 32; refine (CallsIn.inRound lp (callsIn_wide.2 HTK.out)).mono ?_; rintro e w5 ⟨rfl, ⟨ve2, S5⟩, hk5⟩; have HK5 := Lib.hid hk5; have HS5 := Lib.hid S5; have l0 := S5.blk_cell (i := 6) rfl 0; have l1 := S5.blk_frozen (i := 6) rfl 0; clear hk5 S5)
    have S6 := HS5.out.blk_set (i := 6) (g := gl) (t := 3) (cs := #[.int .i64 k]) rfl 0 (.int .i64 ((k : Int) + 1))
    have hra := St.row_apart (B := blk gr 93 #[ve2, .bool t.isBar]) (L := [blk W.heap.size 29 #[.slice none 0 0], blk g3 3 #[.int .i64 0], blk g4 34 #[.int .i64 0], blk gf 94 #[.func (.func 32) #[.pointer (some ⟨gr, 0, none⟩)] #[]], blk gl 3 #[.int .i64 ((k : Int) + 1)], blk gw 9 #[.string (wB (textW ts))]]) S6
    have S7 := S6.sub (L' := parL gr W.heap.size g3 g4 gf gl gw ts (k + 1) ve2) (by
      unfold parL
      rw [HES.out, HBAR.out, show (((k + 1 : Nat) : Int)) = (k : Int) + 1 by omega]
      exact List.sublist_append_left [_, _, _, _, _, _, _, _] [_])
    obtain ⟨q1, q2⟩ := HKF.out _ (.int .i64 ((k : Int) + 1)) HK5.out S6.bel
    refine ⟨q1, q2, k + 1, ve2, ?_, hra.1, S7⟩
    rw [HSQ.out, HAT.out]
  case done =>
    intro D xs X hD hS hI hK
    obtain ⟨k, ve, hkx, _, S⟩ := hI
    have hkn : k = ts.length := by have := congrArg List.length (hkx.symm.trans hS); rwa [seqT_len, seqT_len] at this
    subst hkn
    subst hg3
    subst hg4
    obtain ⟨A, c, rfl, _, _, _⟩ := (S.row_rd (i := 1) rfl).open_
    unfold parL at S
    rw [HN.out.last] at S
    have r0 := S.blk_cell (i := 0) rfl 0
    have r1 := S.blk_cell (i := 0) rfl 1
    have a0 := S.blk_cell (i := 2) rfl 0
    have a1 := S.blk_frozen (i := 2) rfl 0
    have b0 := S.blk_cell (i := 3) rfl 0
    have b1 := S.blk_frozen (i := 3) rfl 0
    have e0 := S.blk_cell (i := 4) rfl 0
    have e1 := S.blk_frozen (i := 4) rfl 0
    have HS := Lib.hid S
    clear S hkx hS
    have hsz := hbl3.size
    have hD' := hD
    have hSZ := HSZ.out
    have SF := ((((HS.out.blk_set (i := 2) rfl 0 (.slice A (esOf ts ts.length).length c)).blk_set (i := 3) rfl 0 (.int .i64 0)).blk_set (i := 4) rfl 0 (.int .i64 0)).turn_other (r := some D) (fun A' hA => by
      simp only [List.mem_cons, List.not_mem_nil, or_false, List.set_cons_zero, List.set_cons_succ] at hA
      rcases hA with rfl | rfl | rfl | rfl | rfl | rfl | rfl | rfl
      all_goals first | exact cellsA_blk _ _ _ | exact cellsA_row _ _ _ _ _) (grownBy_putObj' _ D (.deferred none)) fun k e => by
        cases e
        exact ⟨by omega, _, (((KeepsOthers.setCell _ _ _).trans (KeepsOthers.setCell _ _ _)).trans (KeepsOthers.setCell _ _ _)).same D _ hK rfl, rfl⟩)
    have f2 := SF.blk_cell (i := 2) rfl 0
    have f3 := SF.blk_cell (i := 3) rfl 0
    have f4 := SF.blk_cell (i := 4) rfl 0
    have HSF := Lib.hid (SF.sub (L' := [row 54 2 (.slice A (esOf ts ts.length).length c) (esOf ts ts.length).length ((esOf ts ts.length).flatMap EI.cells)]) (.cons _ (.cons_cons _ (List.nil_sublist _))))
    have HF2 := Lib.hid f2
    have HF3 := Lib.hid f3
    have HF4 := Lib.hid f4
    have HK := Lib.hid ((((KeepsOthers.setCell X ⟨W.heap.size, 0, none⟩ (.slice A (esOf ts ts.length).length c)).trans (KeepsOthers.setCell _ ⟨W.heap.size + 1, 0, none⟩ (.int .i64 0))).trans (KeepsOthers.setCell _ ⟨W.heap.size + 1 + 1, 0, none⟩ (.int .i64 0))).same D _ hK rfl)
    clear SF f2 f3 f4 hsz hD' hSZ
    go_wp2
    refine ⟨by simp, .inl ⟨_, _, rfl, run_takeDeferred HK.out, ?_⟩⟩
    exact ⟨_, res_parse _ _ _ _ _ _ _ _ rfl rfl rfl HF2.out HF3.out HF4.out, _, rfl, HSF.out⟩
end Go.Proofs.YtbakoldmfpbnaaaGreatDoor
