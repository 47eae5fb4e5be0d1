/- Part 21 of the walks of the golf union's program: LN5. -/
import Derived.Test.YtbakoldmfpbnaaaGreatDoorB11
import Derived.Test.YtbakoldmfpbnaaaGreatDoorB20
set_option linter.unusedVariables false
set_option linter.unusedSimpArgs false
set_option linter.unusedSectionVars false
set_option linter.constructorNameAsVariable false
/- Chapter 1: the iterator over the words of a text. -/
namespace Go.Adj
open Go.RowKit Go.Mem
def tAt (ts : List Tok) (i : Nat) : Tok := ts.getD i .bar
theorem tAt_eq {ts : List Tok} {i : Nat} {t : Tok} (h : ts[i]? = some t) : tAt ts i = t := by unfold tAt; simp [List.getD, h]
def esOf (ts : List Tok) (k : Nat) : List EI := (ts.take k).flatMap Tok.es
def barAt (ts : List Tok) : Nat → Bool
  | 0 => false
  | k + 1 => (tAt ts k).isBar
/-- a notation without an error -/
structure Nota (ts : List Tok) : Prop where
  ok : ∀ (k : Nat) (t : Tok), ts[k]? = some t → t.ok (esOf ts k).length (barAt ts k)
  last : barAt ts ts.length = false
  ne : ts ≠ []
  few : ts.length ≤ 100
theorem tok_word {t : Tok} {n : Nat} {b : Bool} (h : t.ok n b) : t.word.contains 32 = false ∧ t.word.length ≤ 6 ∧ 1 ≤ t.word.length := by
  cases t with
  | bar => decide
  | one x =>
    have := one_ok h.1
    simp only [oneOk, Bool.and_eq_true, beq_iff_eq, bne_iff_ne, Bool.not_eq_true', decide_eq_true_eq] at this
    obtain ⟨⟨⟨⟨_, _⟩, h3⟩, h4⟩, h5⟩ := this
    exact ⟨h3, by show (wE x).length ≤ 6; omega, h5⟩
  | rep j x =>
    have := rep_ok h.1 ⟨h.2.1, h.2.2.1⟩
    simp only [repOk, Bool.and_eq_true, beq_iff_eq, bne_iff_ne, Bool.not_eq_true', decide_eq_true_eq] at this
    obtain ⟨⟨⟨⟨_, _⟩, h3⟩, h4⟩, h5⟩ := this
    exact ⟨h3, h4, h5⟩
def textW (ts : List Tok) : List UInt8 := joinW (ts.map Tok.word)
theorem joinW_len : ∀ (l : List (List UInt8)), (∀ w ∈ l, w.length ≤ 6) → (joinW l).length ≤ 7 * l.length
  | [], _ => by simp [joinW]
  | [w], h => by have := h w (by simp); simp [joinW]; omega
  | w :: a :: r, h => by
    have h1 := h w (by simp)
    have ih := joinW_len (a :: r) fun x hx => h x (by simp at hx ⊢; right; exact hx)
    show (w ++ 32 :: joinW (a :: r)).length ≤ _
    simp only [List.length_append, List.length_cons] at ih ⊢
    omega
theorem Nota.mem {ts : List Tok} (h : Nota ts) {w : List UInt8} (hw : w ∈ ts.map Tok.word) : w.contains 32 = false ∧ w.length ≤ 6 ∧ 1 ≤ w.length := by
  obtain ⟨t, ht, rfl⟩ := List.mem_map.1 hw
  obtain ⟨k, hk⟩ := List.mem_iff_getElem?.1 ht
  exact tok_word (h.ok k t hk)
theorem Nota.len {ts : List Tok} (h : Nota ts) : (textW ts).length ≤ 700 := by
  have := joinW_len (ts.map Tok.word) fun w hw => (h.mem hw).2.1
  have h2 := h.few
  rw [List.length_map] at this
  unfold textW
  omega
theorem Nota.pos {ts : List Tok} (h : Nota ts) : 1 ≤ (textW ts).length := by
  have hne := h.ne
  match ts, hne with
  | [t], _ => exact (h.mem (w := t.word) (by simp)).2.2
  | t :: a :: r, _ =>
    show 1 ≤ (t.word ++ 32 :: joinW (a.word :: r.map Tok.word)).length
    simp; omega
theorem Nota.split {ts : List Tok} (h : Nota ts) : Lib.countB (wB (textW ts)) sp + 1 = ts.length ∧ Lib.splitB sp 0 (Lib.countB (wB (textW ts)) sp) (wB (textW ts)) = ts.map fun t => wB t.word := by
  have := split_join (ts.map Tok.word) (by have := h.ne; simpa using this) fun w hw => (h.mem hw).1
  rw [List.length_map, List.map_map] at this
  exact this
def seqT (ts : List Tok) (k : Nat) : List (Nat × Tok) := (List.range k).map fun i => (i, tAt ts i)
theorem seqT_snoc (ts : List Tok) (k : Nat) : seqT ts (k + 1) = seqT ts k ++ [(k, tAt ts k)] := by unfold seqT; rw [List.range_succ, List.map_append]; rfl
theorem seqT_len (ts : List Tok) (k : Nat) : (seqT ts k).length = k := by simp [seqT]
end Go.Adj
namespace Go.Proofs.YtbakoldmfpbnaaaGreatDoor
open Go.RowKit Go.Mem Go.Sheet Go.Adj Go.Shelf Go.MemQ
attribute [local go_sem] Oper.semAt_some
def encT (x : Nat × Tok) : Array Value := #[.int .i64 ((x.1 : Int) + 1), .string (wB x.2.word)]
theorem words_any (w : World) (s : ByteArray) : Calls Tryz.prog 33 #[.string s] w fun e w' => e = .returned (.func (.func 75) #[] #[.pointer (some ⟨w.heap.size, 0, none⟩)]) ∧ w' = w.alloc (.cells #[.string s] 9) := by
  go_enter Tryz.func33, Tryz.ntmps33
  go_wp2
  go_ret
  exact ⟨rfl, rfl⟩
theorem split_any (ts : List Tok) (h : Nota ts) (w : World) (hg : GlobM w) : Calls Tryz.prog 76 #[.string (wB (textW ts)), .string ⟨#[32]⟩] w fun e w' => e = .returned (.slice (some ⟨w.heap.size, 0, none⟩) ts.length ts.length) ∧ w' = w.alloc (.cells (ts.map fun t => Value.string (wB t.word)).toArray 9) := by
  obtain ⟨m, hm⟩ := hg
  refine (Tryz.strings_Split (wB (textW ts)) sp m w (by rw [wB_size]; have := h.len; omega) hm (by decide)).mono ?_
  rintro e w' ⟨rfl, rfl⟩
  rw [h.split.1, h.split.2, List.map_map]
  exact ⟨rfl, rfl⟩
set_option maxRecDepth 100000 in
set_option maxHeartbeats 4000000 in
theorem words1_stops (m : Nat) (hm : 1 ≤ m) (w : World) (Bs n₀ : Nat) (ts : List Tok) (h : Nota ts) (hBs : w.cell? ⟨Bs, 0, none⟩ = some (.string (wB (textW ts)))) (hg : GlobM w) (hn₀ : n₀ ≤ w.heap.size) :
    SeqStopsC False Fence.wide m Tryz.prog 75 #[.pointer (some ⟨Bs, 0, none⟩)] encT (KpL n₀ [w.heap.size + 2])
      (fun xs => xs = seqT ts ts.length) (fun _ => True) (fun l => ∃ k, k ≤ ts.length ∧ l = seqT ts k) w := by
  intro l J Jx V hV hVs hJ hJi hY h0
  have hBs' : Bs < w.heap.size := World.block_lt_of_cell? w _ hBs
  have ca := (hV.cell (p := ⟨Bs, 0, none⟩) hBs').trans hBs
  have HSP := Lib.hid (split_any ts h V (hg.later hV))
  have hnV : n₀ ≤ V.heap.size := by omega
  have hJ0 : J [] (V.alloc (.cells (ts.map fun t => Value.string (wB t.word)).toArray 9)) := hJ _ _ _ none h0 (World.grownBy_alloc _ _ _) (fun r e => by cases e)
  have hO0 : (V.alloc (.cells (ts.map fun t => Value.string (wB t.word)).toArray 9)).heap[V.heap.size]? = some (.cells (ts.map fun t => Value.string (wB t.word)).toArray 9 (0, 0)) := heap_alloc_new V _
  have hb63 := h.few
  rw [← hVs] at hY
  have HVs := Lib.hid hVs
  clear hBs hV hBs' h0 hg hVs
  refine callsIn_of_wp Tryz.func75 rfl trivial ?_ rfl
  simp only [Tryz.ntmps75, List.size_toArray, List.length_cons, List.length_nil, Nat.reduceAdd, Nat.reduceSub, Array.replicate_succ, Array.replicate_zero, List.push_toArray, List.append_toArray, List.nil_append, List.cons_append]
  gi_wp2_with (refine ⟨trivial, ?_⟩; gi_at_call 76; refine (callsIn_wide.2 HSP.out).mono ?_; rintro e w' ⟨rfl, rfl⟩)
  generalize V.alloc (.cells (ts.map fun t => Value.string (wB t.word)).toArray 9) = V1 at *
  generalize V.heap.size = Bw at *
  clear ca HSP
  gi_loopw [8] (fun i wr => ∃ k : Nat, k ≤ ts.length ∧ i = .int .i64 k ∧ J (seqT ts k) wr ∧ wr.heap[Bw]? = some (.cells (ts.map fun t => Value.string (wB t.word)).toArray 9 (0, 0))) (fun i _ => ts.length - (intOf i).toNat)
  case atStart => exact ⟨0, Nat.zero_le _, rfl, hJ0, hO0⟩
  case round =>
    obtain ⟨k, hk, rfl, hJs, hO⟩ := hrel
    clear hJ0 hO0
    have HO := Lib.hid hO
    by_cases hlt : k < ts.length
    · have hw : wr.cell? ⟨Bw, k, none⟩ = some (.string (wB (tAt ts k).word)) := by
        rw [cell_of_row wr Bw k _ _ _ hO]
        simp [tAt, List.getD, hlt]
      have hlt2 : Bw < wr.heap.size := (Array.getElem?_eq_some_iff.1 hO).1
      obtain ⟨fn, tmps, assign, body, hyy, hR⟩ := hY _ (k, tAt ts k) _ hJs hlt2 ⟨k + 1, hlt, (seqT_snoc ts k).symm⟩
      unfold encT at hyy
      dsimp only at hyy
      have HSN := Lib.hid (seqT_snoc ts k)
      clear hO hJs
      generalize tAt ts k = tk at *
      generalize hNL : ts.length = NL at *
      gi_wp2
      refine hR.mono ?_
      rintro e W3 (⟨rfl, hJ4, hk3⟩ | ⟨rfl, hJx4⟩)
      · have HO3 := Lib.hid ((hk3.2.2 Bw (by simp)).trans HO.out)
        gi_wp2
        go_roundw
        case rel => exact ⟨k + 1, by omega, by go_num, by rw [HSN.out]; exact hJ4, HO3.out⟩
        case measure => simp [intOf]; omega
      · gi_wp2
        refine bodyPost_ret (results_none rfl _ _ _) rfl ?_
        exact ⟨⟨_, rfl⟩, .inr ⟨_, trivial, hJx4⟩⟩
    · have hkn : ts.length = k := by omega
      have hkb : decide ((k : Int) < ts.length) = false := by simp; omega
      have HJ := Lib.hid hJs
      clear hO hJs
      have HKN := Lib.hid hkn
      clear hkn
      gi_wp2
      go_end0
      exact ⟨⟨_, rfl⟩, .inl ⟨_, by rw [HKN.out], HJ.out⟩⟩
end Go.Proofs.YtbakoldmfpbnaaaGreatDoor
