/- Chapter 1: the notation of any card: the plain law. -/
import Derived.Test.YtbakoldmfpbnaaaGreatDoorT1
import Derived.Test.YtbakoldmfpbnaaaGreatDoorB12
import Derived.Test.YtbakoldmfpbnaaaGreatDoorB25
set_option linter.unusedVariables false
set_option linter.unusedSimpArgs false
set_option linter.unusedSectionVars false
set_option linter.constructorNameAsVariable false
namespace Go.Adj
open Go.RowKit Go.Mem
def toksR (q : Nat × EI) : List Tok := if 2 < q.1 then [.rep q.1 q.2] else List.replicate q.1 (.one q.2)
def toksC (l : List EI) : Nat → List Tok
  | 0 => []
  | k + 1 => (if (toksC l k).length = 0 then toksC l k else toksC l k ++ [.bar]) ++ (runsL ((l.drop (9 * k)).take 9)).flatMap toksR
theorem toksR_word (q : Nat × EI) : (toksR q).map Tok.word = wordsR q := by
  unfold toksR wordsR
  split
  · rfl
  · rw [List.map_replicate]; rfl
theorem toksRs_word (rs : List (Nat × EI)) : (rs.flatMap toksR).map Tok.word = rs.flatMap wordsR := by
  rw [List.map_flatMap]
  congr 1
  funext q
  exact toksR_word q
theorem toksC_word (l : List EI) : ∀ k, (toksC l k).map Tok.word = wordsC l k
  | 0 => rfl
  | k + 1 => by
    have ih := toksC_word l k
    have hl : (wordsC l k).length = (toksC l k).length := by rw [← ih, List.length_map]
    unfold toksC wordsC
    rw [List.map_append, toksRs_word, hl]
    congr 1
    split
    · exact ih
    · rw [List.map_append, ih]; rfl
theorem toksR_es (q : Nat × EI) : (toksR q).flatMap Tok.es = List.replicate q.1 q.2 := by
  unfold toksR
  split
  · simp [Tok.es]
  · obtain ⟨n, x⟩ := q
    dsimp only
    induction n with
    | zero => rfl
    | succ n ih =>
      rename_i h
      rw [List.replicate_succ, List.flatMap_cons, ih (by dsimp only at h ⊢; omega), List.replicate_succ]
      rfl
theorem toksRs_es (rs : List (Nat × EI)) : (rs.flatMap toksR).flatMap Tok.es = expR rs := by
  unfold expR
  rw [List.flatMap_assoc]
  congr 1
  funext q
  exact toksR_es q
theorem toksC_es (l : List EI) : ∀ k, (toksC l k).flatMap Tok.es = l.take (9 * k)
  | 0 => rfl
  | k + 1 => by
    have ih := toksC_es l k
    unfold toksC
    rw [List.flatMap_append, toksRs_es, runsL_exp]
    have e : (if (toksC l k).length = 0 then toksC l k else toksC l k ++ [Tok.bar]).flatMap Tok.es = l.take (9 * k) := by
      split
      · exact ih
      · rw [List.flatMap_append, ih]; simp [Tok.es]
    rw [e, show 9 * (k + 1) = 9 * k + 9 by omega, List.take_add]
/-- each word may stand behind so many entries -/
def okL : Nat → Bool → List Tok → Prop
  | _, _, [] => True
  | n, b, t :: ts => t.ok n b ∧ okL (n + t.es.length) t.isBar ts
def lastB : Bool → List Tok → Bool
  | b, [] => b
  | _, t :: ts => lastB t.isBar ts
theorem okL_append : ∀ (ts us : List Tok) (n : Nat) (b : Bool), okL n b (ts ++ us) ↔ okL n b ts ∧ okL (n + (ts.flatMap Tok.es).length) (lastB b ts) us
  | [], us, n, b => by simp [okL, lastB]
  | t :: ts, us, n, b => by
    rw [List.cons_append, okL, okL, okL_append ts us, List.flatMap_cons, List.length_append, and_assoc, lastB, Nat.add_assoc]
theorem lastB_append : ∀ (ts us : List Tok) (b : Bool), lastB b (ts ++ us) = lastB (lastB b ts) us
  | [], us, b => rfl
  | t :: ts, us, b => by rw [List.cons_append, lastB, lastB_append ts us, lastB]
theorem okL_at : ∀ {ts : List Tok} {n : Nat} {b : Bool}, okL n b ts → ∀ (k : Nat) (t : Tok), ts[k]? = some t → t.ok (n + (esOf ts k).length) (if k = 0 then b else barAt ts k)
  | [], _, _, _, k, t, h => by simp at h
  | t0 :: ts, n, b, h, 0, t, ht => by
    cases ht
    simpa [esOf] using h.1
  | t0 :: ts, n, b, h, k + 1, t, ht => by
    have h1 := okL_at h.2 k t (by simpa using ht)
    have e1 : (esOf (t0 :: ts) (k + 1)).length = t0.es.length + (esOf ts k).length := by unfold esOf; rw [List.take_succ_cons, List.flatMap_cons, List.length_append]
    have e2 : barAt (t0 :: ts) (k + 1) = if k = 0 then t0.isBar else barAt ts k := by
      cases k with
      | zero => rfl
      | succ j => rfl
    rw [e1, if_neg (by omega), e2, ← Nat.add_assoc]
    exact h1
theorem lastB_bar : ∀ (ts : List Tok) (b : Bool), (if ts.length = 0 then b else barAt ts ts.length) = lastB b ts
  | [], _ => rfl
  | t :: ts, b => by
    rw [lastB, ← lastB_bar ts t.isBar]
    cases ts with
    | nil => rfl
    | cons u us => rfl
theorem toksR_pos {q : Nat × EI} (h : 1 ≤ q.1) : toksR q ≠ [] := by
  unfold toksR
  split
  · simp
  · obtain ⟨n, x⟩ := q
    cases n with
    | zero => dsimp only at h; omega
    | succ n => simp [List.replicate_succ]
theorem toksR_bar {q : Nat × EI} : ∀ t ∈ toksR q, t.isBar = false := by
  intro t ht
  unfold toksR at ht
  split at ht
  · rw [List.mem_singleton] at ht; subst ht; rfl
  · rw [(List.mem_replicate.1 ht).2]; rfl
theorem lastB_no : ∀ (ts : List Tok) (b : Bool), (∀ t ∈ ts, t.isBar = false) → ts ≠ [] → lastB b ts = false
  | [], _, _, h => absurd rfl h
  | t :: ts, b, h, _ => by
    rw [lastB]
    cases ts with
    | nil => exact h t (by simp)
    | cons u us => exact lastB_no (u :: us) _ (fun v hv => h v (by simp [hv])) (by simp)
theorem okL_rep (x : EI) (hx : GoodE x) : ∀ (j n : Nat) (b : Bool), n + j ≤ 36 → okL n b (List.replicate j (.one x))
  | 0, _, _, _ => trivial
  | j + 1, n, b, h => by
    rw [List.replicate_succ]
    exact ⟨⟨hx, by omega⟩, okL_rep x hx j _ _ (by show n + 1 + j ≤ 36; omega)⟩
theorem okL_run {q : Nat × EI} (hq : q.1 ≤ 9) (hx : GoodE q.2) {n : Nat} {b : Bool} (h : n + q.1 ≤ 36) : okL n b (toksR q) := by
  unfold toksR
  split
  · exact ⟨⟨hx, by omega, hq, h⟩, trivial⟩
  · exact okL_rep q.2 hx q.1 n b h
theorem okL_runs : ∀ (rs : List (Nat × EI)) (n : Nat) (b : Bool), (∀ q ∈ rs, q.1 ≤ 9 ∧ GoodE q.2) → n + (expR rs).length ≤ 36 → okL n b (rs.flatMap toksR)
  | [], _, _, _, _ => trivial
  | q :: rs, n, b, h, hn => by
    have e : expR (q :: rs) = List.replicate q.1 q.2 ++ expR rs := rfl
    rw [e, List.length_append, List.length_replicate] at hn
    rw [List.flatMap_cons, okL_append]
    refine ⟨okL_run (h q (by simp)).1 (h q (by simp)).2 (by omega), okL_runs rs _ _ (fun r hr => h r (by simp [hr])) ?_⟩
    rw [toksR_es, List.length_replicate]
    omega
/-- what the runs of good entries are -/
theorem runs_pos (l : List EI) : ∀ q ∈ runsL l, 1 ≤ q.1 ∧ q.2 ∈ l := by
  have key : ∀ (l : List EI) (out : List (Nat × EI)) (P : EI → Prop), (∀ q ∈ out, 1 ≤ q.1 ∧ P q.2) → (∀ x ∈ l, P x) → ∀ q ∈ l.foldl pushR out, 1 ≤ q.1 ∧ P q.2 := by
    intro l
    induction l with
    | nil => intro out P h _; exact h
    | cons x l ih =>
      intro out P h hl
      rw [List.foldl_cons]
      refine ih _ P (fun q hq => ?_) (fun y hy => hl y (by simp [hy]))
      have hx := hl x (by simp)
      unfold pushR at hq
      split at hq
      · split at hq
        · rcases List.mem_append.1 hq with hq | hq
          · exact h q (List.dropLast_subset _ hq)
          · rw [List.mem_singleton.1 hq]; exact ⟨by simp, hx⟩
        · rcases List.mem_append.1 hq with hq | hq
          · exact h q hq
          · rw [List.mem_singleton.1 hq]; exact ⟨by simp, hx⟩
      · rw [List.mem_singleton.1 hq]; exact ⟨by simp, hx⟩
  exact key l [] (· ∈ l) (by simp) (fun x hx => hx)
theorem runs_ne {l : List EI} (h : l ≠ []) : runsL l ≠ [] := fun e => h (by rw [← runsL_exp l, e]; rfl)
theorem part_runs {l : List EI} (hg : ∀ x ∈ l, GoodE x) (k : Nat) : ∀ q ∈ runsL ((l.drop (9 * k)).take 9), 1 ≤ q.1 ∧ q.1 ≤ 9 ∧ GoodE q.2 := fun q hq => by
  have h1 := runs_pos _ q hq
  have h2 := runsL_cnt hq
  rw [List.length_take] at h2
  exact ⟨h1.1, by omega, hg _ (List.mem_of_mem_drop (List.mem_of_mem_take h1.2))⟩
theorem toksC_ok {l : List EI} (hl : l.length ≤ 36) (hg : ∀ x ∈ l, GoodE x) : ∀ k, 9 * k < l.length + 9 → okL 0 false (toksC l k) ∧ lastB false (toksC l k) = false ∧ ((toksC l k).length = 0 ↔ k = 0)
  | 0, _ => ⟨trivial, rfl, by simp [toksC]⟩
  | k + 1, hk => by
    obtain ⟨h1, h2, h3⟩ := toksC_ok hl hg k (by omega)
    have hpr := part_runs hg k
    have hne : (l.drop (9 * k)).take 9 ≠ [] := fun e => by
      have := congrArg List.length e
      rw [List.length_take, List.length_drop] at this
      simp at this
      omega
    have hrn := runs_ne hne
    have hlen : (l.take (9 * k)).length = 9 * k := by rw [List.length_take]; omega
    have hpos : (runsL ((l.drop (9 * k)).take 9)).flatMap toksR ≠ [] := by
      cases hr : runsL ((l.drop (9 * k)).take 9) with
      | nil => exact absurd hr hrn
      | cons q rs =>
        rw [List.flatMap_cons]
        intro e
        exact toksR_pos (hpr q (by rw [hr]; simp)).1 (List.append_eq_nil_iff.1 e).1
    have hnb : ∀ t ∈ (runsL ((l.drop (9 * k)).take 9)).flatMap toksR, t.isBar = false := fun t ht => by
      obtain ⟨q, _, hq⟩ := List.mem_flatMap.1 ht
      exact toksR_bar t hq
    have hexp : ∀ b n, n = 9 * k → okL n b ((runsL ((l.drop (9 * k)).take 9)).flatMap toksR) := fun b n hn => okL_runs _ _ _ (fun q hq => (hpr q hq).2) (by rw [runsL_exp, List.length_take, List.length_drop]; omega)
    have hes := toksC_es l k
    unfold toksC
    refine ⟨?_, ?_, ?_⟩
    · rw [okL_append]
      split
      · refine ⟨h1, hexp _ _ ?_⟩
        rw [hes, hlen]; omega
      · rename_i h0
        have hk0 : k ≠ 0 := fun e => h0 (h3.2 e)
        refine ⟨?_, hexp _ _ ?_⟩
        · rw [okL_append]
          refine ⟨h1, ⟨?_, trivial⟩⟩
          rw [hes, hlen, h2]
          exact ⟨by omega, by omega, rfl⟩
        · rw [List.flatMap_append, List.length_append, hes, hlen]; simp [Tok.es]
    · rw [lastB_append]
      exact lastB_no _ _ hnb hpos
    · rw [List.length_append]
      have : 0 < ((runsL ((l.drop (9 * k)).take 9)).flatMap toksR).length := List.length_pos_iff.2 hpos
      omega
theorem toksR_len (q : Nat × EI) : (toksR q).length ≤ q.1 := by
  unfold toksR
  split
  · simp only [List.length_singleton]; omega
  · rw [List.length_replicate]; exact Nat.le_refl _
theorem toksRs_len : ∀ rs : List (Nat × EI), (rs.flatMap toksR).length ≤ (expR rs).length
  | [] => Nat.le_refl _
  | q :: rs => by
    have h1 := toksR_len q
    have h2 := toksRs_len rs
    have e : expR (q :: rs) = List.replicate q.1 q.2 ++ expR rs := rfl
    rw [e, List.flatMap_cons, List.length_append, List.length_append, List.length_replicate]
    omega
theorem toksC_len (l : List EI) : ∀ k, (toksC l k).length ≤ 10 * k
  | 0 => Nat.le_refl _
  | k + 1 => by
    have ih := toksC_len l k
    have h2 := toksRs_len (runsL ((l.drop (9 * k)).take 9))
    rw [runsL_exp, List.length_take] at h2
    unfold toksC
    rw [List.length_append]
    split
    · omega
    · rw [List.length_append, List.length_singleton]; omega
/-- the notation of a card is one without an error, and has its entries -/
theorem toksC_nota {l : List EI} (hl : 1 ≤ l.length ∧ l.length ≤ 36) (hg : ∀ x ∈ l, GoodE x) : Nota (toksC l ((l.length + 8) / 9)) ∧ esOf (toksC l ((l.length + 8) / 9)) (toksC l ((l.length + 8) / 9)).length = l := by
  obtain ⟨h1, h2, h3⟩ := toksC_ok hl.2 hg ((l.length + 8) / 9) (by omega)
  have h4 := toksC_len l ((l.length + 8) / 9)
  have h5 := toksC_es l ((l.length + 8) / 9)
  have hb := lastB_bar (toksC l ((l.length + 8) / 9)) false
  refine ⟨⟨fun k t ht => ?_, ?_, fun e => ?_, by omega⟩, ?_⟩
  · have := okL_at h1 k t ht
    rw [Nat.zero_add] at this
    cases k with
    | zero => exact this
    | succ k => exact this
  · rw [h2] at hb
    split at hb
    · rename_i h0
      have := h3.1 h0
      omega
    · exact hb
  · have := h3.1 (by rw [e]; rfl)
    omega
  · unfold esOf
    rw [List.take_length, h5, List.take_of_length_le (by omega)]
end Go.Adj
