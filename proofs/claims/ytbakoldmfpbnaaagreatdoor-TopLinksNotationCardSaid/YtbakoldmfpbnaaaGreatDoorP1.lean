/- TopLinksPartners: the plain law: the better of two, the aggregate, ranks by count-back. -/
import Derived.Test.YtbakoldmfpbnaaaGreatDoorB14
set_option linter.unusedVariables false
set_option linter.unusedSimpArgs false
set_option linter.unusedSectionVars false
set_option linter.constructorNameAsVariable false
namespace Go.Proofs.YtbakoldmfpbnaaaGreatDoor
open Go.RowKit Go.Mem Go.Sheet Go.Adj
/-- the better of two partners on a hole -/
def bestN (a b : NI) : NI := if isO a.x then (if isO b.x then (if b.s < a.s then b else a) else a) else if isO b.x then b else if isD a.x && isD b.x then ⟨0, .d⟩ else ⟨0, .x⟩
/-- what two partners have together on a hole -/
def aggN (a b : NI) : NI := if isO a.x && isO b.x then ⟨a.s + b.s, .o⟩ else if isD a.x || isD b.x then ⟨0, .d⟩ else ⟨0, .x⟩
theorem cmpI_mono {a a' c : Int} (h : a' ≤ a) : cmpI c a ≤ cmpI c a' := by unfold cmpI; (repeat' split) <;> omega
theorem cmp_best (a b c : NI) : cmpN a c ≤ cmpN (bestN a b) c := by
  obtain ⟨sa, ax⟩ := a
  obtain ⟨sb, bx⟩ := b
  obtain ⟨sc, cx⟩ := c
  have hm : ∀ {s : Int}, s ≤ sa → cmpI sc sa ≤ cmpI sc s := fun h => cmpI_mono h
  have h1 := cmpI_bd sc sa
  have h2 := cmpI_bd sc sb
  unfold bestN cmpN
  cases ax <;> cases bx <;> cases cx <;> simp only [isO, isD, Bool.and_self, Bool.and_true, Bool.and_false, Bool.false_eq_true, if_true, if_false] <;> first
    | omega
    | (by_cases e : sb < sa
       · simp only [e, if_true]
         first
           | exact hm (by omega)
           | exact Int.le_refl _
           | omega
       · simp only [e, if_false, if_true]
         first
           | exact Int.le_refl _
           | exact hm (by omega)
           | omega)
theorem agg_best {a b : NI} (h : (aggN a b).x = .o) : (bestN a b).x = .o ∧ 2 * (bestN a b).s ≤ (aggN a b).s := by
  obtain ⟨sa, ax⟩ := a
  obtain ⟨sb, bx⟩ := b
  unfold aggN at h ⊢
  unfold bestN
  cases ax <;> cases bx <;> simp [isO, isD] at h ⊢
  by_cases e : sb < sa
  · rw [if_pos e]; exact ⟨rfl, by show 2 * sb ≤ sa + sb; omega⟩
  · rw [if_neg e]; exact ⟨rfl, by show 2 * sa ≤ sa + sb; omega⟩
theorem sumTo_mono {f g : Nat → Int} : ∀ {n : Nat}, (∀ i, i < n → f i ≤ g i) → sumTo f n ≤ sumTo g n
  | 0, _ => Int.le_refl _
  | n + 1, h => by
    have h1 := sumTo_mono (n := n) fun i hi => h i (by omega)
    have h2 := h n (by omega)
    show sumTo f n + f n ≤ sumTo g n + g n
    omega
/-- the side of two is at least as many up -/
theorem up_best (A B C : Nat → NI) (k : Nat) : upF A C k ≤ upF (fun i => bestN (A i) (B i)) C k := sumTo_mono fun _ _ => cmp_best _ _ _
/-- the number of those that come before -/
def before {α : Type} (lt : α → α → Bool) (l : List α) (a : α) : Nat := (l.filter fun b => lt b a).length
theorem before_lt {α : Type} {lt : α → α → Bool} {l : List α} {a b : α} (hb : b ∈ l) (hba : lt b a = true) (hbb : lt b b = false) (ht : ∀ c, lt c b = true → lt c a = true) : before lt l b < before lt l a := by
  unfold before
  induction l with
  | nil => cases hb
  | cons x l ih =>
    have hle : ∀ l : List α, (l.filter fun c => lt c b).length ≤ (l.filter fun c => lt c a).length := by
      intro l
      induction l with
      | nil => exact Nat.le_refl _
      | cons y l ih2 =>
        rw [List.filter_cons, List.filter_cons]
        cases h1 : lt y b with
        | true => rw [if_pos rfl, if_pos (ht y h1)]; simp only [List.length_cons]; omega
        | false =>
          rw [if_neg (by simp)]
          split
          · simp only [List.length_cons]; omega
          · exact ih2
    rw [List.filter_cons, List.filter_cons]
    rcases List.mem_cons.1 hb with e | e
    · subst e
      rw [hbb, hba, if_neg (by simp), if_pos rfl, List.length_cons]
      have := hle l
      omega
    · have h2 := ih e
      cases h1 : lt x b with
      | true => rw [if_pos rfl, if_pos (ht x h1)]; simp only [List.length_cons]; omega
      | false =>
        rw [if_neg (by simp)]
        split
        · simp only [List.length_cons]; omega
        · exact h2
/-- first by the sum, then by anything -/
structure ByKey {α : Type} (key : α → Int) (lt : α → α → Bool) : Prop where
  less : ∀ a b, key a < key b → lt a b = true
  more : ∀ a b, lt a b = true → key a ≤ key b
  self : ∀ a, lt a a = false
  trans : ∀ a b c, lt a b = true → lt b c = true → lt a c = true
/-- who has no greater rank has no greater sum -/
theorem rank_key {α : Type} {key : α → Int} {lt : α → α → Bool} (h : ByKey key lt) {l : List α} {a b : α} (hb : b ∈ l) (hr : before lt l a ≤ before lt l b) : key a ≤ key b := by
  rcases Int.lt_or_le (key b) (key a) with hl | hl
  · have h1 := h.less b a hl
    have := before_lt hb h1 (h.self b) fun c hc => h.trans c b a hc h1
    omega
  · exact hl
/-- by the keys, one after another -/
def lexLt {α : Type} : List (α → Int) → α → α → Bool
  | [], _, _ => false
  | k :: ks, a, b => if k a < k b then true else if k b < k a then false else lexLt ks a b
theorem lexLt_self {α : Type} : ∀ (ks : List (α → Int)) (a : α), lexLt ks a a = false
  | [], _ => rfl
  | k :: ks, a => by rw [lexLt, if_neg (by omega), if_neg (by omega), lexLt_self ks a]
theorem lexLt_trans {α : Type} : ∀ (ks : List (α → Int)) (a b c : α), lexLt ks a b = true → lexLt ks b c = true → lexLt ks a c = true
  | [], _, _, _, h, _ => by cases h
  | k :: ks, a, b, c, h1, h2 => by
    unfold lexLt at h1 h2 ⊢
    by_cases e1 : k a < k b
    · by_cases e2 : k b < k c
      · rw [if_pos (by omega)]
      · rw [if_neg e2] at h2
        by_cases e3 : k c < k b
        · rw [if_pos e3] at h2; cases h2
        · rw [if_pos (by omega)]
    · rw [if_neg e1] at h1
      by_cases e4 : k b < k a
      · rw [if_pos e4] at h1; cases h1
      · rw [if_neg e4] at h1
        by_cases e2 : k b < k c
        · rw [if_pos (by omega)]
        · rw [if_neg e2] at h2
          by_cases e3 : k c < k b
          · rw [if_pos e3] at h2; cases h2
          · rw [if_neg e3] at h2
            rw [if_neg (by omega), if_neg (by omega)]
            exact lexLt_trans ks a b c h1 h2
theorem lex_byKey {α : Type} (k : α → Int) (ks : List (α → Int)) : ByKey k (lexLt (k :: ks)) where
  less a b h := by rw [lexLt, if_pos h]
  more a b h := by
    unfold lexLt at h
    by_cases e : k a < k b
    · omega
    · rw [if_neg e] at h
      by_cases e2 : k b < k a
      · rw [if_pos e2] at h; cases h
      · omega
  self := lexLt_self _
  trans := lexLt_trans _
end Go.Proofs.YtbakoldmfpbnaaaGreatDoor
/- Chapter 5: count-back: the plain law, and lists read from a place on. -/
namespace Go.Mem
open Go.RowKit
theorem Rd.tail {w : World} {S : Nat → Prop} {b o m c n f : Nat} {xs ys : List Value} (h : Rd w S 1 (.slice (some ⟨b, o, none⟩) m c) n xs) (hf : f < n) (hy : ys = xs.drop f) : Rd w S 1 (.slice (some ⟨b, o + f, none⟩) (n - f) (c - f)) (n - f) ys := by
  obtain ⟨A', c', hv, h1, h2, h3, h4, h5⟩ := h
  injection hv with e1 e2 e3
  subst e1 e2 e3 hy
  obtain ⟨b', o', e, hS, hb, hc⟩ := h5 (by omega)
  cases e
  refine ⟨_, _, rfl, by omega, by omega, by rw [List.length_drop]; omega, (fun e => by cases e), fun _ => ⟨_, _, rfl, hS, hb, fun j u hu => ?_⟩⟩
  rw [List.getElem?_drop] at hu
  have := hc _ _ hu
  rwa [← Nat.add_assoc] at this
end Go.Mem
namespace Go.Proofs.YtbakoldmfpbnaaaGreatDoor
open Go.RowKit Go.Mem Go.Sheet Go.Adj
theorem gl_drop (F : Nat → Int) (n f : Nat) : (gl F n).drop f = gl (fun k => F (f + k)) (n - f) := by
  apply List.ext_getElem?
  intro i
  rw [List.getElem?_drop]
  by_cases h : f + i < n
  · rw [gl_at F h, gl_at (fun k => F (f + k)) (by omega)]
  · rw [List.getElem?_eq_none (by rw [gl_len]; omega), List.getElem?_eq_none (by rw [gl_len]; omega)]
/-- the sum of the last c holes, if there are so many -/
def keyF (n c : Nat) (F : Nat → Int) : Int := if c ≤ n then sumTo (fun k => F (n - c + k)) c else 0
theorem keyF_yes {n c : Nat} (h : c ≤ n) (F : Nat → Int) : keyF n c F = sumTo (fun k => F (n - c + k)) (n - (n - c)) := by
  unfold keyF
  rw [if_pos h, show n - (n - c) = c by omega]
theorem keyF_no {n c : Nat} (h : ¬ c ≤ n) (F : Nat → Int) : keyF n c F = 0 := if_neg h
theorem keyF_all (n : Nat) (F : Nat → Int) : keyF n n F = sumTo F n := by
  unfold keyF
  rw [if_pos (Nat.le_refl _), Nat.sub_self]
  exact sumTo_congr fun i _ => by rw [Nat.zero_add]
/-- the answer of count-back over counts of holes -/
def cbL (n : Nat) (F G : Nat → Int) : List Nat → Int
  | [] => 0
  | c :: cs => if cmpI (keyF n c F) (keyF n c G) = 0 then cbL n F G cs else cmpI (keyF n c F) (keyF n c G)
theorem cbL_lex (n : Nat) (F G : Nat → Int) : ∀ cs : List Nat, decide (cbL n F G cs < 0) = lexLt (cs.map (keyF n)) F G
  | [] => rfl
  | c :: cs => by
    have ih := cbL_lex n F G cs
    rw [cbL, List.map_cons, lexLt]
    unfold cmpI
    by_cases h1 : keyF n c F < keyF n c G
    · rw [if_pos h1, if_pos h1, if_neg (by decide)]; rfl
    · rw [if_neg h1, if_neg h1]
      by_cases h2 : keyF n c G < keyF n c F
      · rw [if_pos h2, if_pos h2, if_neg (by decide)]; rfl
      · rw [if_neg h2, if_neg h2, if_pos rfl]; exact ih
def cbF (n : Nat) (F G : Nat → Int) : Int := cbL n F G [n, 9, 6, 3, 1]
def cbLt (n : Nat) : (Nat → Int) → (Nat → Int) → Bool := lexLt ([n, 9, 6, 3, 1].map (keyF n))
theorem cbF_lt (n : Nat) (F G : Nat → Int) : decide (cbF n F G < 0) = cbLt n F G := cbL_lex n F G _
/-- the rank of one of several lists -/
def rankF (n : Nat) (ls : List (Nat → Int)) (F : Nat → Int) : Nat := 1 + before (cbLt n) ls F
theorem rank_sum {n : Nat} {ls : List (Nat → Int)} {F G : Nat → Int} (hG : G ∈ ls) (hr : rankF n ls F ≤ rankF n ls G) : sumTo F n ≤ sumTo G n := by
  have h := rank_key (lex_byKey (keyF n n) ([9, 6, 3, 1].map (keyF n))) (l := ls) (a := F) (b := G) hG (by unfold rankF at hr; exact Nat.le_of_add_le_add_left hr)
  rwa [keyF_all, keyF_all] at h
theorem before_take {α : Type} {lt : α → α → Bool} {l : List α} {a b : α} {k : Nat} (h : l[k]? = some b) : before lt (l.take (k + 1)) a = before lt (l.take k) a + (if lt b a then 1 else 0) := by
  unfold before
  rw [List.take_add_one, h, List.filter_append, List.length_append]
  cases e : lt b a <;> simp [e]
end Go.Proofs.YtbakoldmfpbnaaaGreatDoor
