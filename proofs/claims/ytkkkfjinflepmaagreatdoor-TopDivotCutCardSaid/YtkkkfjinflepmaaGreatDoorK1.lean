/- TopLinksPartners: the plain law: the better of two, the aggregate, ranks by count-back. -/
import Derived.Test.YtkkkfjinflepmaaGreatDoorB14
import Derived.Test.YtkkkfjinflepmaaGreatDoorB25
import Derived.Test.YtkkkfjinflepmaaGreatDoorB11
set_option linter.unusedVariables false
set_option linter.unusedSimpArgs false
set_option linter.unusedSectionVars false
set_option linter.constructorNameAsVariable false
namespace Go.Proofs.YtkkkfjinflepmaaGreatDoor
open Go.RowKit Go.Mem Go.Sheet Go.Adj
/-- the better of two partners on a hole -/
def bestN (a b : NI) : NI := if isO a.x then (if isO b.x then (if b.s < a.s then b else a) else a) else if isO b.x then b else if isD a.x && isD b.x then ⟨0, .d⟩ else ⟨0, .x⟩
/-- what two partners have together on a hole -/
def aggN (a b : NI) : NI := if isO a.x && isO b.x then ⟨a.s + b.s, .o⟩ else if isD a.x || isD b.x then ⟨0, .d⟩ else ⟨0, .x⟩
theorem cmpI_mono {a a' c : Int} (h : a' ≤ a) : cmpI c a ≤ cmpI c a' := by unfold cmpI; (repeat' split) <;> omega
theorem cmp_best (a b c : NI) : cmpN a c ≤ cmpN (bestN a b) c := by
  obtain ⟨sa, ax⟩ := a
  obtain ⟨sb, bx⟩ := b
  obtain ⟨sc, cx⟩ := c
  have hm : ∀ {s : Int}, s ≤ sa → cmpI sc sa ≤ cmpI sc s := fun h => cmpI_mono h
  have h1 := cmpI_bd sc sa
  have h2 := cmpI_bd sc sb
  unfold bestN cmpN
  cases ax <;> cases bx <;> cases cx <;> simp only [isO, isD, Bool.and_self, Bool.and_true, Bool.and_false, Bool.false_eq_true, if_true, if_false] <;> first
    | omega
    | (by_cases e : sb < sa
       · simp only [e, if_true]
         first
           | exact hm (by omega)
           | exact Int.le_refl _
           | omega
       · simp only [e, if_false, if_true]
         first
           | exact Int.le_refl _
           | exact hm (by omega)
           | omega)
theorem agg_best {a b : NI} (h : (aggN a b).x = .o) : (bestN a b).x = .o ∧ 2 * (bestN a b).s ≤ (aggN a b).s := by
  obtain ⟨sa, ax⟩ := a
  obtain ⟨sb, bx⟩ := b
  unfold aggN at h ⊢
  unfold bestN
  cases ax <;> cases bx <;> simp [isO, isD] at h ⊢
  by_cases e : sb < sa
  · rw [if_pos e]; exact ⟨rfl, by show 2 * sb ≤ sa + sb; omega⟩
  · rw [if_neg e]; exact ⟨rfl, by show 2 * sa ≤ sa + sb; omega⟩
theorem sumTo_mono {f g : Nat → Int} : ∀ {n : Nat}, (∀ i, i < n → f i ≤ g i) → sumTo f n ≤ sumTo g n
  | 0, _ => Int.le_refl _
  | n + 1, h => by
    have h1 := sumTo_mono (n := n) fun i hi => h i (by omega)
    have h2 := h n (by omega)
    show sumTo f n + f n ≤ sumTo g n + g n
    omega
/-- the side of two is at least as many up -/
theorem up_best (A B C : Nat → NI) (k : Nat) : upF A C k ≤ upF (fun i => bestN (A i) (B i)) C k := sumTo_mono fun _ _ => cmp_best _ _ _
/-- the number of those that come before -/
def before {α : Type} (lt : α → α → Bool) (l : List α) (a : α) : Nat := (l.filter fun b => lt b a).length
theorem before_lt {α : Type} {lt : α → α → Bool} {l : List α} {a b : α} (hb : b ∈ l) (hba : lt b a = true) (hbb : lt b b = false) (ht : ∀ c, lt c b = true → lt c a = true) : before lt l b < before lt l a := by
  unfold before
  induction l with
  | nil => cases hb
  | cons x l ih =>
    have hle : ∀ l : List α, (l.filter fun c => lt c b).length ≤ (l.filter fun c => lt c a).length := by
      intro l
      induction l with
      | nil => exact Nat.le_refl _
      | cons y l ih2 =>
        rw [List.filter_cons, List.filter_cons]
        cases h1 : lt y b with
        | true => rw [if_pos rfl, if_pos (ht y h1)]; simp only [List.length_cons]; omega
        | false =>
          rw [if_neg (by simp)]
          split
          · simp only [List.length_cons]; omega
          · exact ih2
    rw [List.filter_cons, List.filter_cons]
    rcases List.mem_cons.1 hb with e | e
    · subst e
      rw [hbb, hba, if_neg (by simp), if_pos rfl, List.length_cons]
      have := hle l
      omega
    · have h2 := ih e
      cases h1 : lt x b with
      | true => rw [if_pos rfl, if_pos (ht x h1)]; simp only [List.length_cons]; omega
      | false =>
        rw [if_neg (by simp)]
        split
        · simp only [List.length_cons]; omega
        · exact h2
/-- first by the sum, then by anything -/
structure ByKey {α : Type} (key : α → Int) (lt : α → α → Bool) : Prop where
  less : ∀ a b, key a < key b → lt a b = true
  more : ∀ a b, lt a b = true → key a ≤ key b
  self : ∀ a, lt a a = false
  trans : ∀ a b c, lt a b = true → lt b c = true → lt a c = true
/-- who has no greater rank has no greater sum -/
theorem rank_key {α : Type} {key : α → Int} {lt : α → α → Bool} (h : ByKey key lt) {l : List α} {a b : α} (hb : b ∈ l) (hr : before lt l a ≤ before lt l b) : key a ≤ key b := by
  rcases Int.lt_or_le (key b) (key a) with hl | hl
  · have h1 := h.less b a hl
    have := before_lt hb h1 (h.self b) fun c hc => h.trans c b a hc h1
    omega
  · exact hl
/-- by the keys, one after another -/
def lexLt {α : Type} : List (α → Int) → α → α → Bool
  | [], _, _ => false
  | k :: ks, a, b => if k a < k b then true else if k b < k a then false else lexLt ks a b
theorem lexLt_self {α : Type} : ∀ (ks : List (α → Int)) (a : α), lexLt ks a a = false
  | [], _ => rfl
  | k :: ks, a => by rw [lexLt, if_neg (by omega), if_neg (by omega), lexLt_self ks a]
theorem lexLt_trans {α : Type} : ∀ (ks : List (α → Int)) (a b c : α), lexLt ks a b = true → lexLt ks b c = true → lexLt ks a c = true
  | [], _, _, _, h, _ => by cases h
  | k :: ks, a, b, c, h1, h2 => by
    unfold lexLt at h1 h2 ⊢
    by_cases e1 : k a < k b
    · by_cases e2 : k b < k c
      · rw [if_pos (by omega)]
      · rw [if_neg e2] at h2
        by_cases e3 : k c < k b
        · rw [if_pos e3] at h2; cases h2
        · rw [if_pos (by omega)]
    · rw [if_neg e1] at h1
      by_cases e4 : k b < k a
      · rw [if_pos e4] at h1; cases h1
      · rw [if_neg e4] at h1
        by_cases e2 : k b < k c
        · rw [if_pos (by omega)]
        · rw [if_neg e2] at h2
          by_cases e3 : k c < k b
          · rw [if_pos e3] at h2; cases h2
          · rw [if_neg e3] at h2
            rw [if_neg (by omega), if_neg (by omega)]
            exact lexLt_trans ks a b c h1 h2
theorem lex_byKey {α : Type} (k : α → Int) (ks : List (α → Int)) : ByKey k (lexLt (k :: ks)) where
  less a b h := by rw [lexLt, if_pos h]
  more a b h := by
    unfold lexLt at h
    by_cases e : k a < k b
    · omega
    · rw [if_neg e] at h
      by_cases e2 : k b < k a
      · rw [if_pos e2] at h; cases h
      · omega
  self := lexLt_self _
  trans := lexLt_trans _
end Go.Proofs.YtkkkfjinflepmaaGreatDoor
/- Chapter 5: count-back: the plain law, and lists read from a place on. -/
namespace Go.Mem
open Go.RowKit
theorem Rd.tail {w : World} {S : Nat → Prop} {b o m c n f : Nat} {xs ys : List Value} (h : Rd w S 1 (.slice (some ⟨b, o, none⟩) m c) n xs) (hf : f < n) (hy : ys = xs.drop f) : Rd w S 1 (.slice (some ⟨b, o + f, none⟩) (n - f) (c - f)) (n - f) ys := by
  obtain ⟨A', c', hv, h1, h2, h3, h4, h5⟩ := h
  injection hv with e1 e2 e3
  subst e1 e2 e3 hy
  obtain ⟨b', o', e, hS, hb, hc⟩ := h5 (by omega)
  cases e
  refine ⟨_, _, rfl, by omega, by omega, by rw [List.length_drop]; omega, (fun e => by cases e), fun _ => ⟨_, _, rfl, hS, hb, fun j u hu => ?_⟩⟩
  rw [List.getElem?_drop] at hu
  have := hc _ _ hu
  rwa [← Nat.add_assoc] at this
end Go.Mem
namespace Go.Proofs.YtkkkfjinflepmaaGreatDoor
open Go.RowKit Go.Mem Go.Sheet Go.Adj
theorem gl_drop (F : Nat → Int) (n f : Nat) : (gl F n).drop f = gl (fun k => F (f + k)) (n - f) := by
  apply List.ext_getElem?
  intro i
  rw [List.getElem?_drop]
  by_cases h : f + i < n
  · rw [gl_at F h, gl_at (fun k => F (f + k)) (by omega)]
  · rw [List.getElem?_eq_none (by rw [gl_len]; omega), List.getElem?_eq_none (by rw [gl_len]; omega)]
/-- the sum of the last c holes, if there are so many -/
def keyF (n c : Nat) (F : Nat → Int) : Int := if c ≤ n then sumTo (fun k => F (n - c + k)) c else 0
theorem keyF_yes {n c : Nat} (h : c ≤ n) (F : Nat → Int) : keyF n c F = sumTo (fun k => F (n - c + k)) (n - (n - c)) := by
  unfold keyF
  rw [if_pos h, show n - (n - c) = c by omega]
theorem keyF_no {n c : Nat} (h : ¬ c ≤ n) (F : Nat → Int) : keyF n c F = 0 := if_neg h
theorem keyF_all (n : Nat) (F : Nat → Int) : keyF n n F = sumTo F n := by
  unfold keyF
  rw [if_pos (Nat.le_refl _), Nat.sub_self]
  exact sumTo_congr fun i _ => by rw [Nat.zero_add]
/-- the answer of count-back over counts of holes -/
def cbL (n : Nat) (F G : Nat → Int) : List Nat → Int
  | [] => 0
  | c :: cs => if cmpI (keyF n c F) (keyF n c G) = 0 then cbL n F G cs else cmpI (keyF n c F) (keyF n c G)
theorem cbL_lex (n : Nat) (F G : Nat → Int) : ∀ cs : List Nat, decide (cbL n F G cs < 0) = lexLt (cs.map (keyF n)) F G
  | [] => rfl
  | c :: cs => by
    have ih := cbL_lex n F G cs
    rw [cbL, List.map_cons, lexLt]
    unfold cmpI
    by_cases h1 : keyF n c F < keyF n c G
    · rw [if_pos h1, if_pos h1, if_neg (by decide)]; rfl
    · rw [if_neg h1, if_neg h1]
      by_cases h2 : keyF n c G < keyF n c F
      · rw [if_pos h2, if_pos h2, if_neg (by decide)]; rfl
      · rw [if_neg h2, if_neg h2, if_pos rfl]; exact ih
def cbF (n : Nat) (F G : Nat → Int) : Int := cbL n F G [n, 9, 6, 3, 1]
def cbLt (n : Nat) : (Nat → Int) → (Nat → Int) → Bool := lexLt ([n, 9, 6, 3, 1].map (keyF n))
theorem cbF_lt (n : Nat) (F G : Nat → Int) : decide (cbF n F G < 0) = cbLt n F G := cbL_lex n F G _
/-- the rank of one of several lists -/
def rankF (n : Nat) (ls : List (Nat → Int)) (F : Nat → Int) : Nat := 1 + before (cbLt n) ls F
theorem rank_sum {n : Nat} {ls : List (Nat → Int)} {F G : Nat → Int} (hG : G ∈ ls) (hr : rankF n ls F ≤ rankF n ls G) : sumTo F n ≤ sumTo G n := by
  have h := rank_key (lex_byKey (keyF n n) ([9, 6, 3, 1].map (keyF n))) (l := ls) (a := F) (b := G) hG (by unfold rankF at hr; exact Nat.le_of_add_le_add_left hr)
  rwa [keyF_all, keyF_all] at h
theorem before_take {α : Type} {lt : α → α → Bool} {l : List α} {a b : α} {k : Nat} (h : l[k]? = some b) : before lt (l.take (k + 1)) a = before lt (l.take k) a + (if lt b a then 1 else 0) := by
  unfold before
  rw [List.take_add_one, h, List.filter_append, List.length_append]
  cases e : lt b a <;> simp [e]
end Go.Proofs.YtkkkfjinflepmaaGreatDoor
/- Chapter 5: count-back and ranks of lists of any numbers of the document (from LP11, LP12 with other bounds). -/
namespace Go.Proofs.YtkkkfjinflepmaaGreatDoor
open Go.RowKit Go.Mem Go.Sheet Go.Adj
theorem same_any (w : World) (x : Int) : Calls Tryz.prog 121 #[.int .i64 x] w fun e w' => e = .returned (.int .i64 x) ∧ w = w' := by
  go_enter Tryz.func121, Tryz.ntmps121
  go_wp2
  go_ret
  exact ⟨rfl, rfl⟩
theorem cbs_at (n : Nat) (hn : 1 ≤ n ∧ n ≤ 36) : ∀ k, k < 5 → ∃ c : Nat, ([n, 9, 6, 3, 1] : List Nat).drop k = c :: ([n, 9, 6, 3, 1] : List Nat).drop (k + 1) ∧ 1 ≤ c ∧ c ≤ 36 ∧ (#[.int .i64 n, .int .i64 9, .int .i64 6, .int .i64 3, .int .i64 1] : Array Value)[k]? = some (.int .i64 c)
  | 0, _ => ⟨n, rfl, hn.1, hn.2, rfl⟩
  | 1, _ => ⟨9, rfl, by omega, by omega, rfl⟩
  | 2, _ => ⟨6, rfl, by omega, by omega, rfl⟩
  | 3, _ => ⟨3, rfl, by omega, by omega, rfl⟩
  | 4, _ => ⟨1, rfl, by omega, by omega, rfl⟩
set_option maxRecDepth 100000 in
set_option maxHeartbeats 4000000 in
theorem sumB_ok (w : World) (v : Value) (n : Nat) (F : Nat → Int) (S : Nat → Prop) (h : Rd w S 1 v n (intsI (gl F n))) (hn : n ≤ 36) (hb : ∀ i, i < n → -999999999 ≤ F i ∧ F i ≤ 999999999) :
    Calls Tryz.prog 120 #[v, .func (.func 121) #[] #[]] w fun e w' => e = .returned (.int .i64 (sumTo F n)) ∧ ∃ q, w' = w.drewN q := by
  have HB := Lib.hid hb
  have HSB : Hid (∀ k, k ≤ n → -36999999999 ≤ sumTo F k ∧ sumTo F k ≤ 36999999999) := fun k hk => by
    have := sumTo_bd (f := F) (a := -999999999) (b := 999999999) (n := k) (fun i hi => hb i (by omega))
    omega
  have HSS : Hid (∀ k, sumTo F (k + 1) = sumTo F k + F k) := fun _ => rfl
  have HS0 : Hid (sumTo F 0 = 0) := rfl
  generalize hSF : sumTo F = SF at *
  clear hSF
  obtain ⟨A, c, rfl, _, _, h⟩ := h.open_
  have H := Lib.hid h
  clear h hb
  go_enter Tryz.func120, Tryz.ntmps120
  go_wp2
  go_loopw [10, 5] (fun i v w' => ∃ k q : Nat, k ≤ n ∧ i = .int .i64 k ∧ v = .int .i64 (SF k) ∧ w' = w.drewN q) (fun i _ _ => n - (intOf i).toNat)
  case atStart => exact ⟨0, 0, Nat.zero_le _, rfl, by rw [HS0.out], rfl⟩
  case round =>
    obtain ⟨k, q, hk, rfl, rfl, rfl⟩ := hrel
    by_cases hlt : k < n
    · obtain ⟨b, o, u, rfl, _, hu, c0⟩ := H.out.at_ hlt
      unfold intsI at hu
      rw [List.getElem?_map, gl_at F hlt] at hu
      cases hu
      have hxb := HB.out k hlt
      have hs1 := HSB.out k hk
      have hs2 := HSB.out (k + 1) (by omega)
      have hss := HSS.out k
      rw [hss] at hs2
      have HSK := Lib.hid hss
      generalize SF k = sk at *
      generalize F k = x at *
      clear hss
      go_wp2_with (go_at_call 121; refine (same_any _ _).mono ?_; rintro e w' ⟨rfl, rfl⟩)
      go_roundw
      case rel => exact ⟨k + 1, _, by omega, by go_num, by rw [HSK.out], rfl⟩
      case measure => simp [intOf]; omega
    · obtain rfl : k = n := by omega
      go_wp2
      go_ret
      exact ⟨rfl, _, rfl⟩
set_option maxRecDepth 100000 in
set_option maxHeartbeats 4000000 in
theorem countbackB_ok (W : World) (va vb : Value) (n : Nat) (F G : Nat → Int) (hn : 1 ≤ n ∧ n ≤ 36) (ha : Rd W (· < W.heap.size) 1 va n (intsI (gl F n))) (hb : Rd W (· < W.heap.size) 1 vb n (intsI (gl G n))) (hF : ∀ i, i < n → -999999999 ≤ F i ∧ F i ≤ 999999999) (hG : ∀ i, i < n → -999999999 ≤ G i ∧ G i ≤ 999999999) :
    Calls Tryz.prog 101 #[va, vb] W fun e w' => e = .returned (.int .i64 (cbF n F G)) ∧ Below W.heap.size W w' := by
  obtain ⟨A, ca, rfl, hca, _, _⟩ := ha.open_
  obtain ⟨B, cb, rfl, hcb, _, _⟩ := hb.open_
  obtain ⟨ba, oa, rfl, _⟩ := ha.addr (by omega)
  obtain ⟨bb, ob, rfl, _⟩ := hb.addr (by omega)
  have HA := Lib.hid ha
  have HB := Lib.hid hb
  have HCS := Lib.hid (cbs_at n hn)
  have HF := Lib.hid hF
  have HG := Lib.hid hG
  have HST : Hid (cbL n F G (([n, 9, 6, 3, 1] : List Nat).drop 0) = cbF n F G) := rfl
  have HEN : Hid (cbL n F G (([n, 9, 6, 3, 1] : List Nat).drop 5) = 0) := rfl
  have S0 := (St.refl W).blk_new #[.int .i64 n, .int .i64 9, .int .i64 6, .int .i64 3, .int .i64 1] 3
  simp only [List.nil_append] at S0
  have HS0 := Lib.hid S0
  clear ha hb hF hG S0
  generalize hCS : ([n, 9, 6, 3, 1] : List Nat) = cs at *
  clear hCS
  go_enter Tryz.func101, Tryz.ntmps101
  go_wp2_with fail
  generalize hgx : W.heap.size = gx at HS0 ⊢
  generalize hCB : cbF n F G = CB at *
  have HCE := Lib.hid hCB
  clear hCB
  go_loopw [13] (fun i w' => ∃ k : Nat, k ≤ 5 ∧ i = .int .i64 k ∧ St W w' [blk gx 3 #[.int .i64 n, .int .i64 9, .int .i64 6, .int .i64 3, .int .i64 1]] ∧ Hid (cbL n F G (cs.drop k) = CB)) (fun i _ => 5 - (intOf i).toNat)
  case atStart => exact ⟨0, Nat.zero_le _, rfl, HS0.out, HST⟩
  case round =>
    obtain ⟨k, hk, rfl, S, hcb⟩ := hrel
    clear HS0 HST
    by_cases hlt : k < 5
    · obtain ⟨c, hdr, hc1, hc2, hce⟩ := HCS.out k hlt
      have c0 := (S.blk_cell (i := 0) rfl k).trans hce
      have hcb2 := hcb.out
      rw [hdr, cbL] at hcb2
      have HCB := Lib.hid hcb2
      have HS := Lib.hid S
      clear hdr hce hcb hcb2 S
      have hk5 : (k : Int) < 5 := by omega
      by_cases hcn : c ≤ n
      · obtain ⟨f, hf⟩ : ∃ f : Nat, f = n - c := ⟨_, rfl⟩
        have hfr : (n : Int) - (c : Int) = (f : Int) := by omega
        have hfn : f < n := by omega
        have hfn' : f ≤ n := by omega
        have hfa : f ≤ ca := by omega
        have hfb : f ≤ cb := by omega
        have hka : keyF n c F = sumTo (fun k => F (f + k)) (n - f) := by rw [keyF_yes hcn, ← hf]
        have hkb : keyF n c G = sumTo (fun k => G (f + k)) (n - f) := by rw [keyF_yes hcn, ← hf]
        rw [hka, hkb] at HCB
        have hba : Below W.heap.size W wr := HS.out.bel
        have HSA : Hid (∀ w', (∃ q, w' = wr.drewN q) → Calls Tryz.prog 120 #[.slice (some ⟨ba, oa + f, none⟩) (n - f) (ca - f), .func (.func 121) #[] #[]] w' fun e w2 => e = .returned (.int .i64 (sumTo (fun k => F (f + k)) (n - f))) ∧ ∃ q, w2 = wr.drewN q) := fun w' ⟨q, hq⟩ =>
          (sumB_ok w' _ (n - f) (fun k => F (f + k)) _ ((HA.out.later (by rw [hq]; exact below_drewN hba q)).tail hfn (by unfold intsI; rw [← List.map_drop, gl_drop])) (by omega) (fun i hi => HF.out (f + i) (by omega))).mono fun e w2 ⟨h1, m, h2⟩ => ⟨h1, q + m, by rw [h2, hq]; exact World.drewN_drewN _ _ _⟩
        have HSB : Hid (∀ w', (∃ q, w' = wr.drewN q) → Calls Tryz.prog 120 #[.slice (some ⟨bb, ob + f, none⟩) (n - f) (cb - f), .func (.func 121) #[] #[]] w' fun e w2 => e = .returned (.int .i64 (sumTo (fun k => G (f + k)) (n - f))) ∧ ∃ q, w2 = wr.drewN q) := fun w' ⟨q, hq⟩ =>
          (sumB_ok w' _ (n - f) (fun k => G (f + k)) _ ((HB.out.later (by rw [hq]; exact below_drewN hba q)).tail hfn (by unfold intsI; rw [← List.map_drop, gl_drop])) (by omega) (fun i hi => HG.out (f + i) (by omega))).mono fun e w2 ⟨h1, m, h2⟩ => ⟨h1, q + m, by rw [h2, hq]; exact World.drewN_drewN _ _ _⟩
        generalize sumTo (fun k => F (f + k)) (n - f) = sa at *
        generalize sumTo (fun k => G (f + k)) (n - f) = sb at *
        clear hf hka hkb hba
        obtain ⟨cv, hcv⟩ : ∃ cv, cv = cmpI sa sb := ⟨_, rfl⟩
        have HCM : Hid (∀ w, Calls Tryz.prog 70 #[.int .i64 sa, .int .i64 sb] w fun e w' => e = .returned (.int .i64 cv) ∧ w = w') := fun w => by rw [hcv]; exact cmpInt_any sa sb w
        rw [← hcv] at HCB
        clear hcv
        go_wp2_with fail
        refine wp_cls 9 (fun w' => ∃ q, w' = wr.drewN q) (by kernel_rfl) (by kernel_rfl) ⟨1, rfl⟩ ?_
        simp only [List.take_succ_cons, List.take_zero, List.drop_succ_cons, List.drop_zero]
        generalize hK : (fun w' => ∃ q, w' = wr.drewN q) = K
        intro hne
        have kw : ∀ y : Wd K, ∃ q, y.w = wr.drewN q := by subst hK; exact fun y => y.h
        have HS1 : Hid (∀ y : Wd K, Calls Tryz.prog 120 #[.slice (some ⟨ba, oa + f, none⟩) (n - f) (ca - f), .func (.func 121) #[] #[]] y.w fun e w2 => e = .returned (.int .i64 sa) ∧ ∃ z : Wd K, w2 = z.w) := by
          subst hK
          exact fun y => (HSA.out y.w y.h).mono fun e w2 ⟨h1, h2⟩ => ⟨h1, ⟨⟨w2, h2⟩, rfl⟩⟩
        have HS2 : Hid (∀ y : Wd K, Calls Tryz.prog 120 #[.slice (some ⟨bb, ob + f, none⟩) (n - f) (cb - f), .func (.func 121) #[] #[]] y.w fun e w2 => e = .returned (.int .i64 sb) ∧ ∃ z : Wd K, w2 = z.w) := by
          subst hK
          exact fun y => (HSB.out y.w y.h).mono fun e w2 ⟨h1, h2⟩ => ⟨h1, ⟨⟨w2, h2⟩, rfl⟩⟩
        clear hK HSA HSB c0
        iterate 3 (go_big_quiet_step ((fail)))
        go_big_quiet_step ((exact HS1.out _))
        iterate 3 (go_big_quiet_step ((fail)))
        go_big_quiet_step ((exact HS2.out _))
        go_big_quiet_step ((exact cls_same (HCM.out _)))
        refine wpQuiet_nil ?_
        intro y
        obtain ⟨q, hq⟩ := kw y
        have hsy := HS.out.drewN q
        rw [← hq] at hsy
        have HSY := Lib.hid hsy
        clear hsy hq kw hne HS1 HS2 HS
        generalize y.w = w3 at *
        by_cases h0 : cv = 0
        · subst h0
          have hcb := HCB.out
          rw [if_pos rfl] at hcb
          have HCB2 := Lib.hid hcb
          clear hcb
          go_wp2_with fail
          go_roundw
          case rel => exact ⟨k + 1, by omega, by go_num, HSY.out, HCB2⟩
          case measure => simp [intOf]; omega
        · have h0' : (cv != 0) = true := by simpa using h0
          have hcb := HCB.out
          rw [if_neg h0] at hcb
          have HCB2 := Lib.hid hcb
          clear hcb h0
          go_wp2_with fail
          go_ret
          exact ⟨ret_i64 (HCB2.out.trans HCE.out.symm), HSY.out.bel⟩
      · have hz : ¬ (0 : Int) ≤ (n : Int) - (c : Int) := by omega
        have hz' : decide ((0 : Int) ≤ (n : Int) - (c : Int)) = false := by simp; omega
        have hcb := HCB.out
        rw [keyF_no hcn, keyF_no hcn, show cmpI 0 0 = 0 from rfl, if_pos rfl] at hcb
        have HCB2 := Lib.hid hcb
        clear hcb
        go_wp2_with fail
        go_roundw
        case rel => exact ⟨k + 1, by omega, by go_num, HS.out, HCB2⟩
        case measure => simp [intOf]; omega
    · obtain rfl : k = 5 := by omega
      have he := HEN.out
      rw [hcb.out] at he
      have HE := Lib.hid he
      have HS := Lib.hid S
      clear he hcb S
      go_wp2_with fail
      go_ret
      exact ⟨ret_i64 (HE.out.symm.trans HCE.out.symm), HS.out.bel⟩
/-- a table of lists of n numbers -/
def RdTab (w : World) (S : Nat → Prop) (v : Value) (m n : Nat) (ls : List (Nat → Int)) : Prop :=
  ∃ vs : List Value, Rd w S 1 v m vs ∧ ∀ (i : Nat) (F : Nat → Int), ls[i]? = some F → ∃ u, vs[i]? = some u ∧ Rd w S 1 u n (intsI (gl F n))
theorem RdTab.later {w w' : World} {v : Value} {m n : Nat} {ls : List (Nat → Int)} (h : RdTab w (· < w.heap.size) v m n ls) (hb : Below w.heap.size w w') : RdTab w' (· < w'.heap.size) v m n ls := by
  obtain ⟨vs, h1, h2⟩ := h
  exact ⟨vs, h1.later hb, fun i F hF => let ⟨u, hu, hr⟩ := h2 i F hF; ⟨u, hu, hr.later hb⟩⟩
theorem RdTab.elem {w : World} {S : Nat → Prop} {A : Option Addr} {c m n k : Nat} {ls : List (Nat → Int)} {F : Nat → Int} (h : RdTab w S (.slice A m c) m n ls) (hk : k < m) (hF : ls[k]? = some F) :
    ∃ b o u, A = some ⟨b, o, none⟩ ∧ w.cell? ⟨b, o + k, none⟩ = some u ∧ Rd w S 1 u n (intsI (gl F n)) := by
  obtain ⟨vs, h1, h2⟩ := h
  obtain ⟨b, o, u, rfl, _, hu, hc⟩ := h1.at_ hk
  obtain ⟨u', hu', hr⟩ := h2 k F hF
  rw [hu] at hu'
  cases hu'
  exact ⟨b, o, u, rfl, hc, hr⟩
def lsAt (ls : List (Nat → Int)) (i : Nat) : Nat → Int := ls.getD i (fun _ => 0)
theorem lsAt_some {ls : List (Nat → Int)} {i : Nat} (h : i < ls.length) : ls[i]? = some (lsAt ls i) := by
  unfold lsAt
  rw [List.getD_eq_getElem?_getD, List.getElem?_eq_getElem h]
  rfl
theorem lsAt_mem {ls : List (Nat → Int)} {i : Nat} (h : i < ls.length) : lsAt ls i ∈ ls := List.mem_of_getElem? (lsAt_some h)
def rkF (n : Nat) (ls : List (Nat → Int)) (i : Nat) : Int := (rankF n ls (lsAt ls i) : Nat)
theorem before_le {α : Type} (lt : α → α → Bool) (l : List α) (a : α) : before lt l a ≤ l.length := List.length_filter_le _ _
set_option maxRecDepth 100000 in
set_option maxHeartbeats 4000000 in
theorem ranksB_ok (W : World) (v : Value) (m n : Nat) (ls : List (Nat → Int)) (hls : ls.length = m) (hm : m ≤ 200) (hn : 1 ≤ n ∧ n ≤ 36) (hb : ∀ F ∈ ls, ∀ i, i < n → -999999999 ≤ F i ∧ F i ≤ 999999999) (h : RdTab W (· < W.heap.size) v m n ls) :
    Calls Tryz.prog 64 #[v] W fun e w' => ∃ v', e = .returned v' ∧ St W w' [row 3 1 v' m (intsI (gl (rkF n ls) m))] := by
  obtain ⟨vs, h1, h2⟩ := h
  obtain ⟨A, c, rfl, _, _, _⟩ := h1.open_
  have HT : Hid (RdTab W (· < W.heap.size) (.slice A m c) m n ls) := Lib.hid ⟨vs, h1, h2⟩
  have HLS : Hid (∀ k, k < m → ls[k]? = some (lsAt ls k)) := fun k hk => lsAt_some (by omega)
  have HBD : Hid (∀ k, k < m → ∀ i, i < n → -999999999 ≤ lsAt ls k i ∧ lsAt ls k i ≤ 999999999) := fun k hk => hb _ (lsAt_mem (by omega))
  have HBF : Hid (∀ k j, j < m → before (cbLt n) (ls.take (j + 1)) (lsAt ls k) = before (cbLt n) (ls.take j) (lsAt ls k) + (if cbLt n (lsAt ls j) (lsAt ls k) then 1 else 0)) := fun k j hj => before_take (lsAt_some (by omega))
  have HBL : Hid (∀ k j, j ≤ m → before (cbLt n) (ls.take j) (lsAt ls k) ≤ m) := fun k j hj => by
    have := before_le (cbLt n) (ls.take j) (lsAt ls k)
    rw [List.length_take] at this
    omega
  have HRK : Hid (∀ k, ((1 + before (cbLt n) (ls.take m) (lsAt ls k) : Nat) : Int) = rkF n ls k) := fun k => by
    rw [List.take_of_length_le (by omega)]; rfl
  have HGS : Hid (∀ k, gl (rkF n ls) (k + 1) = gl (rkF n ls) k ++ [rkF n ls k]) := fun k => gl_snoc _ k
  clear h1 h2 hb
  have S0 := (St.refl W).row_nil 3 1
  simp only [List.nil_append] at S0
  go_enter Tryz.func64, Tryz.ntmps64
  go_wp2_with fail
  go_loopw [11, 3] (fun i v w' => ∃ k : Nat, k ≤ m ∧ i = .int .i64 k ∧ St W w' [row 3 1 v k (intsI (gl (rkF n ls) k))]) (fun i _ _ => m - (intOf i).toNat)
  case atStart => exact ⟨0, Nat.zero_le _, rfl, S0⟩
  case round =>
    obtain ⟨k, hk, rfl, S⟩ := hrel
    clear S0
    by_cases hlt : k < m
    · obtain ⟨b, o, ua, hA, c0, hra⟩ := (HT.out.later S.bel).elem hlt (HLS.out k hlt)
      subst hA
      have HS := Lib.hid S
      have hba := S.bel
      have HRA := Lib.hid hra
      obtain ⟨Aa, ca, rfl, _, _, _⟩ := hra.open_
      clear S hra
      generalize wr = w1 at *
      go_wp2_with fail
      go_loopw [17, 6] (fun i v w' => ∃ j : Nat, j ≤ m ∧ i = .int .i64 j ∧ v = .int .i64 ((1 + before (cbLt n) (ls.take j) (lsAt ls k) : Nat) : Int) ∧ Below w1.heap.size w1 w') (fun i _ _ => m - (intOf i).toNat)
      case atStart => exact ⟨0, Nat.zero_le _, rfl, rfl, Below.refl _ _⟩
      case round =>
        obtain ⟨j, hj, rfl, rfl, hbj⟩ := hrel
        by_cases hltj : j < m
        · obtain ⟨b', o', ub, hA', c1, hrb⟩ := (HT.out.later (hba.trans (hbj.mono hba.size))).elem hltj (HLS.out j hltj)
          cases hA'
          obtain ⟨Ab, cb, rfl, _, _, _⟩ := hrb.open_
          have HCB := Lib.hid (countbackB_ok wr _ _ n (lsAt ls j) (lsAt ls k) hn hrb (HRA.out.later hbj) (HBD.out j hltj) (HBD.out k hlt))
          have hbf := HBF.out k j hltj
          have hbl := HBL.out k j hj
          rw [← cbF_lt] at hbf
          have HBJ := Lib.hid hbj
          clear hrb hbj
          generalize cbF n (lsAt ls j) (lsAt ls k) = cv at *
          by_cases hcv : cv < 0
          · have hc1 : decide (cv < 0) = true := by simpa using hcv
            rw [hc1, if_pos rfl] at hbf
            have HBFF := Lib.hid hbf
            generalize before (cbLt n) (ls.take j) (lsAt ls k) = bj at *
            clear hbf hcv
            go_wp2_with (go_at_call 101; refine HCB.out.mono ?_; rintro e w2 ⟨rfl, hb2⟩; have HB2 := Lib.hid (HBJ.out.trans (hb2.mono HBJ.out.size)); clear hb2)
            go_roundw
            case rel => exact ⟨j + 1, by omega, by go_num, by rw [HBFF.out]; go_num, HB2.out⟩
            case measure => simp [intOf]; omega
          · have hc1 : decide (cv < 0) = false := by simpa using hcv
            rw [hc1, if_neg (by simp)] at hbf
            have HBFF := Lib.hid hbf
            generalize before (cbLt n) (ls.take j) (lsAt ls k) = bj at *
            clear hbf hcv
            go_wp2_with (go_at_call 101; refine HCB.out.mono ?_; rintro e w2 ⟨rfl, hb2⟩; have HB2 := Lib.hid (HBJ.out.trans (hb2.mono HBJ.out.size)); clear hb2)
            go_roundw
            case rel => exact ⟨j + 1, by omega, by go_num, by rw [HBFF.out]; go_num, HB2.out⟩
            case measure => simp [intOf]; omega
        · obtain rfl : m = j := by omega
          have hrk := HRK.out k
          have hgs := HGS.out k
          rw [← hrk] at hgs
          have HGS2 := Lib.hid hgs
          generalize ((1 + before (cbLt n) (ls.take m) (lsAt ls k) : Nat) : Int) = rv at *
          have HS2 := Lib.hid ((HS.out.ext hbj).alloc (.cells #[.int .i64 rv] 3))
          clear hrk hgs
          go_wp2_with (at_builtin; refine wpList_append_st eltI rfl _ _ rfl rfl HS2.out (k := 0) rfl rfl (rd_one (by simp)) (one_int _ _) (by omega) (by omega) ?_; intro v' w' S' _)
          go_roundw
          case rel =>
            refine ⟨k + 1, by omega, by go_num, ?_⟩
            rw [HGS2.out]
            simpa [intsI] using S'
          case measure => simp [intOf]; omega
    · obtain rfl : m = k := by omega
      have HS := Lib.hid S
      clear S
      go_wp2_with fail
      go_ret
      exact ⟨_, rfl, HS.out⟩
end Go.Proofs.YtkkkfjinflepmaaGreatDoor
