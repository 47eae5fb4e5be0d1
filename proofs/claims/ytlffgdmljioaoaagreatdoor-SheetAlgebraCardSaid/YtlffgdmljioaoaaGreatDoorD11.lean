/- Part 11 of the walks of the golf union's program: SM, WF, WG, S8b, WH, WI. -/
import Derived.Test.YtlffgdmljioaoaaGreatDoorD10
import Derived.Test.YtlffgdmljioaoaaGreatDoorD01
set_option linter.unusedVariables false
set_option linter.unusedSimpArgs false
set_option linter.unusedSectionVars false
set_option linter.constructorNameAsVariable false
/- What match computes, as plain functions. -/
namespace Go.Sheet
theorem ifc {c d : Prop} [Decidable c] [Decidable d] {α : Type} {x y : α} (h : c ↔ d) : (if c then x else y) = if d then x else y := by
  by_cases hc : c
  · rw [if_pos hc, if_pos (h.1 hc)]
  · rw [if_neg hc, if_neg (fun hd => hc (h.2 hd))]
/-- the slot of each column -/
def slotOf (cs : List Int) : Nat → Int
  | 0 => 0
  | k + 1 => cs.getD k 0
theorem slotOf_snoc (cs : List Int) (s : Int) : (fun j => if j = cs.length + 1 then s else slotOf cs j) = slotOf (cs ++ [s]) := by
  funext j
  cases j with
  | zero => rfl
  | succ j =>
    rw [slotOf, slotOf, List.getD_eq_getElem?_getD, List.getD_eq_getElem?_getD]
    by_cases e : j = cs.length
    · subst e; simp
    · rw [if_neg (by omega)]
      by_cases h : j < cs.length
      · rw [List.getElem?_append_left h]
      · rw [List.getElem?_eq_none (by omega), List.getElem?_eq_none (by simp; omega)]
/-- the places of slots, from the number k on -/
def plc : Nat → List Slot → List Int
  | _, [] => []
  | k, s :: l => List.replicate s.p.toNat (k : Int) ++ plc (k + 1) l
theorem plc_append (a b : List Slot) : ∀ k, plc k (a ++ b) = plc k a ++ plc (k + a.length) b := by
  induction a with
  | nil => intro k; rfl
  | cons x a ih => intro k; rw [List.cons_append, plc, plc, ih, List.append_assoc, List.length_cons, show k + 1 + a.length = k + (a.length + 1) by omega]
theorem plc_succ {l : List Slot} {k : Nat} {s : Slot} (h : l[k]? = some s) : plc 0 (l.take (k + 1)) = plc 0 (l.take k) ++ List.replicate s.p.toNat (k : Int) := by
  have hk := (List.getElem?_eq_some_iff.1 h).1
  rw [take_at h, plc_append, plc, plc, List.append_nil, List.length_take, Nat.zero_add, Nat.min_eq_left (by omega)]
theorem plc_len {l : List Slot} (h : ∀ s ∈ l, s.p ≤ 8) : ∀ k, (plc k l).length ≤ 8 * l.length := by
  induction l with
  | nil => intro k; exact Nat.zero_le _
  | cons s l ih =>
    intro k
    have h1 := h s (by simp)
    have h2 := ih (fun x hx => h x (by simp [hx])) (k + 1)
    rw [plc, List.length_append, List.length_replicate, List.length_cons]
    omega
def mkM (worth : Nat → Nat → Int) (cs : List Int) (R : Nat) : Mt := ⟨worth, slotOf cs, R, cs.length, List.replicate 25 0, List.replicate 218 0, List.replicate 218 0⟩
def fillF (cs : List Int) (i kk j k : Nat) : Int :=
  if (1 ≤ k ∧ k ≤ cs.length) ∧ 1 ≤ j ∧ (j ≤ i ∨ (j = i + 1 ∧ k < kk)) then (if slotOf cs k < 0 then 0 else -Far) else 0
theorem fillF_start (cs : List Int) : fillF cs 0 1 = fun _ _ => 0 := by
  funext j k
  rw [fillF, if_neg (by omega)]
theorem fillF_next (cs : List Int) (i : Nat) : fillF cs i (cs.length + 1) = fillF cs (i + 1) 1 := by
  funext j k
  simp only [fillF]
  exact ifc (by omega)
theorem fillF_step (cs : List Int) (i kk : Nat) (h1 : 1 ≤ kk) (h2 : kk ≤ cs.length) (v : Int) (hv : v = if slotOf cs kk < 0 then 0 else -Far) : (fun a b => if a = i + 1 ∧ b = kk then v else fillF cs i kk a b) = fillF cs i (kk + 1) := by
  funext j k
  simp only [fillF]
  by_cases h : j = i + 1 ∧ k = kk
  · obtain ⟨rfl, rfl⟩ := h
    rw [if_pos ⟨rfl, rfl⟩, if_pos (by omega), hv]
  · rw [if_neg h]
    exact ifc (by omega)
/-- a wish: its request's row, in the columns of its slot below kk -/
def wishF (cs : List Int) (v : Int) (i : Nat) (s : Int) (kk : Nat) (f : Nat → Nat → Int) (a b : Nat) : Int :=
  if (a = i + 1 ∧ 1 ≤ b ∧ b < kk) ∧ slotOf cs b = s then v else f a b
theorem wishF_start (cs : List Int) (v : Int) (i : Nat) (s : Int) (f : Nat → Nat → Int) : wishF cs v i s 1 f = f := by
  funext a b
  rw [wishF, if_neg (by omega)]
theorem wishF_hit (cs : List Int) (v : Int) (i : Nat) (s : Int) (kk : Nat) (f : Nat → Nat → Int) (h1 : 1 ≤ kk) (h : slotOf cs kk = s) : (fun a b => if a = i + 1 ∧ b = kk then v else wishF cs v i s kk f a b) = wishF cs v i s (kk + 1) f := by
  funext a b
  simp only [wishF]
  by_cases h2 : a = i + 1 ∧ b = kk
  · obtain ⟨rfl, rfl⟩ := h2
    rw [if_pos ⟨rfl, rfl⟩, if_pos ⟨by omega, h⟩]
  · rw [if_neg h2]
    by_cases h3 : (a = i + 1 ∧ 1 ≤ b ∧ b < kk) ∧ slotOf cs b = s
    · rw [if_pos h3, if_pos ⟨by omega, h3.2⟩]
    · rw [if_neg h3, if_neg (fun h4 => h3 ⟨by omega, h4.2⟩)]
theorem wishF_miss (cs : List Int) (v : Int) (i : Nat) (s : Int) (kk : Nat) (f : Nat → Nat → Int) (h : slotOf cs kk ≠ s) : wishF cs v i s kk f = wishF cs v i s (kk + 1) f := by
  funext a b
  simp only [wishF]
  by_cases h3 : (a = i + 1 ∧ 1 ≤ b ∧ b < kk) ∧ slotOf cs b = s
  · rw [if_pos h3, if_pos ⟨by omega, h3.2⟩]
  · rw [if_neg h3, if_neg (fun h4 => h3 ⟨by
      have : b ≠ kk := fun e => by subst e; exact h h4.2
      omega, h4.2⟩)]
/-- what serving a wish of the request i is worth -/
def svI (sv : RQ → Wish → Int) (rs : List RQ) (p : Nat × Wish) : Int := match rs[p.1]? with | some x => sv x p.2 | none => 0
def wishAll (cs : List Int) (sv : RQ → Wish → Int) (rs : List RQ) (f : Nat → Nat → Int) (ps : List (Nat × Wish)) : Nat → Nat → Int :=
  ps.foldl (fun f p => wishF cs (svI sv rs p) p.1 p.2.s (cs.length + 1) f) f
theorem wishAll_snoc (cs : List Int) (sv : RQ → Wish → Int) (rs : List RQ) (f : Nat → Nat → Int) (ps : List (Nat × Wish)) (p : Nat × Wish) :
    wishAll cs sv rs f (ps ++ [p]) = wishF cs (svI sv rs p) p.1 p.2.s (cs.length + 1) (wishAll cs sv rs f ps) := by
  rw [wishAll, List.foldl_append]; rfl
/-- all wishes, of plain requests -/
def wlQ : Nat → List RQ → List (Nat × Wish)
  | _, [] => []
  | k, x :: rs => x.ws.map (fun w => (k, w)) ++ wlQ (k + 1) rs
theorem wl_eq (rs : List Req) : ∀ k, wl k rs = wlQ k (rs.map Req.rq) := by
  induction rs with
  | nil => intro k; rfl
  | cons x rs ih => intro k; rw [List.map_cons, wl, wlQ, ih]; rfl
def colsL (l : List Slot) (R : Nat) : List Int := plc 0 l ++ List.replicate (R + 1) (-1)
def m0 (l : List Slot) (rs : List RQ) (sv : RQ → Wish → Int) : Mt :=
  mkM (wishAll (colsL l rs.length) sv rs (fillF (colsL l rs.length) rs.length 1) (wlQ 0 rs)) (colsL l rs.length) rs.length
def addAll : Nat → Nat → Mt → Option Mt
  | 0, _, M => some M
  | m + 1, i, M => match add M i with
    | none => none
    | some M' => addAll m (i + 1) M'
def matchF (l : List Slot) (rs : List RQ) (sv : RQ → Wish → Int) : Option Mt := addAll rs.length 1 (m0 l rs sv)
/-- what is known of the matching -/
structure Matched (l : List Slot) (rs : List RQ) (sv : RQ → Wish → Int) (M : Mt) : Prop where
  eq : matchF l rs sv = some M
  hm : HM M rs.length
  len : MLens M
  worth : M.worth = (m0 l rs sv).worth
  slot : M.slot = (m0 l rs sv).slot
  rows : M.rows = rs.length
  n : M.n = (plc 0 l).length + rs.length + 1
/- bounds -/
structure SvOk (rs : List RQ) (sv : RQ → Wish → Int) : Prop where
  hi : ∀ x ∈ rs, ∀ y ∈ x.ws, sv x y ≤ Wm
  lo : ∀ x ∈ rs, ∀ y ∈ x.ws, -Far ≤ sv x y
  slot : ∀ x ∈ rs, ∀ y ∈ x.ws, 0 ≤ y.s
theorem wlQ_mem {rs : List RQ} {p : Nat × Wish} : ∀ {k}, p ∈ wlQ k rs → ∃ x, rs[p.1 - k]? = some x ∧ k ≤ p.1 ∧ p.2 ∈ x.ws := by
  induction rs with
  | nil => intro k h; cases h
  | cons x rs ih =>
    intro k h
    rw [wlQ, List.mem_append] at h
    rcases h with h | h
    · obtain ⟨w, hw, rfl⟩ := List.mem_map.1 h
      exact ⟨x, by simp, Nat.le_refl _, hw⟩
    · obtain ⟨y, h1, h2, h3⟩ := ih h
      exact ⟨y, by rw [show p.1 - k = (p.1 - (k + 1)) + 1 by omega]; simpa using h1, by omega, h3⟩
theorem slotOf_home (l : List Slot) (R k : Nat) (h1 : (plc 0 l).length < k) (h2 : k ≤ (plc 0 l).length + R + 1) : slotOf (colsL l R) k = -1 := by
  obtain ⟨j, rfl⟩ : ∃ j, k = j + 1 := ⟨k - 1, by omega⟩
  rw [slotOf, colsL, List.getD_eq_getElem?_getD, List.getElem?_append_right (by omega), List.getElem?_replicate, if_pos (by omega)]
  rfl
theorem colsL_len (l : List Slot) (R : Nat) : (colsL l R).length = (plc 0 l).length + R + 1 := by rw [colsL, List.length_append, List.length_replicate]; omega
theorem wishAll_base (l : List Slot) (rs : List RQ) (sv : RQ → Wish → Int) (h : SvOk rs sv) : Base (m0 l rs sv).worth rs.length (plc 0 l).length := by
  show Base (wishAll (colsL l rs.length) sv rs (fillF (colsL l rs.length) rs.length 1) (wlQ 0 rs)) _ _
  have key : ∀ ps : List (Nat × Wish), (∀ p ∈ ps, p ∈ wlQ 0 rs) → ∀ f : Nat → Nat → Int, Base f rs.length (plc 0 l).length → Base (wishAll (colsL l rs.length) sv rs f ps) rs.length (plc 0 l).length := by
    intro ps
    induction ps with
    | nil => intro _ f hf; exact hf
    | cons p ps ih =>
      intro hp f hf
      obtain ⟨x, hx, _, hw⟩ := wlQ_mem (hp p (by simp))
      rw [Nat.sub_zero] at hx
      have hxm := List.mem_of_getElem? hx
      have e : svI sv rs p = sv x p.2 := by rw [svI, hx]
      refine ih (fun q hq => hp q (by simp [hq])) _ ⟨fun j k a b c d => ?_, fun j k => ?_, fun j k => ?_⟩
      · show wishF (colsL l rs.length) (svI sv rs p) p.1 p.2.s ((colsL l rs.length).length + 1) f j k = 0
        rw [wishF, if_neg, hf.home j k a b c d]
        rintro ⟨_, h2⟩
        rw [slotOf_home l rs.length k c d] at h2
        have := h.slot x hxm p.2 hw
        omega
      · show wishF (colsL l rs.length) (svI sv rs p) p.1 p.2.s ((colsL l rs.length).length + 1) f j k ≤ Wm
        rw [wishF, e]
        split
        · exact h.hi x hxm _ hw
        · exact hf.hi j k
      · show -Far ≤ wishF (colsL l rs.length) (svI sv rs p) p.1 p.2.s ((colsL l rs.length).length + 1) f j k
        rw [wishF, e]
        split
        · exact h.lo x hxm _ hw
        · exact hf.lo j k
  refine key _ (fun p hp => hp) _ ⟨fun j k a b c d => ?_, fun j k => ?_, fun j k => ?_⟩
  · rw [fillF]
    split
    · rw [if_pos (by rw [slotOf_home l rs.length k c d]; decide)]
    · rfl
  · rw [fillF]
    simp only [Wm, Far]
    split
    · split <;> decide
    · decide
  · rw [fillF]
    simp only [Far]
    split
    · split <;> decide
    · decide
theorem m0_lens (l : List Slot) (rs : List RQ) (sv : RQ → Wish → Int) : MLens (m0 l rs sv) := ⟨List.length_replicate, List.length_replicate, List.length_replicate⟩
theorem rep0i (n k : Nat) : (List.replicate n 0).getD k 0 = (0 : Int) := by rw [replicate_getD]; split <;> rfl
theorem m0_hm (l : List Slot) (rs : List RQ) (sv : RQ → Wish → Int) : HM (m0 l rs sv) 0 := by
  have ht : ∀ k, (m0 l rs sv).taken.getD k 0 = 0 := fun k => rep0 218 k
  have hr : ∀ k, (m0 l rs sv).row.getD k 0 = 0 := fun k => rep0i 25 k
  have hc : ∀ k, (m0 l rs sv).col.getD k 0 = 0 := fun k => rep0i 218 k
  refine ⟨fun k _ _ => Nat.le_of_eq (ht k), fun k k' _ _ _ _ _ n => absurd (ht k) n, fun j a b => by omega, fun j k a b => by omega, fun k _ _ n => absurd (ht k) n, fun k _ _ => Int.le_of_eq (hc k).symm, fun k _ _ _ => hc k, fun j _ => hr j⟩
end Go.Sheet
/- Walks: CheckAssignment, continued. -/
namespace Go.Proofs.YtlffgdmljioaoaaGreatDoor
open Go.RowKit Go.Mem Go.Sheet
theorem caUp_some {x : RQ} {s : Int} {y : Wish} {st : Int × List Int} (h : x.ws.find? (fun y => y.s == s) = some y) : caUp x s st = (st.1 + y.w, st.2.set s.toNat (st.2.getD s.toNat 0 + 1)) := by
  rw [caUp, h]
theorem ca_each (W0 w : World) (gr gv gk gt n c nl na : Nat) (A : Option Addr) (v : Value) (rs : List Req) (a : List Int) (l : List Slot) (hl : l.length = nl) (hok : Okay l (rs.map Req.rq)) (hlen : a.length = rs.length)
    (S : St W0 w (caL gr gv gk gt n c nl A 0 (List.replicate nl 0))) (h : RdReqs W0 (· < W0.heap.size) (.slice A n c) n rs) (ha : Rd W0 (· < W0.heap.size) 1 v na (a.map (Value.int .i64))) :
    Calls Tryz.prog 54 #[v, .func (.func 131) #[] #[.pointer (some ⟨gr, 0, none⟩), .pointer (some ⟨gt, 0, none⟩), .pointer (some ⟨gv, 0, none⟩)]] w fun e w' =>
      e = .returned (.int .i64 (eachF (caAt (rs.map Req.rq)) 0 a)) ∧
      (eachF (caAt (rs.map Req.rq)) 0 a = 0 → St W0 w' (caL gr gv gk gt n c nl A (caSt (0, List.replicate nl 0) (rs.map Req.rq) a).1 (caSt (0, List.replicate nl 0) (rs.map Req.rq) a).2) ∧ (caSt (0, List.replicate nl 0) (rs.map Req.rq) a).2.length = nl ∧ 0 ≤ (caSt (0, List.replicate nl 0) (rs.map Req.rq) a).1 ∧ (caSt (0, List.replicate nl 0) (rs.map Req.rq) a).1 ≤ 240000) ∧
      (eachF (caAt (rs.map Req.rq)) 0 a ≠ 0 → Below W0.heap.size W0 w') := by
  have hna := ha.count1
  have hE := enters Tryz.func131 (by kernel_rfl) rfl
  have hnr : rs.length ≤ 24 := by have := hok.nr; simpa using this
  have hnl24 : nl ≤ 24 := by rw [← hl]; exact hok.nl
  generalize hst : (fun k => caSt (0, List.replicate nl 0) ((rs.map Req.rq).take k) (a.take k)) = st
  have hst0 : st 0 = (0, List.replicate nl 0) := by subst hst; simp [caSt]
  have hstn : st na = caSt (0, List.replicate nl 0) (rs.map Req.rq) a := by subst hst; show caSt _ _ _ = _; rw [List.take_of_length_le (by simp; omega), List.take_of_length_le (by omega)]
  have hsts : ∀ k x s, rs[k]? = some x → a[k]? = some s → st (k + 1) = if s = -1 then st k else caUp x.rq s (st k) := by
    intro k x s hx hs
    subst hst
    exact caSt_snoc _ _ _ _ x.rq s (by rw [List.getElem?_map, hx]; rfl) hs
  refine (each_Int w v na a 131 hE #[.pointer (some ⟨gr, 0, none⟩), .pointer (some ⟨gt, 0, none⟩), .pointer (some ⟨gv, 0, none⟩)]
    (fun k w' => St W0 w' (caL gr gv gk gt n c nl A (st k).1 (st k).2) ∧ (st k).2.length = nl ∧ 0 ≤ (st k).1 ∧ (st k).1 ≤ 10000 * k ∧ ∀ t ∈ (st k).2, 0 ≤ t ∧ t ≤ k)
    (fun w' => Below W0.heap.size W0 w') (caAt (rs.map Req.rq)) (fun k w' hI => (ha.below hI.1.bel).mono fun _ _ _ => trivial)
    (by rw [hst0]; exact ⟨S, by simp, by simp, by simp, fun t ht => by have := List.eq_of_mem_replicate ht; omega⟩) ?_).mono ?_
  · intro k s w' hs ⟨S', hlen', hv0, hv1, ht⟩
    have hk : k < rs.length := by rw [← hlen]; exact (List.getElem?_eq_some_iff.1 hs).1
    obtain ⟨x, hx⟩ : ∃ x, rs[k]? = some x := ⟨_, List.getElem?_eq_getElem hk⟩
    have hxm : x.rq ∈ rs.map Req.rq := List.mem_map_of_mem (List.mem_of_getElem? hx)
    have hca : caAt (rs.map Req.rq) k s = caE x.rq s := by rw [caAt, List.getElem?_map, hx]; rfl
    rw [hca, hsts k x s hx hs]
    generalize hstk : st k = p at *
    obtain ⟨val, ts⟩ := p
    dsimp only at S' hlen' hv0 hv1 ht
    by_cases hs1 : s = -1
    · subst hs1
      rw [if_pos rfl, caE, if_pos rfl]
      refine (ca1_home W0 w' gr gv gk gt n c nl k A val ts rs x hx S' h).mono ?_
      rintro e w2 ⟨rfl, rfl⟩
      exact ⟨rfl, fun _ => ⟨S', hlen', hv0, by omega, fun t h' => by have := ht t h'; omega⟩, fun _ => S'.bel⟩
    · rw [if_neg hs1, caE, if_neg hs1]
      cases hf : x.rq.ws.find? fun y => y.s == s with
      | none =>
        refine (ca1_no W0 w' gr gv gk gt n c nl k A val s ts rs x hx S' h (by simpa using hs1) hf).mono ?_
        rintro e w2 ⟨rfl, hb⟩
        exact ⟨rfl, fun h0 => absurd h0 (by simp), fun _ => S'.bel.trans (hb.mono S'.size)⟩
      | some y =>
        obtain ⟨hym, hys⟩ := find_mem hf
        have hw := hok.wish x.rq hxm y hym
        obtain ⟨j, rfl⟩ : ∃ j : Nat, s = j := ⟨s.toNat, by omega⟩
        have hj : j < nl := by omega
        obtain ⟨t, htj⟩ : ∃ t, ts[j]? = some t := ⟨_, List.getElem?_eq_getElem (by omega)⟩
        have htb := ht t (List.mem_of_getElem? htj)
        refine (ca1_yes W0 w' gr gv gk gt n c nl k j A val t ts rs x y hx S' h hf hj htj ⟨hv0, by omega⟩ ⟨by omega, by omega⟩ ⟨htb.1, by omega⟩).mono ?_
        rintro e w2 ⟨rfl, S2⟩
        have hgd : ts.getD j 0 = t := by rw [List.getD_eq_getElem?_getD, htj]; rfl
        refine ⟨rfl, fun _ => ?_, fun h0 => absurd rfl h0⟩
        rw [caUp_some hf, Int.toNat_natCast]
        dsimp only
        rw [hgd]
        refine ⟨S2, by simpa using hlen', by omega, by omega, fun t' h' => ?_⟩
        rcases List.mem_or_eq_of_mem_set h' with h' | rfl
        · have := ht t' h'; omega
        · omega
  · rintro e w' ⟨he, h1, h2⟩
    refine ⟨he, fun h0 => ?_, h2⟩
    have h3 := h1 h0
    rw [hstn] at h3
    exact ⟨h3.1, h3.2.1, h3.2.2.1, by have := h3.2.2.2.1; omega⟩
end Go.Proofs.YtlffgdmljioaoaaGreatDoor
/- Walks: CheckAssignment, the whole. -/
namespace Go.Proofs.YtlffgdmljioaoaaGreatDoor
open Go.RowKit Go.Mem Go.Sheet
set_option maxRecDepth 100000 in
set_option maxHeartbeats 2000000 in
theorem checkAssignment_any (W : World) (vl vr va : Value) (nl n na : Nat) (l : List Slot) (rs : List Req) (a : List Int) (hl : Rd W (· < W.heap.size) 3 vl nl (l.flatMap Slot.cells)) (h : RdReqs W (· < W.heap.size) vr n rs) (ha : Rd W (· < W.heap.size) 1 va na (a.map (Value.int .i64))) :
    Calls Tryz.prog 84 #[vl, vr, va] W fun e w' => e = .returned (.tuple #[.int .i64 (checkAssignment l (rs.map Req.rq) a).1, .int .i64 (checkAssignment l (rs.map Req.rq) a).2]) ∧ Below W.heap.size W w' := by
  have hnl := hl.count (f := Slot.cells) (size := 3) (fun _ => rfl) (by decide)
  have hn := h.1.count (f := Req.cells) (size := 3) (fun _ => rfl) (by decide)
  have hna := ha.count1
  obtain ⟨A, c, rfl, _, _, _⟩ := h.1.open_
  obtain ⟨Al, cl, rfl, _, _, _⟩ := hl.open_
  obtain ⟨Aa, ca, rfl, _, _, _⟩ := ha.open_
  have bn := h.1.le
  have bnl := hl.le
  have bna := ha.le
  have hE0 : caE0 l (rs.map Req.rq) a = fst [checkRequests l (rs.map Req.rq), whenE ((na : Int) != n) 2] := by
    rw [caE0, List.length_map, ← hna, ← hn]
  have S := (St.refl W).blk_new #[.slice A n c] 60
  simp only [List.nil_append] at S
  have d0 := S.blk_cell (i := 0) rfl 0
  have hl1 := hl.later S.bel
  have h1 := reqs_later h S.bel
  have HH := Lib.hid h
  have HA := Lib.hid ha
  have HLL := Lib.hid hl
  have H1 := Lib.hid hnl
  have H2 := Lib.hid hn
  have H3 := Lib.hid hna
  have H4 := Lib.hid hE0
  clear hnl hn hna hE0 h ha hl
  go_enter Tryz.func84, Tryz.ntmps84
  go_wp2_with fail
  generalize W.alloc (.cells #[.slice A n c] 60) = W1 at *
  have hg0 : W.heap.size < W1.heap.size := (S.blk_at (i := 0) rfl).2.1
  refine wp_cls 9 (fun w' => Below W1.heap.size W1 w') (by kernel_rfl) (by kernel_rfl) (Below.refl _ _).drew ?_
  simp only [List.take_succ_cons, List.take_zero, List.drop_succ_cons, List.drop_zero]
  have hK2 : ∀ w w' : World, Below W1.heap.size W1 w → Below w.heap.size w w' → Below W1.heap.size W1 w' := fun w w' h h' => h.trans (h'.mono h.size)
  generalize hK : (fun w' => Below W1.heap.size W1 w') = K
  intro hne
  have kb : ∀ y : Wd K, Below W1.heap.size W1 y.w := by subst hK; exact fun y => y.h
  have hK3 : ∀ w w' : World, K w → Below w.heap.size w w' → K w' := by subst hK; exact hK2
  have k0 : ∀ y : Wd K, y.w.cell? ⟨W.heap.size, 0, none⟩ = some (.slice A n c) := fun y => ((kb y).cell (p := ⟨W.heap.size, 0, none⟩) hg0).trans d0
  clear hK hK2
  repeat (go_big_quiet_step ((first | (go_at_call 53; exact cls_same (when_any _ _ _)) | (go_at_call 80; exact cls_below hK3 (checkRequests_any _ _ _ nl n l rs (hl1.later (kb _)) (reqs_later h1 (kb _)))))))
  refine wpQuiet_nil ?_
  intro y
  have hb := kb y
  have S2 := S.ext hb
  clear k0 kb hK3 hne hl1 h1 d0 S
  generalize y.w = w2 at *
  have f0 := S2.blk_cell (i := 0) rfl 0
  generalize hE : fst [checkRequests l (rs.map Req.rq), whenE ((na : Int) != n) 2] = E at *
  have HE := Lib.hid hE
  clear hE
  have S3 := (S2.alloc (.cells #[.int .i64 (checkRequests l (rs.map Req.rq)), .int .i64 (whenE ((na : Int) != n) 2)] 28)).blk_new #[.int .i64 0] 3
  simp only [World.size_alloc, List.cons_append, List.nil_append] at S3
  have hb2 := S2.bel.alloc S2.size (.cells #[.int .i64 (checkRequests l (rs.map Req.rq)), .int .i64 (whenE ((na : Int) != n) 2)] 28)
  by_cases h0 : (E != 0) = true
  · go_wp2_with (go_at_call 52; refine (first2 _ _ (checkRequests l (rs.map Req.rq)) (whenE ((na : Int) != n) 2) (by simp) (by simp) (by simp)).mono ?_; rw [HE.out]; rintro e w' ⟨rfl, rfl⟩)
    go_ret2
    have h1 : caE0 l (rs.map Req.rq) a ≠ 0 := by rw [H4.out]; simpa using h0
    exact ⟨by rw [checkAssignment, if_pos h1, H4.out]; rfl, hb2⟩
  · have h0' : (E != 0) = false := by simpa using h0
    have h1 : ¬ caE0 l (rs.map Req.rq) a ≠ 0 := by rw [H4.out]; simpa using h0
    have hE0 : E = 0 := by simpa using h0
    have hok : Okay l (rs.map Req.rq) ∧ a.length = rs.length := by
      have h2 := HE.out
      rw [hE0, fst_zero] at h2
      simp only [List.mem_cons, List.not_mem_nil, or_false, forall_eq_or_imp, forall_eq, whenE_zero _ _ (show (2 : Int) ≠ 0 by decide)] at h2
      have := H2.out
      have := H3.out
      have h3 := h2.2
      simp at h3
      exact ⟨okay_of h2.1, by omega⟩
    have HOK := Lib.hid hok
    have hnl24 : nl ≤ 24 := by rw [H1.out]; exact hok.1.nl
    clear h0 hE0 hok hb2
    go_wp2_with (first
      | (go_at_call 52; refine (first2 _ _ (checkRequests l (rs.map Req.rq)) (whenE ((na : Int) != n) 2) (by simp) (by simp) (by simp)).mono ?_; rw [HE.out]; rintro e w' ⟨rfl, rfl⟩)
      | (at_make; refine wpList_make_st eltI rfl _ _ rfl rfl rfl S3 (by omega) (by omega) ?_; intro w4 g S4 hg4 hb4)
      | fail)
    have hmc : (madeCells (Value.int .i64 0).cells (nl * 1)).toList = (List.replicate nl 0).map (Value.int .i64) := by
      show (madeCells #[.int .i64 0] (nl * 1)).toList = _
      rw [toList_madeCells_one]; simp
    rw [hmc] at S4
    have S5 : St W (w4.alloc (.cells #[.slice (some ⟨g, 0, none⟩) nl nl] 23)) (caL W.heap.size (w2.heap.size + 1) g w4.heap.size n c nl A 0 (List.replicate nl 0)) := S4.blk_new _ _
    clear S4 S3 hb4 hg4 hmc f0
    generalize w4.alloc (.cells #[.slice (some ⟨g, 0, none⟩) nl nl] 23) = w5 at *
    refine (ca_each W w5 W.heap.size (w2.heap.size + 1) g w4.heap.size n c nl na A (.slice Aa na ca) rs a l H1.out.symm HOK.out.1 HOK.out.2 S5 HH.out HA.out).mono ?_
    rintro e w6 ⟨rfl, hz, hnz⟩
    have HZ := Lib.hid hz
    have HNZ := Lib.hid hnz
    clear hz hnz S5
    have hst : caSt (0, List.replicate nl 0) (rs.map Req.rq) a = caEnd l (rs.map Req.rq) a := by rw [caEnd, ← H1.out]
    rw [hst] at HZ
    clear hst
    generalize hE2 : eachF (caAt (rs.map Req.rq)) 0 a = E2 at *
    by_cases h2 : (E2 != 0) = true
    · have hb6 := HNZ.out (by simpa using h2)
      have HF : Hid (checkAssignment l (rs.map Req.rq) a = (0, E2)) := by
        show _ = _
        rw [checkAssignment, if_neg h1, hE2, if_pos (by simpa using h2)]
      clear hE2
      go_wp2
      go_ret2
      exact ⟨by rw [HF.out]; rfl, hb6⟩
    · have h2' : (E2 != 0) = false := by simpa using h2
      have h20 : E2 = 0 := by simpa using h2
      have HF : Hid (checkAssignment l (rs.map Req.rq) a = if overAt (caEnd l (rs.map Req.rq) a).2 l then (0, 29) else ((caEnd l (rs.map Req.rq) a).1, 0)) := by
        show _ = _
        rw [checkAssignment, if_neg h1, hE2, if_neg (by simpa using h2)]
      obtain ⟨S6, hlen, hv0, hv1⟩ := HZ.out h20
      clear hE2 h20 h2 HZ HNZ
      generalize caEnd l (rs.map Req.rq) a = st at *
      obtain ⟨val, ts⟩ := st
      dsimp only at S6 hlen hv0 hv1
      have HLEN := Lib.hid hlen
      have e0 := S6.blk_cell (i := 3) rfl 0
      have e1 := S6.blk_cell (i := 1) rfl 0
      have HR := Lib.hid (S6.row_rd (i := 2) rfl)
      have hb6 := S6.bel
      have hl6 := HLL.out.below S6.bel
      clear hlen S6
      go_wp2
      go_loop [39] (fun i => ∃ k : Nat, k ≤ nl ∧ i = .int .i64 k ∧ Hid (overAt (ts.drop k) (l.drop k) = overAt ts l)) (fun i => nl - (intOf i).toNat)
      case atStart => exact ⟨0, Nat.zero_le _, rfl, rfl⟩
      case round =>
        obtain ⟨k, hk, rfl, he⟩ := hrel
        by_cases hlt : k < nl
        · obtain ⟨b, o, t, hA, ht, hc⟩ := HR.out.int hlt
          cases hA
          simp only [Nat.zero_add] at hc
          obtain ⟨b2, o2, s, rfl, hs, c0, c1, c2⟩ := hl6.elem3 (k := k) (fun s : Slot => .int .i64 s.m) (fun s : Slot => .int .i64 s.h) (fun s : Slot => .int .i64 s.p) (fun _ => rfl) hlt
          have HT := Lib.hid ht
          have HS := Lib.hid hs
          clear ht hs
          go_wp2
          · go_ret2
            have hgt : s.p < t := by assumption
            exact ⟨by rw [HF.out, overAt_stop HT.out HS.out hgt he.out]; rfl, hb6⟩
          · go_round
            have hgt : ¬ s.p < t := by omega
            case rel => exact ⟨k + 1, by omega, by go_num, overAt_go HT.out HS.out hgt he.out⟩
            case measure => simp [intOf]; omega
        · have HO := Lib.hid (overAt_end (k := k) (by have := HLEN.out; omega) he.out)
          go_wp2
          go_ret2
          exact ⟨by rw [HF.out, HO.out]; rfl, hb6⟩
end Go.Proofs.YtlffgdmljioaoaaGreatDoor
/- Withdraw as a plain function. -/
namespace Go.Sheet
def hasWish (x : RQ) (s : Int) : Bool := (x.ws.find? fun y => y.s == s).isSome
/-- the first other request that is not served and wishes for the slot -/
def wdK (i : Nat) (slot : Int) : Nat → List RQ → List Int → Option Nat
  | k, x :: rs, s :: a => if k ≠ i ∧ s < 0 ∧ hasWish x slot = true then some k else wdK i slot (k + 1) rs a
  | _, _, _ => none
theorem wdK_stop {i k : Nat} {slot s : Int} {x : RQ} {rs : List RQ} {a : List Int} (hx : rs[k]? = some x) (hs : a[k]? = some s) (h : k ≠ i ∧ s < 0 ∧ hasWish x slot = true)
    (e : wdK i slot k (rs.drop k) (a.drop k) = wdK i slot 0 rs a) : wdK i slot 0 rs a = some k := by
  rw [← e, drop_at hx, drop_at hs, wdK, if_pos h]
theorem wdK_go {i k : Nat} {slot s : Int} {x : RQ} {rs : List RQ} {a : List Int} (hx : rs[k]? = some x) (hs : a[k]? = some s) (h : ¬ (k ≠ i ∧ s < 0 ∧ hasWish x slot = true))
    (e : wdK i slot k (rs.drop k) (a.drop k) = wdK i slot 0 rs a) : wdK i slot (k + 1) (rs.drop (k + 1)) (a.drop (k + 1)) = wdK i slot 0 rs a := by
  rw [← e, drop_at hx, drop_at hs, wdK, if_neg h]
theorem wdK_end {i k : Nat} {slot : Int} {rs : List RQ} {a : List Int} (hk : rs.length ≤ k)
    (e : wdK i slot k (rs.drop k) (a.drop k) = wdK i slot 0 rs a) : wdK i slot 0 rs a = none := by
  rw [← e, List.drop_of_length_le hk, wdK]
  intros; contradiction
def wdOut (rs : List RQ) (a : List Int) (i : Nat) (slot : Int) : List Int :=
  match wdK i slot 0 rs a with
  | some k => (a.set i (-1)).set k slot
  | none => a.set i (-1)
def withdraw (l : List Slot) (rs : List RQ) (a : List Int) (i : Int) : List Int × Int :=
  if (checkAssignment l rs a).2 ≠ 0 then ([], (checkAssignment l rs a).2)
  else if i < 0 ∨ (rs.length : Int) ≤ i then ([], 10)
  else if a.getD i.toNat 0 < 0 then ([], 19)
  else (wdOut rs a i.toNat (a.getD i.toNat 0), 0)
theorem checkAssignment_ok {l : List Slot} {rs : List RQ} {a : List Int} (h : (checkAssignment l rs a).2 = 0) : checkRequests l rs = 0 ∧ a.length = rs.length ∧ eachF (caAt rs) 0 a = 0 ∧ overAt (caEnd l rs a).2 l = false ∧ (checkAssignment l rs a).1 = (caEnd l rs a).1 := by
  rw [checkAssignment] at h ⊢
  by_cases h1 : caE0 l rs a ≠ 0
  · rw [if_pos h1] at h; exact absurd h h1
  · rw [if_neg h1] at h ⊢
    by_cases h2 : eachF (caAt rs) 0 a ≠ 0
    · rw [if_pos h2] at h; exact absurd h h2
    · rw [if_neg h2] at h ⊢
      simp only [ne_eq, Classical.not_not] at h1 h2
      rw [caE0, fst_zero] at h1
      simp only [List.mem_cons, List.not_mem_nil, or_false, forall_eq_or_imp, forall_eq, whenE_zero _ _ (show (2 : Int) ≠ 0 by decide)] at h1
      have h3 := h1.2
      simp at h3
      cases h4 : overAt (caEnd l rs a).2 l
      · exact ⟨h1.1, by omega, h2, rfl, by simp⟩
      · rw [h4] at h; simp at h
end Go.Sheet
/- Walks: copied, Withdraw. -/
namespace Go.Proofs.YtlffgdmljioaoaaGreatDoor
open Go.RowKit Go.Mem Go.Sheet
theorem ints_one (k : IntKind) (l : List Int) : ∀ u ∈ l.map (Value.int k), u.oneCell' = true := by
  intro u hu
  obtain ⟨_, _, rfl⟩ := List.mem_map.1 hu
  rfl
theorem copied_any (W : World) (v : Value) (n : Nat) (l : List Int) (h : Rd W (· < W.heap.size) 1 v n (l.map (Value.int .i64))) (hn : n ≤ 10000000000) :
    Calls Tryz.prog 85 #[v] W fun e w' => ∃ v', e = .returned v' ∧ St W w' [row 3 1 v' n (l.map (Value.int .i64))] := by
  go_enter Tryz.func85, Tryz.ntmps85
  go_wp2_with (first
    | (at_builtin
       refine wpList_append_st eltI rfl _ _ rfl rfl ((St.refl W).row_nil 3 1) (k := 0) rfl rfl h (ints_one _ _) (by omega) (by omega) ?_
       intro v' w' S _))
  go_ret
  exact ⟨_, rfl, by simpa using S⟩
/-- a list and an error -/
def RetInts (W : World) (res : List Int × Int) (e : Ending) (w' : World) : Prop :=
  ∃ v', e = .returned (.tuple #[v', .int .i64 res.2]) ∧ St W w' [row 3 1 v' res.1.length (res.1.map (Value.int .i64))]
theorem RetInts.err {W w' : World} {e : Int} (h : Below W.heap.size W w') : RetInts W ([], e) (.returned (.tuple #[.slice none 0 0, .int .i64 e])) w' :=
  ⟨_, rfl, (St.of_below h).row_nil 3 1⟩
set_option maxRecDepth 100000 in
set_option maxHeartbeats 4000000 in
theorem withdraw_any (W : World) (vl vr va : Value) (nl n na : Nat) (i : Int) (l : List Slot) (rs : List Req) (a : List Int) (hl : Rd W (· < W.heap.size) 3 vl nl (l.flatMap Slot.cells)) (h : RdReqs W (· < W.heap.size) vr n rs) (ha : Rd W (· < W.heap.size) 1 va na (a.map (Value.int .i64))) :
    Calls Tryz.prog 36 #[vl, vr, va, .int .i64 i] W (RetInts W (withdraw l (rs.map Req.rq) a i)) := by
  have H2 := Lib.hid (h.1.count (f := Req.cells) (size := 3) (fun _ => rfl) (by decide))
  have H3 := Lib.hid ha.count1
  obtain ⟨A, c, rfl, _, _, _⟩ := h.1.open_
  obtain ⟨Al, cl, rfl, _, _, _⟩ := hl.open_
  obtain ⟨Aa, ca, rfl, _, _, _⟩ := ha.open_
  have bn := h.1.le
  have bna := ha.le
  have HC := Lib.hid (checkAssignment_any W _ _ _ nl n na l rs a hl h ha)
  have HH := Lib.hid h
  have HA := Lib.hid ha
  clear hl h ha
  go_enter Tryz.func36, Tryz.ntmps36
  go_wp2_with fail
  refine HC.out.mono ?_
  rintro e w2 ⟨rfl, hb2⟩
  clear HC
  have HW : Hid (withdraw l (rs.map Req.rq) a i = if (checkAssignment l (rs.map Req.rq) a).2 ≠ 0 then ([], (checkAssignment l (rs.map Req.rq) a).2) else if i < 0 ∨ (n : Int) ≤ i then ([], 10) else if a.getD i.toNat 0 < 0 then ([], 19) else (wdOut (rs.map Req.rq) a i.toNat (a.getD i.toNat 0), 0)) := by
    show _ = _
    rw [withdraw, List.length_map, ← H2.out]
  have HK : Hid ((checkAssignment l (rs.map Req.rq) a).2 = 0 → n = na ∧ n ≤ 24) := fun h0 => by
    have := checkAssignment_ok h0
    have h5 := (okay_of this.1).nr
    have := H2.out
    have := H3.out
    simp at *
    omega
  generalize checkAssignment l (rs.map Req.rq) a = r at *
  obtain ⟨val, E⟩ := r
  dsimp only at HW HK
  by_cases h0 : (E != 0) = true
  · go_wp2
    go_ret2
    have := HW.out
    rw [if_pos (by simpa using h0)] at this
    rw [this]
    exact RetInts.err hb2
  · have h0' : (E != 0) = false := by simpa using h0
    obtain ⟨hnn, hn24⟩ := HK.out (by simpa using h0)
    have HW2 := HW.out
    rw [if_neg (by simpa using h0)] at HW2
    have HW := Lib.hid HW2
    have HNN := Lib.hid hnn
    clear HW2 HK h0 hnn
    by_cases hi : i < 0
    · go_wp2
      go_ret2
      rw [HW.out, if_pos (.inl hi)]
      exact RetInts.err hb2
    by_cases hi2 : (n : Int) ≤ i
    · go_wp2
      go_ret2
      rw [HW.out, if_pos (.inr hi2)]
      exact RetInts.err hb2
    obtain ⟨j, rfl⟩ : ∃ j : Nat, i = j := ⟨i.toNat, by omega⟩
    have hj : j < na := by have := HNN.out; omega
    have hjn : (j : Int) < na := by omega
    obtain ⟨b, o, s, hAa, hs, hc⟩ := (HA.out.below hb2).int hj
    subst hAa
    have hW3 := HW.out
    rw [if_neg (by omega), Int.toNat_natCast, show a.getD j 0 = s by rw [List.getD_eq_getElem?_getD, hs]; rfl] at hW3
    have HW := Lib.hid hW3
    have HS := Lib.hid hs
    clear hW3 hs
    by_cases hs0 : s < 0
    · go_wp2
      go_ret2
      rw [HW.out, if_pos hs0]
      exact RetInts.err hb2
    have hW3 := HW.out
    rw [if_neg hs0] at hW3
    have HW := Lib.hid hW3
    clear hW3
    go_wp2_with fail
    have HR2 := reqs_later HH.out hb2
    refine (copied_any w2 _ na a (HA.out.later hb2) (by have := HNN.out; omega)).mono ?_
    rintro e w3 ⟨v3, rfl, S3⟩
    have S4 := (St.of_below hb2).call S3
    obtain ⟨g, cap, rfl, hcap, _, _, hcell, hfz⟩ := S4.row_form (i := 0) rfl (by omega)
    have e1 : w3.cell? ⟨g, j, none⟩ = some (.int .i64 s) := by rw [hcell j (by omega), List.getElem?_map, HS.out]; rfl
    have e2 := hfz j
    have S5 := S4.row_set (i := 0) rfl j (.int .i64 (-1))
    simp only [List.nil_append, List.set_cons_zero] at S5
    rw [← List.map_set] at S5
    have hlen : a.length = na := H3.out.symm
    have HLEN := Lib.hid hlen
    clear hcell hfz S3 S4 hlen hc
    go_wp2
    go_loopw [48] (fun idx w' => ∃ k : Nat, k ≤ n ∧ idx = .int .i64 k ∧ St W w' [row 3 1 (.slice (some ⟨g, 0, none⟩) na cap) na ((a.set j (-1)).map (Value.int .i64))] ∧ Hid (wdK j s k ((rs.map Req.rq).drop k) (a.drop k) = wdK j s 0 (rs.map Req.rq) a)) (fun idx _ => n - (intOf idx).toNat)
    case atStart => exact ⟨0, Nat.zero_le _, rfl, S5, rfl⟩
    case round =>
      obtain ⟨k, hk, rfl, S, he⟩ := hrel
      clear S5 e1 e2
      by_cases hlt : k < n
      · obtain ⟨bx, ox, x, rfl, hx, c0, c1, c2⟩ := (HH.out.1.below S.bel).elem3 (k := k) (fun s : Req => .string s.name) (fun s : Req => .bool s.g) (fun s : Req => .slice s.wa s.wn s.wc) (fun _ => rfl) hlt
        have hka : k < na := by have := HNN.out; omega
        obtain ⟨b', o', t, hA', ht, ct⟩ := (HA.out.below S.bel).int hka
        cases hA'
        have hrx : Rd wr (· < wr.heap.size) 2 x.wv x.wn (x.ws.flatMap Wish.cells) := ((HH.out.2 x (List.mem_of_getElem? hx)).1.below S.bel).now
        have hxq : (rs.map Req.rq)[k]? = some x.rq := by rw [List.getElem?_map, hx]; rfl
        have hko : k < (a.set j (-1)).length := by rw [List.length_set, HLEN.out]; exact hka
        have HX := Lib.hid hxq
        have HT := Lib.hid ht
        have HKO := Lib.hid hko
        have hbr : b < wr.heap.size := World.block_lt_of_cell? wr _ ct
        clear hx hxq ht hko
        cases hf : x.ws.find? fun y => y.s == s with
        | none =>
          have HW1 := Lib.hid (wish_no wr x s hrx hf)
          have HN : Hid (hasWish x.rq s = false) := by show _ = _; rw [hasWish]; show (x.ws.find? _).isSome = _; rw [hf]; rfl
          clear hrx hf
          have hki : ((k : Int) != j) = true ∨ ((k : Int) != j) = false := by cases ((k : Int) != j) <;> simp
          have htn : t < 0 ∨ ¬ t < 0 := by omega
          have HG := Lib.hid (wdK_go HX.out HT.out (i := j) (slot := s) (by rw [HN.out]; simp) he.out)
          rcases hki with hki | hki <;> rcases htn with htn | htn
          all_goals
            go_wp2_with fail
            refine HW1.out.mono ?_
            rintro e w5 ⟨rfl, hb5⟩
            have S6 := (S.ext hb5).alloc (.cells #[.int .i64 0, .int .i64 0] 122)
            have ct5 := (hb5.cell (p := ⟨b, o + k, none⟩) hbr).trans ct
            have hbr5 : b < w5.heap.size := Nat.lt_of_lt_of_le hbr hb5.size
            have HS6 := Lib.hid S6
            clear S S6 hb5
            go_wp2
            go_roundw
            case rel => exact ⟨k + 1, by omega, by go_num, HS6.out, HG.out⟩
            case measure => simp [intOf]; omega
        | some y =>
          have HW1 := Lib.hid (wish_yes wr x s y hrx hf)
          have HN : Hid (hasWish x.rq s = true) := by show _ = _; rw [hasWish]; show (x.ws.find? _).isSome = _; rw [hf]; rfl
          clear hrx hf
          have htn : t < 0 ∨ ¬ t < 0 := by omega
          by_cases hkj : k = j
          · have hki : ((k : Int) != j) = false := by simp; omega
            have HG := Lib.hid (wdK_go HX.out HT.out (i := j) (slot := s) (fun h => h.1 hkj) he.out)
            have HKJ := Lib.hid hkj
            clear hkj
            rcases htn with htn | htn
            all_goals
              go_wp2_with fail
              refine HW1.out.mono ?_
              rintro e w5 ⟨rfl, hb5⟩
              have S6 := (S.ext hb5).alloc (.cells #[.int .i64 y.s, .int .i64 y.w] 122)
              have ct5 := (hb5.cell (p := ⟨b, o + k, none⟩) hbr).trans ct
              have hbr5 : b < w5.heap.size := Nat.lt_of_lt_of_le hbr hb5.size
              have HS6 := Lib.hid S6
              clear S S6 hb5
              go_wp2
              go_roundw
              case rel => exact ⟨k + 1, by omega, by go_num, HS6.out, HG.out⟩
              case measure => simp [intOf]; omega
          · have hki : ((k : Int) != j) = true := by simp; omega
            have HKJ := Lib.hid hkj
            clear hkj
            rcases htn with htn | htn
            · have HST := Lib.hid (wdK_stop HX.out HT.out (i := j) (slot := s) ⟨HKJ.out, htn, HN.out⟩ he.out)
              go_wp2_with fail
              refine HW1.out.mono ?_
              rintro e w5 ⟨rfl, hb5⟩
              have S6 := (S.ext hb5).alloc (.cells #[.int .i64 y.s, .int .i64 y.w] 122)
              have ct5 := (hb5.cell (p := ⟨b, o + k, none⟩) hbr).trans ct
              have hbr5 : b < w5.heap.size := Nat.lt_of_lt_of_le hbr hb5.size
              obtain ⟨g', cap', hv', _, _, _, hcell, hfz⟩ := S6.row_form (i := 0) rfl (by omega)
              cases hv'
              have d1 := hcell k (by omega)
              rw [List.getElem?_map, List.getElem?_eq_getElem HKO.out] at d1
              have d2 := hfz k
              have S7 := S6.row_set (i := 0) rfl k (.int .i64 s)
              simp only [List.set_cons_zero] at S7
              rw [← List.map_set] at S7
              have HS7 := Lib.hid S7
              clear S S6 S7 hb5 hcell hfz
              go_wp2
              go_ret2
              refine ⟨_, by rw [HW.out]; rfl, ?_⟩
              rw [HW.out]
              dsimp only
              rw [wdOut, HST.out]
              dsimp only
              rw [List.length_set, List.length_set, HLEN.out]
              exact HS7.out
            · have HG := Lib.hid (wdK_go HX.out HT.out (i := j) (slot := s) (fun h => htn h.2.1) he.out)
              go_wp2_with fail
              refine HW1.out.mono ?_
              rintro e w5 ⟨rfl, hb5⟩
              have S6 := (S.ext hb5).alloc (.cells #[.int .i64 y.s, .int .i64 y.w] 122)
              have ct5 := (hb5.cell (p := ⟨b, o + k, none⟩) hbr).trans ct
              have hbr5 : b < w5.heap.size := Nat.lt_of_lt_of_le hbr hb5.size
              have HS6 := Lib.hid S6
              clear S S6 hb5
              go_wp2
              go_roundw
              case rel => exact ⟨k + 1, by omega, by go_num, HS6.out, HG.out⟩
              case measure => simp [intOf]; omega
      · have HE := Lib.hid (wdK_end (k := k) (by rw [List.length_map]; have := H2.out; omega) he.out)
        have HS := Lib.hid S
        clear S
        go_wp2
        go_ret2
        refine ⟨_, by rw [HW.out]; rfl, ?_⟩
        rw [HW.out]
        dsimp only
        rw [wdOut, HE.out]
        dsimp only
        rw [List.length_set, HLEN.out]
        exact HS.out
end Go.Proofs.YtlffgdmljioaoaaGreatDoor
/- Walks: Starts, Shotgun, Daylight. -/
namespace Go.Proofs.YtlffgdmljioaoaaGreatDoor
open Go.RowKit Go.Mem Go.Sheet
theorem eltS : Elt Tryz.prog 58 70 (.agg #[.int .i64 0, .int .i64 0, .int .i64 0]) 3 24 := ⟨Tryz.underlying58, by kernel_rfl, rfl, by decide⟩
/-- slots and an error -/
def RetSlots (W : World) (res : List Slot × Int) (e : Ending) (w' : World) : Prop :=
  ∃ v', e = .returned (.tuple #[v', .int .i64 res.2]) ∧ St W w' [row 70 3 v' res.1.length (res.1.flatMap Slot.cells)]
theorem RetSlots.err {W w' : World} {e : Int} (h : Below W.heap.size W w') : RetSlots W ([], e) (.returned (.tuple #[.slice none 0 0, .int .i64 e])) w' :=
  ⟨_, rfl, (St.of_below h).row_nil 70 3⟩
/-- the new slice of one element -/
theorem rd_one {w : World} {u : Value} {t : TypeId} {g : Nat} (hg : w.heap.size = g) : Rd (w.alloc (.cells #[u] t)) (fun _ => True) 1 (.slice (some ⟨g, 0, none⟩) 1 1) 1 [u] :=
  hg ▸ rd_new (m := 1) w #[u] t rfl (by omega) (fun _ => True) trivial
theorem one_int (k : IntKind) (x : Int) : ∀ u ∈ [Value.int k x], u.oneCell' = true := by simp [Value.oneCell']
set_option maxRecDepth 100000 in
set_option maxHeartbeats 2000000 in
theorem starts_any (W : World) (f l i p : Int) : Calls Tryz.prog 31 #[.int .i64 f, .int .i64 l, .int .i64 i, .int .i64 p] W (RetSlots W (starts f l i p)) := by
  have HS : Hid (starts f l i p = if startsE1 f l i p ≠ 0 then ([], startsE1 f l i p) else if startsE2 f l i ≠ 0 then ([], startsE2 f l i) else (startsL f i p (startsN f l i), 0)) := rfl
  have HE : Hid (fst [outE f 0 10000, outE l 0 10000, outE i 1 10000, outE p 1 8] = startsE1 f l i p) := rfl
  have HB : Hid (startsE1 f l i p = 0 → 0 ≤ f ∧ f ≤ 10000 ∧ 0 ≤ l ∧ l ≤ 10000 ∧ 1 ≤ i ∧ i ≤ 10000 ∧ 1 ≤ p ∧ p ≤ 8) := fun h0 => by
    rw [startsE1, fst_zero] at h0
    simp only [List.mem_cons, List.not_mem_nil, or_false, forall_eq_or_imp, forall_eq, outE_zero] at h0
    omega
  generalize startsE1 f l i p = E at *
  have hb := (Below.refl W.heap.size W).alloc (Nat.le_refl _) (.cells #[.int .i64 (outE f 0 10000), .int .i64 (outE l 0 10000), .int .i64 (outE i 1 10000), .int .i64 (outE p 1 8)] 28)
  go_enter Tryz.func31, Tryz.ntmps31
  by_cases h0 : (E != 0) = true
  · go_wp2_with (first | (go_at_call 56; refine (outside_any _ _ _ _).mono ?_; rintro e w' ⟨rfl, rfl⟩) | (go_at_call 52; refine (first4 _ _ (outE f 0 10000) (outE l 0 10000) (outE i 1 10000) (outE p 1 8) (by simp) (by simp) (by simp) (by simp) (by simp)).mono ?_; rw [HE.out]; rintro e w' ⟨rfl, rfl⟩))
    go_ret2
    rw [HS.out, if_pos (by simpa using h0)]
    exact RetSlots.err hb
  · have h0' : (E != 0) = false := by simpa using h0
    have HS2 := HS.out
    rw [if_neg (by simpa using h0)] at HS2
    have HS := Lib.hid HS2
    obtain ⟨f0, f1, l0, l1, i0, i1, p0, p1⟩ := HB.out (by simpa using h0)
    have HE2 : Hid (fst [whenE (decide (l < f)) 11, whenE (decide (24 < (l - f).tdiv i + 1)) 5] = startsE2 f l i) := rfl
    have HB2 : Hid (startsE2 f l i = 0 → f ≤ l ∧ startsN f l i ≤ 24) := fun h0 => by
      rw [startsE2, fst_zero] at h0
      simp only [List.mem_cons, List.not_mem_nil, or_false, forall_eq_or_imp, forall_eq, whenE_zero _ _ (show (11 : Int) ≠ 0 by decide), whenE_zero _ _ (show (5 : Int) ≠ 0 by decide)] at h0
      have h1 : f ≤ l := by simpa using h0.1
      have h2 := h0.2
      rw [Int.tdiv_eq_ediv_of_nonneg (by omega)] at h2
      rw [startsN]
      simp at h2
      omega
    generalize startsE2 f l i = E2 at *
    generalize hd : (l - f).tdiv i = d at *
    have HD := Lib.hid hd
    have hdb : -10000 ≤ d ∧ d ≤ 10000 := by
      have := Int.natAbs_tdiv_le_natAbs (l - f) i
      omega
    clear HB h0 HS2 hd
    go_wp2_with (first | (go_at_call 56; refine (outside_any _ _ _ _).mono ?_; rintro e w' ⟨rfl, rfl⟩) | (go_at_call 52; refine (first4 _ _ (outE f 0 10000) (outE l 0 10000) (outE i 1 10000) (outE p 1 8) (by simp) (by simp) (by simp) (by simp) (by simp)).mono ?_; rw [HE.out]; rintro e w' ⟨rfl, rfl⟩) | fail)
    generalize W.alloc (.cells #[.int .i64 (outE f 0 10000), .int .i64 (outE l 0 10000), .int .i64 (outE i 1 10000), .int .i64 (outE p 1 8)] 28) = W1 at *
    refine wp_cls 12 (fun w' => Below W.heap.size W w') (by kernel_rfl) (by kernel_rfl) hb.drew ?_
    simp only [List.take_succ_cons, List.take_zero, List.drop_succ_cons, List.drop_zero]
    generalize hK : (fun w' => Below W.heap.size W w') = K
    intro hne
    have kb : ∀ y : Wd K, Below W.heap.size W y.w := by subst hK; exact fun y => y.h
    clear hK
    have h1c : (l < f) ∨ ¬ (l < f) := by omega
    repeat (go_big_quiet_step ((first | (go_at_call 53; exact cls_same (when_any _ _ _)))))
    refine wpQuiet_nil ?_
    intro y
    have hbW := kb y
    clear kb hne
    generalize y.w = w2 at *
    have hq : whenE (decide (24 < wrap64 ((l - f).tdiv i + 1))) 5 = whenE (decide (24 < d + 1)) 5 := by rw [HD.out, Go.IntWalk.wrap64_in _ (by omega)]
    rw [← hq] at HE2
    generalize whenE (decide (24 < wrap64 ((l - f).tdiv i + 1))) 5 = q at *
    clear hq
    have hb3 := hbW.alloc hbW.size (.cells #[.int .i64 (whenE (decide (l < f)) 11), .int .i64 q] 28)
    have S3 := (St.of_below hb3).row_nil 70 3
    by_cases h0 : (E2 != 0) = true
    · go_wp2_with (go_at_call 52; refine (first2 _ _ (whenE (decide (l < f)) 11) q (by simp) (by simp) (by simp)).mono ?_; rw [HE2.out]; rintro e w' ⟨rfl, rfl⟩)
      go_ret2
      rw [HS.out, if_pos (by simpa using h0)]
      exact RetSlots.err hb3
    · have h0'' : (E2 != 0) = false := by simpa using h0
      have HS2 := HS.out
      rw [if_neg (by simpa using h0)] at HS2
      have HS := Lib.hid HS2
      obtain ⟨hfl, hN⟩ := HB2.out (by simpa using h0)
      have HLE := Lib.hid (fun k : Nat => starts_le (k := k) i0 hfl)
      generalize startsN f l i = n at *
      clear HB2 h0 HS2
      go_wp2_with (first | (go_at_call 52; refine (first2 _ _ (whenE (decide (l < f)) 11) q (by simp) (by simp) (by simp)).mono ?_; rw [HE2.out]; rintro e w' ⟨rfl, rfl⟩))
      go_loopw [12, 13] (fun v i' w' => ∃ k : Nat, k ≤ n ∧ i' = .int .i64 (f + k * i) ∧ St W w' [row 70 3 v k ((startsL f i p k).flatMap Slot.cells)]) (fun _ i' _ => (l + 1 - intOf i').toNat)
      case atStart => exact ⟨0, Nat.zero_le _, by simp, S3⟩
      case round =>
        obtain ⟨k, hk, rfl, S⟩ := hrel
        clear S3
        have hle := HLE.out k
        have HNX : Hid (f + (k : Int) * i + i = f + ((k + 1 : Nat) : Int) * i) := by show _ = _; rw [Int.natCast_add, Int.add_mul]; simp; omega
        by_cases hlt : k < n
        · have hml := hle.2 hlt
          have hm0 : 0 ≤ (k : Int) * i := Int.mul_nonneg (by omega) (by omega)
          clear hle
          generalize hmi : f + (k : Int) * i = mi at *
          have hmi0 : 0 ≤ mi := by omega
          have HMI := Lib.hid hmi
          clear hmi
          go_wp2_with (first
            | (at_builtin
               refine wpList_append_st eltS rfl _ _ rfl rfl (S.alloc _) (k := 0) rfl rfl (rd_new wr #[.int .i64 mi, .int .i64 1, .int .i64 p] 70 rfl (by omega) (fun _ => True) trivial) (by simp [Value.oneCell']) (by omega) (by omega) ?_
               intro v' w' S' _))
          go_roundw
          case rel => exact ⟨k + 1, by omega, by rw [← HNX.out], by rw [startsL_succ, List.flatMap_append]; simpa [Slot.cells, HMI.out] using S'⟩
          case measure => simp [intOf]; omega
        · have hml : ¬ f + (k : Int) * i ≤ l := fun h => hlt (hle.1 h)
          obtain rfl : k = n := by omega
          have HSS := Lib.hid S
          clear S hle hlt
          generalize hmi : f + (k : Int) * i = mi at *
          clear hmi
          go_wp2
          go_ret2
          rw [HS.out]
          refine ⟨_, rfl, ?_⟩
          simpa [startsL_len] using HSS.out
set_option maxRecDepth 100000 in
set_option maxHeartbeats 2000000 in
theorem daylight_any (W : World) (vl : Value) (nl : Nat) (l : List Slot) (a b r : Int) (hl : Rd W (· < W.heap.size) 3 vl nl (l.flatMap Slot.cells)) :
    Calls Tryz.prog 32 #[vl, .int .i64 a, .int .i64 b, .int .i64 r] W (RetInts W (daylight l a b r)) := by
  have HN := Lib.hid (hl.count (f := Slot.cells) (size := 3) (fun _ => rfl) (by decide))
  have HC := Lib.hid (checkSlots_any W l nl vl hl)
  obtain ⟨A, c, rfl, _, _, _⟩ := hl.open_
  have bnl := hl.le
  have HL := Lib.hid hl
  clear hl
  have HS : Hid (daylight l a b r = if dayE l a b r ≠ 0 then ([], dayE l a b r) else (dayL a b r 0 l, 0)) := rfl
  have HE : Hid (fst [checkSlots l, outE a 0 10000, outE b 0 10000, outE r 0 10000] = dayE l a b r) := rfl
  have HB : Hid (dayE l a b r = 0 → checkSlots l = 0 ∧ 0 ≤ a ∧ a ≤ 10000 ∧ 0 ≤ b ∧ b ≤ 10000 ∧ 0 ≤ r ∧ r ≤ 10000) := fun h0 => by
    rw [dayE, fst_zero] at h0
    simp only [List.mem_cons, List.not_mem_nil, or_false, forall_eq_or_imp, forall_eq, outE_zero] at h0
    exact ⟨h0.1, by omega⟩
  have HK : Hid (checkSlots l = 0 → l.length ≤ 24 ∧ ∀ s ∈ l, 0 ≤ s.m ∧ s.m ≤ 10000) := fun h0 => ⟨(checkSlots_slot h0).1, fun s hs => ⟨((checkSlots_slot h0).2 s hs).1, ((checkSlots_slot h0).2 s hs).2.1⟩⟩
  generalize dayE l a b r = E at *
  generalize checkSlots l = C at *
  go_enter Tryz.func32, Tryz.ntmps32
  go_wp2_with fail
  refine HC.out.mono ?_
  rintro e w2 ⟨rfl, hb2⟩
  clear HC
  have hb3 := hb2.alloc hb2.size (.cells #[.int .i64 C, .int .i64 (outE a 0 10000), .int .i64 (outE b 0 10000), .int .i64 (outE r 0 10000)] 28)
  by_cases h0 : (E != 0) = true
  · go_wp2_with (first | (go_at_call 56; refine (outside_any _ _ _ _).mono ?_; rintro e w' ⟨rfl, rfl⟩) | (go_at_call 52; refine (first4 _ _ C (outE a 0 10000) (outE b 0 10000) (outE r 0 10000) (by simp) (by simp) (by simp) (by simp) (by simp)).mono ?_; rw [HE.out]; rintro e w' ⟨rfl, rfl⟩))
    go_ret2
    rw [HS.out, if_pos (by simpa using h0)]
    exact RetInts.err hb3
  · have h0' : (E != 0) = false := by simpa using h0
    have HS2 := HS.out
    rw [if_neg (by simpa using h0)] at HS2
    have HS := Lib.hid HS2
    obtain ⟨hC, a0, a1, b0, b1, r0, r1⟩ := HB.out (by simpa using h0)
    obtain ⟨hlen, hsl⟩ := HK.out hC
    have HSL := Lib.hid hsl
    have hn24 : nl ≤ 24 := by rw [HN.out]; exact hlen
    have S0 := (St.of_below hb3).row_nil 3 1
    have hl3 := HL.out.later hb3
    have hl3' := HL.out
    clear HB HK h0 HS2 hsl hlen hC
    go_wp2_with (first | (go_at_call 56; refine (outside_any _ _ _ _).mono ?_; rintro e w' ⟨rfl, rfl⟩) | (go_at_call 52; refine (first4 _ _ C (outE a 0 10000) (outE b 0 10000) (outE r 0 10000) (by simp) (by simp) (by simp) (by simp) (by simp)).mono ?_; rw [HE.out]; rintro e w' ⟨rfl, rfl⟩))
    go_loopw [11, 29] (fun v i w' => ∃ (k : Nat) (L : List Int), k ≤ nl ∧ L.length ≤ k ∧ i = .int .i64 k ∧ St W w' [row 3 1 v L.length (L.map (Value.int .i64))] ∧ Hid (L ++ dayL a b r k (l.drop k) = dayL a b r 0 l)) (fun _ i _ => nl - (intOf i).toNat)
    case atStart => exact ⟨0, [], Nat.zero_le _, Nat.zero_le _, rfl, S0, rfl⟩
    case round =>
      obtain ⟨k, L, hk, hLk, rfl, S, he⟩ := hrel
      clear S0 hl3 hl3' hb3
      by_cases hlt : k < nl
      · obtain ⟨bx, ox, s, rfl, hs, c0, c1, c2⟩ := (HL.out.below S.bel).elem3 (k := k) (fun s : Slot => .int .i64 s.m) (fun s : Slot => .int .i64 s.h) (fun s : Slot => .int .i64 s.p) (fun _ => rfl) hlt
        obtain ⟨s0, s1⟩ := HSL.out s (List.mem_of_getElem? hs)
        have HX := Lib.hid hs
        have SA := S.alloc (.cells #[.int .i64 s.m, .int .i64 s.h, .int .i64 s.p] 70)
        clear hs
        by_cases h1 : a ≤ s.m
        · have HA := Lib.hid h1
          have hd1 : decide (a ≤ s.m) = true := by simpa using h1
          clear h1
          by_cases h2 : s.m + r ≤ b
          · have HD : Hid (dayOk a b r s = true) := by show _ = _; simp [dayOk, HA.out, h2]
            have HG := Lib.hid (dayL_go HX.out HD.out he.out)
            go_wp2_with (at_builtin; refine wpList_append_st eltI rfl _ _ rfl rfl (SA.alloc _) (k := 0) rfl rfl (rd_one (by simp)) (one_int _ _) (by omega) (by omega) ?_; intro v' w' S' _)
            go_roundw
            case rel => exact ⟨k + 1, L ++ [(k : Int)], by omega, by simp; omega, by go_num, by simpa using S', HG.out⟩
            case measure => simp [intOf]; omega
          · have HD : Hid (dayOk a b r s = false) := by show _ = _; simp [dayOk, HA.out, h2]
            have HG := Lib.hid (dayL_skip HX.out HD.out he.out)
            go_wp2
            go_roundw
            case rel => exact ⟨k + 1, L, by omega, by omega, by go_num, SA, HG.out⟩
            case measure => simp [intOf]; omega
        · have HD : Hid (dayOk a b r s = false) := by show _ = _; simp [dayOk]; omega
          have hd1 : decide (a ≤ s.m) = false := by simpa using h1
          have HG := Lib.hid (dayL_skip HX.out HD.out he.out)
          go_wp2
          go_roundw
          case rel => exact ⟨k + 1, L, by omega, by omega, by go_num, SA, HG.out⟩
          case measure => simp [intOf]; omega
      · have HE := Lib.hid (dayL_end (k := k) (by have := HN.out; omega) he.out)
        have HSS := Lib.hid S
        clear S
        go_wp2
        go_ret2
        rw [HS.out, ← HE.out]
        exact ⟨_, rfl, HSS.out⟩
end Go.Proofs.YtlffgdmljioaoaaGreatDoor
