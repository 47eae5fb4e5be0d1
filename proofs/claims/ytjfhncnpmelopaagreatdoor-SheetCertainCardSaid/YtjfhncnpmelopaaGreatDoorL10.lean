/- Prices that prove the greatest value: those of Proof do; and no value is above what any prices prove. Plain law. -/
import Derived.Test.YtjfhncnpmelopaaGreatDoorL91
import Derived.Test.YtjfhncnpmelopaaGreatDoorB16
import Derived.Test.YtjfhncnpmelopaaGreatDoorB09
import Derived.Test.YtjfhncnpmelopaaGreatDoorB01
import Derived.Test.YtjfhncnpmelopaaGreatDoorB10
import Derived.Test.YtjfhncnpmelopaaGreatDoorB17
import Derived.BigQuiet
import Derived.Deep.QuietTactic
import Derived.Test.YtjfhncnpmelopaaGreatDoorA2
import Derived.Test.YtjfhncnpmelopaaGreatDoorB23
set_option linter.unusedVariables false
set_option linter.unusedSimpArgs false
set_option linter.unusedSectionVars false
set_option linter.constructorNameAsVariable false
namespace Go.Sheet
def reqP (M : Mt) : Nat → List RQ → List Int
  | _, [] => []
  | i, x :: rs => (M.row.getD (i + 1) 0 - if x.g = true then 1000000 else 0) :: reqP M (i + 1) rs
theorem reqP_len (M : Mt) : ∀ (rs : List RQ) (i : Nat), (reqP M i rs).length = rs.length
  | [], _ => rfl
  | _ :: rs, i => by rw [reqP, List.length_cons, reqP_len M rs, List.length_cons]
theorem reqP_at (M : Mt) : ∀ (rs : List RQ) (i k : Nat) (x : RQ), rs[k]? = some x → (reqP M i rs)[k]? = some (M.row.getD (i + k + 1) 0 - if x.g = true then 1000000 else 0)
  | [], _, _, _, h => by simp at h
  | y :: rs, i, 0, x, h => by simp at h; subst h; rfl
  | y :: rs, i, k + 1, x, h => by
    rw [reqP, List.getElem?_cons_succ, reqP_at M rs (i + 1) k x (by simpa using h)]
    congr 3; omega
theorem reqP_sum (M : Mt) : ∀ (rs : List RQ) (i : Nat), sumF (reqP M i rs) = sm rs.length (fun j => M.row.getD (i + j + 1) 0) - 1000000 * gT rs
  | [], i => by simp [reqP, sumF, sm, gT]
  | x :: rs, i => by
    rw [reqP, sumF, reqP_sum M rs (i + 1), List.length_cons, sm_shift, gT]
    have e : sm rs.length (fun j => M.row.getD (i + 1 + j + 1) 0) = sm rs.length (fun j => M.row.getD (i + (j + 1) + 1) 0) := sm_congr fun j _ => by rw [show i + 1 + j + 1 = i + (j + 1) + 1 by omega]
    rw [e]
    split <;> simp only [Nat.add_zero] <;> omega
def proofF (l : List Slot) (rs : List RQ) : PR × Int :=
  if checkRequests l rs ≠ 0 then (⟨[], []⟩, checkRequests l rs) else match matchF l rs weightQ with
    | some M => match solveV rs (places M) 0 with
      | some _ => (⟨reqP M 0 rs, slotPrices M l.length⟩, 0)
      | none => (⟨[], []⟩, 23)
    | none => (⟨[], []⟩, 23)
theorem matched_bd {l : List Slot} {rs : List RQ} {sv : RQ → Wish → Int} {M : Mt} (h : Matched l rs sv M) (hsv : SvOk rs sv) :
    (∀ x ∈ slotPrices M l.length, 0 ≤ x ∧ x ≤ Wm) ∧ ∀ j, 1 ≤ j → j ≤ rs.length → 0 ≤ M.row.getD j 0 ∧ M.row.getD j 0 ≤ Wm := by
  have b := wishAll_base l rs sv hsv
  have H : HInv (m0 l rs sv).worth M.n rs.length (fun k => M.taken.getD k 0) (fun j => M.row.getD j 0) (fun k => M.col.getD k 0) := h.worth ▸ h.hm
  have hN := h.n
  constructor
  · intro x hx
    obtain ⟨s, hs, rfl⟩ := List.mem_iff_getElem.1 hx
    have hs' : s < (List.replicate l.length (0 : Int)).length := by rw [slotPrices, pricesL_len] at hs; exact hs
    have e : (slotPrices M l.length)[s] = (slotPrices M l.length).getD s 0 := by rw [List.getD_eq_getElem?_getD, List.getElem?_eq_getElem hs, Option.getD_some]
    rw [e]
    rcases pricesL_at M M.n 1 (List.replicate l.length 0) s hs' with ⟨q, h1, h2, h3, h4⟩ | ⟨h1, h2⟩
    · rw [slotPrices, h4]; exact ⟨H.vnn q h1 (by omega), H.vle b hN (Nat.le_refl _) h1 (by omega)⟩
    · rw [slotPrices, h2, List.getD_eq_getElem?_getD, List.getElem?_replicate]
      have : (0 : Int) ≤ Wm := by decide
      split <;> simp [this]
  · intro j a c
    refine ⟨H.unn b hN (Nat.le_refl _) a c, ?_⟩
    obtain ⟨k, k1, k2, k3⟩ := H.psurj j a c
    have h1 := H.tight k k1 k2 (by rw [k3]; omega)
    have h2 := H.vnn k k1 k2
    rw [k3] at h1
    have h3 := b.hi j k
    try simp only at h1 h2
    omega
theorem prNeg_false : ∀ (rs : List RQ) (ps : List Int), (∀ (i : Nat) x n, rs[i]? = some x → ps[i]? = some n → 0 ≤ n ∨ x.g = true) → prNeg rs ps = false
  | [], ps, _ => by simp [prNeg]
  | x :: rs, [], _ => by simp [prNeg]
  | x :: rs, n :: ps, h => by
    rw [prNeg, prNeg_false rs ps fun i y m a b => h (i + 1) y m (by simpa using a) (by simpa using b)]
    rcases h 0 x n rfl rfl with e | e
    · have : decide (n < 0) = false := by simp; omega
      simp [this]
    · simp [e]
theorem prNeg_at : ∀ (rs : List RQ) (ps : List Int), prNeg rs ps = false → ∀ (i : Nat) x n, rs[i]? = some x → ps[i]? = some n → 0 ≤ n ∨ x.g = true
  | [], ps, _, i, x, n, h, _ => by simp at h
  | y :: rs, [], _, i, x, n, _, h => by simp at h
  | y :: rs, m :: ps, hp, i, x, n, h1, h2 => by
    rw [prNeg, Bool.or_eq_false_iff] at hp
    cases i with
    | zero =>
      simp at h1 h2
      subst h1 h2
      have := hp.1
      rw [Bool.and_eq_false_iff] at this
      rcases this with e | e
      · left; have : ¬ m < 0 := by simpa using e
        omega
      · right; simpa using e
    | succ i => exact prNeg_at rs ps hp.2 i x n (by simpa using h1) (by simpa using h2)
theorem prLow_false (sl : List Int) : ∀ (rs : List RQ) (ps : List Int), (∀ (i : Nat) x n, rs[i]? = some x → ps[i]? = some n → ∀ y ∈ x.ws, y.w ≤ n + sl.getD y.s.toNat 0) → prLow sl rs ps = false
  | [], ps, _ => by simp [prLow]
  | x :: rs, [], _ => by simp [prLow]
  | x :: rs, n :: ps, h => by
    rw [prLow, prLow_false sl rs ps fun i y m a b => h (i + 1) y m (by simpa using a) (by simpa using b), Bool.or_false, wishLow, List.any_eq_false]
    intro y hy
    have := h 0 x n rfl rfl y hy
    rw [decide_eq_true_eq]; omega
theorem prLow_at (sl : List Int) : ∀ (rs : List RQ) (ps : List Int), prLow sl rs ps = false → ∀ (i : Nat) x n, rs[i]? = some x → ps[i]? = some n → ∀ y ∈ x.ws, y.w ≤ n + sl.getD y.s.toNat 0
  | [], ps, _, i, x, n, h, _ => by simp at h
  | y :: rs, [], _, i, x, n, _, h => by simp at h
  | y :: rs, m :: ps, hp, i, x, n, h1, h2 => by
    rw [prLow, Bool.or_eq_false_iff] at hp
    cases i with
    | zero =>
      simp at h1 h2
      subst h1 h2
      intro w hw
      have := hp.1
      rw [wishLow, List.any_eq_false] at this
      have := this w hw
      rw [decide_eq_true_eq] at this
      omega
    | succ i => exact prLow_at sl rs ps hp.2 i x n (by simpa using h1) (by simpa using h2)
/-- the prices of Proof prove the value -/
theorem proof_proves {l : List Slot} {rs : List RQ} {M : Mt} {v : Int} (h0 : checkRequests l rs = 0) (hM : Matched l rs weightQ M) (hv : solveV rs (places M) 0 = some v) : checkProof l rs v ⟨reqP M 0 rs, slotPrices M l.length⟩ = 0 := by
  have hok := okay_of h0
  have hf := okay_fit hok
  have hB := matched_best hM hf hf.mok.sv
  obtain ⟨hbd1, hbd2⟩ := matched_bd hM hf.mok.sv
  have hlen := hB.aok.len
  have hs : SureA rs (places M) := by
    apply Classical.byContradiction
    intro hn
    rw [solveV_not rs _ 0 hlen hn] at hv; cases hv
  have hval : v = worthA valQ rs (places M) := by
    rw [solveV_sure rs _ 0 hlen hs] at hv
    have := Option.some.inj hv
    omega
  have hvb := val_bd rs (places M) fun x hx y hy => (hf.mok.ws x hx y hy).2
  have hnr := hf.mok.nr
  have hP : (slotPrices M l.length).length = l.length := hB.pl
  have hQ := reqP_len M rs 0
  have hat : ∀ (i : Nat) x n, rs[i]? = some x → (reqP M 0 rs)[i]? = some n → n = M.row.getD (i + 1) 0 - (if x.g = true then 1000000 else 0) ∧ i < rs.length := fun i x n hx hn => by
    rw [reqP_at M rs 0 i x hx, Nat.zero_add] at hn
    exact ⟨(Option.some.inj hn).symm, (List.getElem?_eq_some_iff.1 hx).1⟩
  have hUat : ∀ i, i < rs.length → (rowPrices M rs.length).getD i 0 = M.row.getD (i + 1) 0 := fun j hj => by
    rw [rowPrices, List.getD_eq_getElem?_getD, List.getElem?_map, List.getElem?_range hj]; rfl
  have hWm : Wm = 1100000 := rfl
  have e1 : proofE1 l rs v ⟨reqP M 0 rs, slotPrices M l.length⟩ = 0 := by
    rw [proofE1, fst_zero]
    simp only [List.mem_cons, List.not_mem_nil, or_false, forall_eq_or_imp, forall_eq, outE_zero, whenE_zero _ _ (show (2 : Int) ≠ 0 by decide)]
    refine ⟨h0, by omega, by simp [hP, hQ]⟩
  have e2 : proofE2 ⟨reqP M 0 rs, slotPrices M l.length⟩ = 0 := by
    rw [proofE2, fst_zero]
    simp only [List.mem_cons, List.not_mem_nil, or_false, forall_eq_or_imp, forall_eq, eachF_zero, bigE, outE_zero]
    constructor
    · intro i n hn
      have hi : i < rs.length := by rw [← hQ]; exact (List.getElem?_eq_some_iff.1 hn).1
      obtain ⟨e, _⟩ := hat i _ n (List.getElem?_eq_getElem hi) hn
      have := hbd2 (i + 1) (by omega) (by omega)
      split at e <;> omega
    · intro i n hn
      have := hbd1 n (List.mem_of_getElem? hn)
      omega
  have e3 : prNeg rs (reqP M 0 rs) = false := prNeg_false _ _ fun i x n hx hn => by
    obtain ⟨e, hi⟩ := hat i x n hx hn
    have := hbd2 (i + 1) (by omega) (by omega)
    by_cases hg : x.g = true
    · exact .inr hg
    · rw [if_neg hg] at e; left; omega
  have e4 : prLow (slotPrices M l.length) rs (reqP M 0 rs) = false := prLow_false _ _ _ fun i x n hx hn y hy => by
    obtain ⟨e, hi⟩ := hat i x n hx hn
    have h1 := hB.feas i x y hx hy
    rw [hUat i hi, weightQ] at h1
    by_cases hg : x.g = true
    · rw [if_pos hg] at h1 e; omega
    · rw [if_neg hg] at h1 e; omega
  have e5 : sumF (reqP M 0 rs) + prSum (slotPrices M l.length) l = v := by
    have h1 := hB.eq
    rw [worth_bonus] at h1
    have h2 := (gN_eq rs (places M) hlen).2 hs
    have h3 := gN_le rs (places M)
    have h4 : sumF (rowPrices M rs.length) = sm rs.length (fun j => M.row.getD (j + 1) 0) := by
      rw [sumF_sm]
      have : (rowPrices M rs.length).length = rs.length := by simp [rowPrices]
      rw [this]
      exact sm_congr fun j hj => hUat j hj
    have h5 := reqP_sum M rs 0
    simp only [Nat.zero_add] at h5
    omega
  have e6 : (slotPrices M l.length).any (fun n => decide (n < 0)) = false := by
    rw [List.any_eq_false]
    intro n hn
    have := hbd1 n hn
    simp; omega
  rw [checkProof, if_neg (by rw [e1]; simp), if_neg (by rw [e2]; simp)]
  simp only
  rw [e3, e4, e5, e6]
  simp [whenE]
/-- what prices prove is no less than any value -/
theorem proved_le {l : List Slot} {rs : List RQ} {v : Int} {p : PR} (h : checkProof l rs v p = 0) {a : List Int} (ha : AOk l rs a) (hs : SureA rs a) : worthA valQ rs a ≤ v := by
  rw [checkProof] at h
  by_cases h1 : proofE1 l rs v p ≠ 0
  · rw [if_pos h1] at h; exact absurd h h1
  · rw [if_neg h1] at h
    by_cases h2 : proofE2 p ≠ 0
    · rw [if_pos h2] at h; exact absurd h h2
    · rw [if_neg h2] at h
      cases h3 : prNeg rs p.rq
      · rw [h3, if_neg (by decide)] at h
        cases h4 : prLow p.sl rs p.rq
        · rw [h4, if_neg (by decide), whenE_zero _ _ (by decide), Bool.or_eq_false_iff] at h
          obtain ⟨h5, h6⟩ := h
          have h5' : sumF p.rq + prSum p.sl l = v := by simpa using h5
          simp only [ne_eq, Classical.not_not] at h1
          rw [proofE1, fst_zero] at h1
          simp only [List.mem_cons, List.not_mem_nil, or_false, forall_eq_or_imp, forall_eq, outE_zero, whenE_zero _ _ (show (2 : Int) ≠ 0 by decide)] at h1
          obtain ⟨hc, _, hl⟩ := h1
          have hl' : p.rq.length = rs.length ∧ p.sl.length = l.length := by simpa using hl
          have hnn := (okay_fit (okay_of hc)).mok.ws
          rw [← h5']
          refine weak_duality ha hl'.1 hl'.2 (fun n hn => ?_) fun i x s u hx hsx hu => ?_
          · rw [List.any_eq_false] at h6
            have := h6 n hn
            simp at this
            omega
          · by_cases hw : hasWish x s = true
            · obtain ⟨y, hy⟩ := hasWish_some hw
              obtain ⟨hym, hys⟩ := find_mem hy
              have := prLow_at p.sl rs p.rq h4 i x u hx hu y hym
              have h0 := (hnn x (List.mem_of_getElem? hx) y hym).1
              rw [wsv, hy, priceAt, if_neg (by omega), ← hys]
              exact this
            · rw [wsv, hasWish_none hw]
              have e : s = -1 := (ha.wish i x s hx hsx).resolve_right hw
              rw [priceAt, if_pos (by omega)]
              rcases prNeg_at rs p.rq h3 i x u hx hu with e1 | e1
              · show 0 ≤ u + 0; omega
              · exact absurd (hs i x s hx hsx e1) hw
        · rw [h4, if_pos rfl] at h; exact absurd h (by decide)
      · rw [h3, if_pos rfl] at h; exact absurd h (by decide)
end Go.Sheet
/- What Proof gives, against the reference's search. Plain law. -/
namespace Go.Sheet
theorem checkProof_first {l : List Slot} {rs : List RQ} {v : Int} {p : PR} (h : checkRequests l rs ≠ 0) : checkProof l rs v p = checkRequests l rs := by
  have e : proofE1 l rs v p = checkRequests l rs := by rw [proofE1, fst, if_pos h]
  rw [checkProof, if_pos (by rw [e]; exact h), e]
theorem proof_cases {l : List Slot} {rs : List RQ} (h : checkRequests l rs = 0) :
    (solveQ l rs = none ∧ proofF l rs = (⟨[], []⟩, 23)) ∨ ∃ M v, solveQ l rs = some (places M, v) ∧ Matched l rs weightQ M ∧ solveV rs (places M) 0 = some v ∧ proofF l rs = (⟨reqP M 0 rs, slotPrices M l.length⟩, 0) := by
  have hm := okay_mok (okay_of h)
  obtain ⟨M, hM⟩ := matched_of hm hm.sv
  have hs := hM.solveQ
  cases hv : solveV rs (places M) 0 with
  | none =>
    left
    rw [hv] at hs
    refine ⟨hs, ?_⟩
    rw [proofF, if_neg (fun h' => h' h), hM.eq]
    show (match solveV rs (places M) 0 with | some _ => _ | none => _) = _
    rw [hv]
  | some v =>
    right
    rw [hv] at hs
    refine ⟨M, v, hs, hM, hv, ?_⟩
    rw [proofF, if_neg (fun h' => h' h), hM.eq]
    show (match solveV rs (places M) 0 with | some _ => _ | none => _) = _
    rw [hv]
/-- THE LAW of Proof -/
theorem proof_ref {l : List Slot} {rs : List RQ} (h : checkRequests l rs = 0) :
    ((searchF rs true [] rs (capL l) fnd0).is = false → proofF l rs = (⟨[], []⟩, 23)) ∧
    ((searchF rs true [] rs (capL l) fnd0).is = true → (proofF l rs).2 = 0 ∧ checkProof l rs (searchF rs true [] rs (capL l) fnd0).value (proofF l rs).1 = 0) := by
  obtain ⟨_, h1, h2⟩ := best_ref h
  rcases proof_cases h with ⟨e1, e2⟩ | ⟨M, v, e1, hM, hv, e2⟩
  · have eb : best l rs = (0, 23) := by rw [best, if_neg (fun h' => h' h), e1]
    refine ⟨fun _ => e2, fun hi => ?_⟩
    have := (h2 hi).1
    rw [eb] at this
    injection this with _ this
    cases this
  · have eb : best l rs = (v, 0) := by rw [best, if_neg (fun h' => h' h), e1]
    refine ⟨fun hi => ?_, fun hi => ?_⟩
    · have := (h1 hi).1
      rw [eb] at this
      injection this with _ this
      cases this
    · have := (h2 hi).1
      rw [eb] at this
      injection this with this _
      rw [e2, ← this]
      exact ⟨rfl, proof_proves h hM hv⟩
end Go.Sheet
/- Walk: Proof. -/
namespace Go.Sheet
theorem proofF_err {l : List Slot} {rs : List RQ} (h : checkRequests l rs ≠ 0) : proofF l rs = (⟨[], []⟩, checkRequests l rs) := by rw [proofF, if_pos h]
theorem proofF_no {l : List Slot} {rs : List RQ} {M : Mt} (h : checkRequests l rs = 0) (hM : Matched l rs weightQ M) (hr : solveV rs (places M) 0 = none) : proofF l rs = (⟨[], []⟩, 23) := by
  rw [proofF, if_neg (fun h' => h' h), hM.eq]
  show (match solveV rs (places M) 0 with | some _ => _ | none => _) = _
  rw [hr]
theorem proofF_yes {l : List Slot} {rs : List RQ} {M : Mt} {v : Int} (h : checkRequests l rs = 0) (hM : Matched l rs weightQ M) (hr : solveV rs (places M) 0 = some v) : proofF l rs = (⟨reqP M 0 rs, slotPrices M l.length⟩, 0) := by
  rw [proofF, if_neg (fun h' => h' h), hM.eq]
  show (match solveV rs (places M) 0 with | some _ => _ | none => _) = _
  rw [hr]
theorem reqP_take (M : Mt) (rs : List RQ) {k : Nat} {x : RQ} (h : rs[k]? = some x) : (reqP M 0 rs).take (k + 1) = (reqP M 0 rs).take k ++ [M.row.getD (k + 1) 0 - if x.g = true then 1000000 else 0] :=
  take_at (by have := reqP_at M rs 0 k x h; rwa [Nat.zero_add] at this)
end Go.Sheet
namespace Go.Proofs.YtjfhncnpmelopaaGreatDoor
open Go.RowKit Go.Mem Go.Sheet
/-- how Proof ends -/
def RetPrices (W : World) (r : PR × Int) (e : Ending) (w' : World) : Prop :=
  ∃ v1 v2, e = .returned (.tuple #[.agg #[v1, v2], .int .i64 r.2]) ∧ Below W.heap.size W w' ∧ Rd w' (· < w'.heap.size) 1 v1 r.1.rq.length (intsV r.1.rq) ∧ Rd w' (· < w'.heap.size) 1 v2 r.1.sl.length (intsV r.1.sl)
theorem res_prices (tmps : Array Value) (w : World) (g : Nat) (a b e : Value) (hp : tmps.getD 4 undef = .pointer (some ⟨g, 0, none⟩)) (he : tmps.getD 5 undef = e) (h0 : w.cell? ⟨g, 0, none⟩ = some a) (h1 : w.cell? ⟨g, 1, none⟩ = some b) :
    (results Tryz.f38 tmps).run Tryz.prog w = .ok (.tuple #[.agg #[a, b], e]) w := by
  have hp' : tmps[4]?.getD undef = .pointer (some ⟨g, 0, none⟩) := by simpa using hp
  have he' : tmps[5]?.getD undef = e := by simpa using he
  simp [results, Tryz.results38, hp', he', h0, h1, go_sem]
set_option maxRecDepth 100000 in
set_option maxHeartbeats 4000000 in
theorem proof_any (W : World) (vl vr : Value) (nl n : Nat) (l : List Slot) (rs : List Req) (hl : Rd W (· < W.heap.size) 3 vl nl (l.flatMap Slot.cells)) (h : RdReqs W (· < W.heap.size) vr n rs) :
    Calls Tryz.prog 38 #[vl, vr] W (RetPrices W (proofF l (rs.map Req.rq))) := by
  have HN := Lib.hid (h.1.count (f := Req.cells) (size := 3) (fun _ => rfl) (by decide))
  have HNL := Lib.hid (hl.count (f := Slot.cells) (size := 3) (fun _ => rfl) (by decide))
  have hb1 := (Below.refl W.heap.size W).alloc (Nat.le_refl _) (.cells #[.slice none 0 0, .slice none 0 0] 74)
  have HC := Lib.hid (solved_any (W.alloc (.cells #[.slice none 0 0, .slice none 0 0] 74)) vl vr nl n l rs (hl.later hb1) (reqs_later h hb1))
  obtain ⟨A, c, rfl, _, _, _⟩ := h.1.open_
  obtain ⟨Al, cl, rfl, _, _, _⟩ := hl.open_
  have HH := Lib.hid h
  have S0 := (St.refl W).blk_new #[.slice none 0 0, .slice none 0 0] 74
  simp only [List.nil_append] at S0
  clear hl h hb1
  go_enter Tryz.func38, Tryz.ntmps38
  go_wp2_with fail
  generalize W.alloc (.cells #[.slice none 0 0, .slice none 0 0] 74) = w1 at *
  generalize hga : W.heap.size = ga at S0 ⊢
  have HGA := Lib.hid hga
  clear hga
  have HS0 := Lib.hid S0
  clear S0
  refine HC.out.mono ?_
  clear HC
  rintro e w2 (⟨h1, rfl, hb⟩ | ⟨h1, M, hM, ⟨hr, rfl, hb⟩ | ⟨v, g, va, hr, rfl, S⟩⟩)
  · have HF := Lib.hid (proofF_err h1)
    have S2 := HS0.out.ext hb
    generalize checkRequests l (rs.map Req.rq) = E at *
    have hE : (E != 0) = true := by simpa using h1
    clear h1 hb
    have k0 := S2.blk_cell (i := 0) rfl 0
    have k1 := S2.blk_cell (i := 0) rfl 1
    have f0 := S2.blk_frozen (i := 0) rfl 0
    have f1 := S2.blk_frozen (i := 0) rfl 1
    have SE := (S2.blk_set (i := 0) rfl 0 (.slice none 0 0)).blk_set (i := 0) rfl 1 (.slice none 0 0)
    have HSE := Lib.hid SE
    have HR0 : RetPrices W (⟨[], []⟩, E) (.returned (.tuple #[.agg #[.slice none 0 0, .slice none 0 0], .int .i64 E])) _ := ⟨_, _, rfl, SE.bel, Rd.nil _ _ _, Rd.nil _ _ _⟩
    rw [← HF.out] at HR0
    have HR := Lib.hid HR0
    clear SE S2 HS0 HR0
    go_wp2_with fail
    have e0 := HSE.out.blk_cell (i := 0) rfl 0
    have e1 := HSE.out.blk_cell (i := 0) rfl 1
    exact bodyPost_ret (v := .tuple #[.agg #[.slice none 0 0, .slice none 0 0], .int .i64 E]) (res_prices _ _ ga _ _ _ rfl rfl e0 e1) rfl HR.out
  · have HF := Lib.hid (proofF_no h1 hM hr)
    have S2 := HS0.out.ext hb
    clear h1 hb hM hr
    have k0 := S2.blk_cell (i := 0) rfl 0
    have k1 := S2.blk_cell (i := 0) rfl 1
    have f0 := S2.blk_frozen (i := 0) rfl 0
    have f1 := S2.blk_frozen (i := 0) rfl 1
    have SE := (S2.blk_set (i := 0) rfl 0 (.slice none 0 0)).blk_set (i := 0) rfl 1 (.slice none 0 0)
    have HSE := Lib.hid SE
    have HR0 : RetPrices W (⟨[], []⟩, 23) (.returned (.tuple #[.agg #[.slice none 0 0, .slice none 0 0], .int .i64 23])) _ := ⟨_, _, rfl, SE.bel, Rd.nil _ _ _, Rd.nil _ _ _⟩
    rw [← HF.out] at HR0
    have HR := Lib.hid HR0
    clear SE S2 HS0 HR0
    go_wp2_with fail
    have e0 := HSE.out.blk_cell (i := 0) rfl 0
    have e1 := HSE.out.blk_cell (i := 0) rfl 1
    exact bodyPost_ret (v := .tuple #[.agg #[.slice none 0 0, .slice none 0 0], .int .i64 23]) (res_prices _ _ ga _ _ _ rfl rfl e0 e1) rfl HR.out
  · have HF := Lib.hid (proofF_yes h1 hM hr)
    have ok := okay_mok (okay_of h1)
    have hn24 : n ≤ 24 := by have := ok.nr; rw [List.length_map] at this; rw [HN.out]; exact this
    have hnl24 : nl ≤ 24 := by have := ok.nl; rw [HNL.out]; exact this
    have hbd := matched_bd hM ok.sv
    have hrl : (rs.map Req.rq).length = n := by rw [List.length_map]; exact HN.out.symm
    rw [hrl] at hbd
    have HBD := Lib.hid hbd.2
    have HM := Lib.hid hM
    have hMn : M.n ≤ 217 := by
      have h2 := plc_len (fun s hs => (ok.sp s hs).2) 0
      have h3 := hM.n
      rw [List.length_map] at h3
      have := HNL.out; have := HN.out
      omega
    have hslot : ∀ k, 1 ≤ k → k ≤ M.n → M.slot k < nl := by
      intro k ha hb
      have e1 : M.slot k = slotOf (colsL l (rs.map Req.rq).length) k := by rw [hM.slot]; rfl
      have e2 := colsL_len l (rs.map Req.rq).length
      have e3 := hM.n
      rw [e1]
      rcases slotOf_cases l (rs.map Req.rq).length k ha (by omega) with e | e
      · omega
      · have := HNL.out; omega
    have HSL := Lib.hid hslot
    have hLen : MLens M := hM.len
    have HLEN := Lib.hid hLen
    have SA := (HS0.out.call S).sub (L' := [blk ga 74 #[.slice none 0 0, .slice none 0 0], blk g 166 (cellsM M).toArray]) (.cons_cons _ (.cons_cons _ (.cons _ .slnil)))
    have HSA := Lib.hid SA
    generalize HRS : rs.map Req.rq = RS at *
    have HRS := Lib.hid HRS
    clear hM hr h1 S SA HS0 hbd ok hrl hslot hLen
    go_wp2_with (first
      | (at_make; refine wpList_make_st eltI rfl _ _ rfl rfl rfl HSA.out (n := nl) (by omega) (by omega) ?_; intro w4 gr S4 hg4 hb4)
      | fail)
    have hmc : (madeCells (Value.int .i64 0).cells (nl * 1)).toList = intsV (List.replicate nl 0) := by
      show (madeCells #[.int .i64 0] (nl * 1)).toList = _
      rw [toList_madeCells_one, intsV]; simp
    rw [hmc] at S4
    simp only [List.cons_append, List.nil_append] at S4
    have S5 := (S4.blk_new #[.slice none 0 0, .slice (some ⟨gr, 0, none⟩) nl nl] 74).row_nil 3 1
    simp only [List.cons_append, List.nil_append] at S5
    generalize w4.alloc (.cells #[.slice none 0 0, .slice (some ⟨gr, 0, none⟩) nl nl] 74) = w5 at *
    generalize w4.heap.size = gb at *
    have HS5 := Lib.hid S5
    clear S5 S4 hmc hg4 hb4 HSA
    go_loopw [34] (fun i w' => ∃ (k : Nat) (vq : Value), k ≤ n ∧ i = .int .i64 k ∧ St W w' [blk ga 74 #[.slice none 0 0, .slice none 0 0], blk g 166 (cellsM M).toArray, row 3 1 (.slice (some ⟨gr, 0, none⟩) nl nl) nl (intsV (List.replicate nl 0)), blk gb 74 #[vq, .slice (some ⟨gr, 0, none⟩) nl nl], row 3 1 vq k (intsV ((reqP M 0 RS).take k))]) (fun i _ => n - (intOf i).toNat)
    case atStart => exact ⟨0, _, Nat.zero_le _, rfl, HS5.out⟩
    case round =>
      obtain ⟨k, vq, hk, rfl, S⟩ := hrel
      clear HS5
      by_cases hlt : k < n
      · obtain ⟨bx, ox, x, rfl, hx, d0, d1, d2⟩ := (HH.out.1.below S.bel).elem3 (k := k) (fun s : Req => .string s.name) (fun s : Req => .bool s.g) (fun s : Req => .slice s.wa s.wn s.wc) (fun _ => rfl) hlt
        have hxq : RS[k]? = some x.rq := by rw [← HRS.out, List.getElem?_map, hx]; rfl
        have HTK := Lib.hid (reqP_take M RS hxq)
        obtain ⟨k1, hk1⟩ : ∃ k1 : Nat, (k : Int) + 1 = k1 := ⟨k + 1, by omega⟩
        have hkk : k1 = k + 1 := by omega
        have hb2 := HBD.out k1 (by omega) (by omega)
        rw [← hkk] at HTK
        obtain ⟨Aq, cq, rfl, _, _, _⟩ := (S.row_rd (i := 4) rfl).open_
        have SX := S.blk_new #[.string x.name, .bool x.g, .slice x.wa x.wn x.wc] 49
        simp only [List.cons_append, List.nil_append] at SX
        have c1 := SX.blk_cell (i := 1) rfl (5670 + k1)
        rw [List.getElem?_toArray, cM_row HLEN.out (by omega)] at c1
        have HXG : Hid (x.rq.g = x.g) := rfl
        obtain ⟨name, xg, wa, wn, wc, ws⟩ := x
        dsimp only at d0 d1 d2 SX HXG c1
        rw [HXG.out] at HTK
        have hw : (0 : Int) ≤ Wm ∧ Wm ≤ 100000000 := by decide
        obtain ⟨pr, hpr⟩ : ∃ pr, M.row.getD k1 0 = pr := ⟨_, rfl⟩
        rw [hpr] at hb2 c1 HTK
        have j0 := SX.blk_cell (i := 3) rfl 0
        have j1 := SX.blk_cell (i := 3) rfl 1
        have i0 := SX.blk_frozen (i := 3) rfl 0
        have HSX := Lib.hid SX
        have hK1 := Lib.hid hkk
        clear hx hxq hpr S SX hkk
        cases xg with
        | true =>
          have HT2 : Hid ((reqP M 0 RS).take k1 = (reqP M 0 RS).take k ++ [pr - 1000000]) := HTK.out
          clear HTK
          go_wp2_with (at_builtin; refine wpList_append_st eltI rfl _ _ rfl rfl (HSX.out.alloc _) (k := 4) rfl rfl (rd_one (by simp)) (one_int _ _) (by omega) (by omega) ?_; intro v' w7 S7 _; obtain ⟨A7, c7, rfl, _, _, _⟩ := (S7.row_rd (i := 4) rfl).open_; have m0 := S7.blk_cell (i := 3) rfl 0; have n0 := S7.blk_frozen (i := 3) rfl 0)
          have SE := (S7.blk_set (i := 3) rfl 0 (.slice A7 (k + 1) c7))
          have HSE := Lib.hid SE
          clear SE S7 m0 n0
          go_wp2_with fail
          go_roundw
          case rel => exact ⟨k1, _, by omega, by go_num, by have := HSE.out; rw [HT2.out]; have e := hK1.out; subst e; simpa [intsV] using this.sub (.cons_cons _ (.cons_cons _ (.cons_cons _ (.cons_cons _ (.cons_cons _ (.cons _ .slnil))))))⟩
          case measure => simp [intOf]; omega
        | false =>
          have HT2 : Hid ((reqP M 0 RS).take k1 = (reqP M 0 RS).take k ++ [pr]) := by
            have := HTK.out
            show _ = _
            simpa using this
          clear HTK
          go_wp2_with (at_builtin; refine wpList_append_st eltI rfl _ _ rfl rfl (HSX.out.alloc _) (k := 4) rfl rfl (rd_one (by simp)) (one_int _ _) (by omega) (by omega) ?_; intro v' w7 S7 _; obtain ⟨A7, c7, rfl, _, _, _⟩ := (S7.row_rd (i := 4) rfl).open_; have m0 := S7.blk_cell (i := 3) rfl 0; have n0 := S7.blk_frozen (i := 3) rfl 0)
          have SE := (S7.blk_set (i := 3) rfl 0 (.slice A7 (k + 1) c7))
          have HSE := Lib.hid SE
          clear SE S7 m0 n0
          go_wp2_with fail
          go_roundw
          case rel => exact ⟨k1, _, by omega, by go_num, by have := HSE.out; rw [HT2.out]; have e := hK1.out; subst e; simpa [intsV] using this.sub (.cons_cons _ (.cons_cons _ (.cons_cons _ (.cons_cons _ (.cons_cons _ (.cons _ .slnil))))))⟩
          case measure => simp [intOf]; omega
      · obtain rfl : k = n := by omega
        have hfull : (reqP M 0 RS).take k = reqP M 0 RS := List.take_of_length_le (by rw [reqP_len, ← HRS.out, List.length_map]; have := HN.out; omega)
        rw [hfull] at S
        clear hfull
        have HS := Lib.hid S
        clear S
        have hkb : decide ((k : Int) < (k : Int)) = false := by simp
        go_wp2_with fail
        go_loopw [14] (fun kk w' => ∃ (k' : Nat) (out : List Int), 1 ≤ k' ∧ k' ≤ M.n + 1 ∧ kk = .int .i64 k' ∧ out.length = nl ∧ St W w' [blk ga 74 #[.slice none 0 0, .slice none 0 0], blk g 166 (cellsM M).toArray, row 3 1 (.slice (some ⟨gr, 0, none⟩) nl nl) nl (intsV out), blk gb 74 #[vq, .slice (some ⟨gr, 0, none⟩) nl nl], row 3 1 vq k (intsV (reqP M 0 RS))] ∧ Hid (pricesL M (M.n + 1 - k') k' out = slotPrices M nl)) (fun kk _ => M.n + 1 - (intOf kk).toNat)
        case atStart => exact ⟨1, List.replicate nl 0, Nat.le_refl _, by omega, rfl, List.length_replicate, HS.out, rfl⟩
        case round =>
          obtain ⟨k', out, hk1, hk2, rfl, hlen, S, he⟩ := hrel
          have HLN := Lib.hid hlen
          clear HS hlen
          have d1 : wr.cell? ⟨g, 5669, none⟩ = some (.int .i64 (M.n : Int)) := by rw [S.blk_cell (i := 1) rfl, List.getElem?_toArray, cM_n M]
          by_cases hle : k' ≤ M.n
          · have hle' : decide ((k' : Int) ≤ M.n) = true := by simpa using hle
            have d2 : wr.cell? ⟨g, 5450 + k', none⟩ = some (.int .i64 (M.slot k')) := by rw [S.blk_cell (i := 1) rfl, List.getElem?_toArray, cM_slot M (by omega)]
            have d3 : wr.cell? ⟨g, 5695 + k', none⟩ = some (.int .i64 (M.col.getD k' 0)) := by rw [S.blk_cell (i := 1) rfl, List.getElem?_toArray, cM_col HLEN.out (by omega)]
            have hsl := HSL.out k' hk1 hle
            have he2 := he.out
            rw [show M.n + 1 - k' = (M.n + 1 - (k' + 1)) + 1 by omega, pricesL] at he2
            generalize M.slot k' = s at *
            generalize M.col.getD k' 0 = pc at *
            clear he
            by_cases hs : 0 ≤ s
            · rw [if_pos hs] at he2
              have HE := Lib.hid he2
              obtain ⟨j, hj⟩ : ∃ j : Nat, s = j := ⟨s.toNat, by omega⟩
              subst hj
              rw [Int.toNat_natCast] at HE
              have hjl : j < nl := by omega
              have e1 : wr.cell? ⟨gr, j, none⟩ = some (.int .i64 (out.getD j 0)) := by
                rw [(S.row_own (i := 2) rfl).cellAt j (by omega), intsV_at _ _ (by rw [HLN.out]; omega)]
              have e2 := (S.row_own (i := 2) rfl).frozenAt j
              have kb := S.blk_cell (i := 3) rfl 1
              have HSS := Lib.hid S
              have tg : decide ((0 : Int) ≤ (j : Int)) = true := by simp
              clear he2 hs S hsl
              generalize out.getD j 0 = uo at *
              go_wp2_with fail
              refine wp_cls 10 (fun w' => ∃ n, w' = wr.drewN n) (by kernel_rfl) (by kernel_rfl) ⟨1, rfl⟩ ?_
              simp only [List.take_succ_cons, List.take_zero, List.drop_succ_cons, List.drop_zero]
              generalize hK : (fun w' => ∃ n, w' = wr.drewN n) = K
              intro hne
              have kw : ∀ y : Wd K, ∃ n, y.w = wr.drewN n := by subst hK; exact fun y => y.h
              have y0 : ∀ y : Wd K, y.w.cell? ⟨gb, 1, none⟩ = some (.slice (some ⟨gr, 0, none⟩) nl nl) := fun y => by obtain ⟨n, e⟩ := kw y; rw [e]; exact kb
              have y1 : ∀ y : Wd K, y.w.cell? ⟨g, 5695 + k', none⟩ = some (.int .i64 pc) := fun y => by obtain ⟨n, e⟩ := kw y; rw [e]; exact d3
              clear hK kb d3 d1 d2 e1 e2
              repeat (go_big_quiet_step ((fail)))
              refine wpQuiet_nil ?_
              intro y
              obtain ⟨nn, hyn⟩ := kw y
              have SY := HSS.out.drewN nn
              rw [← hyn] at SY
              clear y0 y1 kw hyn hne
              generalize y.w = wY at SY ⊢
              clear y
              have e1 : wY.cell? ⟨gr, j, none⟩ = some (.int .i64 (out.getD j 0)) := by
                rw [(SY.row_own (i := 2) rfl).cellAt j (by omega), intsV_at _ _ (by rw [HLN.out]; omega)]
              have e2 := (SY.row_own (i := 2) rfl).frozenAt j
              have S6 := SY.row_set (i := 2) rfl j (.int .i64 pc)
              simp only [List.set_cons_zero, List.set_cons_succ, intsV_set] at S6
              have HS6 := Lib.hid S6
              clear SY S6
              go_wp2_with fail
              go_roundw
              case rel => exact ⟨k' + 1, out.set j pc, by omega, by omega, by go_num, by rw [List.length_set]; exact HLN.out, HS6.out, HE.out⟩
              case measure => simp [intOf]; omega
            · rw [if_neg hs] at he2
              have HE := Lib.hid he2
              have tg : decide ((0 : Int) ≤ s) = false := by simpa using hs
              clear he2 hs hsl
              go_wp2
              go_roundw
              case rel => exact ⟨k' + 1, out, by omega, by omega, by go_num, HLN.out, S, HE.out⟩
              case measure => simp [intOf]; omega
          · have hle' : decide ((k' : Int) ≤ M.n) = false := by simp; omega
            have hkk : k' = M.n + 1 := by omega
            have he2 := he.out
            rw [hkk, Nat.sub_self, pricesL] at he2
            rw [he2] at S
            clear he2 hkk he
            obtain ⟨Aq, cq, rfl, _, _, _⟩ := (S.row_rd (i := 4) rfl).open_
            have b0 := S.blk_cell (i := 3) rfl 0
            have b1 := S.blk_cell (i := 3) rfl 1
            have k0 := S.blk_cell (i := 0) rfl 0
            have k1 := S.blk_cell (i := 0) rfl 1
            have f0 := S.blk_frozen (i := 0) rfl 0
            have f1 := S.blk_frozen (i := 0) rfl 1
            have SE := (S.blk_set (i := 0) rfl 0 (.slice Aq k cq)).blk_set (i := 0) rfl 1 (.slice (some ⟨gr, 0, none⟩) nl nl)
            have HSE := Lib.hid SE
            have HR0 : RetPrices W (⟨reqP M 0 RS, slotPrices M l.length⟩, 0) (.returned (.tuple #[.agg #[.slice Aq k cq, .slice (some ⟨gr, 0, none⟩) nl nl], .int .i64 0])) ((wr.setCell ⟨ga, 0, none⟩ (.slice Aq k cq)).setCell ⟨ga, 1, none⟩ (.slice (some ⟨gr, 0, none⟩) nl nl)) := by
              refine ⟨_, _, rfl, SE.bel, ?_, ?_⟩
              · have := (SE.row_rd (i := 4) rfl).now
                have e : (reqP M 0 RS).length = k := by rw [reqP_len, ← HRS.out, List.length_map]; exact HN.out.symm
                show Rd _ _ 1 _ (reqP M 0 RS).length (intsV (reqP M 0 RS))
                rw [e]
                exact this
              · have := (SE.row_rd (i := 2) rfl).now
                have e : (slotPrices M l.length).length = nl := by rw [slotPrices, pricesL_len, List.length_replicate]; exact HNL.out.symm
                show Rd _ _ 1 _ (slotPrices M l.length).length (intsV (slotPrices M l.length))
                rw [e, ← HNL.out]
                exact this
            rw [← HF.out] at HR0
            have HR := Lib.hid HR0
            clear HR0
            clear SE S
            go_wp2_with fail
            have e0 := HSE.out.blk_cell (i := 0) rfl 0
            have e1 := HSE.out.blk_cell (i := 0) rfl 1
            exact bodyPost_ret (v := .tuple #[.agg #[.slice Aq k cq, .slice (some ⟨gr, 0, none⟩) nl nl], .int .i64 0]) (res_prices _ _ ga _ _ _ rfl rfl e0 e1) rfl HR.out
end Go.Proofs.YtjfhncnpmelopaaGreatDoor
/- Walk of the reference: CheckProof. -/
namespace Go.Sheet
theorem bigE_outB (n : Int) : bigE n = if outB n (-999999999) 999999999 = true then 3 else 0 := rfl
/-- what CheckProof gives, step by step -/
structure CPs (l : List Slot) (rs : List RQ) (v : Int) (p : PR) (E : Int) : Prop where
  range : outB v (-999999999) 999999999 = true → E = 3
  shape : outB v (-999999999) 999999999 = false → (p.rq.length ≠ rs.length ∨ p.sl.length ≠ l.length) → E = 2
  big : outB v (-999999999) 999999999 = false → p.rq.length = rs.length → p.sl.length = l.length → (∃ x, (x ∈ p.rq ∨ x ∈ p.sl) ∧ outB x (-999999999) 999999999 = true) → E = 3
  bad : outB v (-999999999) 999999999 = false → p.rq.length = rs.length → p.sl.length = l.length → (∀ x ∈ p.rq, outB x (-999999999) 999999999 = false) → (∀ x ∈ p.sl, outB x (-999999999) 999999999 = false) →
    ((∃ x ∈ p.sl, x < 0) ∨ (∃ (k : Nat) (x : RQ) (n : Int), rs[k]? = some x ∧ p.rq[k]? = some n ∧ n < 0 ∧ x.g = false) ∨ (∃ (k : Nat) (x : RQ) (w : Wish), rs[k]? = some x ∧ w ∈ x.ws ∧ p.rq.getD k 0 + p.sl.getD w.s.toNat 0 < w.w) ∨ sumF p.rq + prSum p.sl l ≠ v) → E = 21
  good : outB v (-999999999) 999999999 = false → p.rq.length = rs.length → p.sl.length = l.length → (∀ x ∈ p.rq, outB x (-999999999) 999999999 = false) → (∀ x ∈ p.sl, outB x (-999999999) 999999999 = false) →
    (∀ x ∈ p.sl, 0 ≤ x) → (∀ (k : Nat) (x : RQ) (n : Int), rs[k]? = some x → p.rq[k]? = some n → ¬ (n < 0 ∧ x.g = false)) → (∀ (k : Nat) (x : RQ) (w : Wish), rs[k]? = some x → w ∈ x.ws → w.w ≤ p.rq.getD k 0 + p.sl.getD w.s.toNat 0) → sumF p.rq + prSum p.sl l = v → E = 0
theorem big_zero {ps : List Int} : eachF (fun _ n => bigE n) 0 ps = 0 ↔ ∀ x ∈ ps, outB x (-999999999) 999999999 = false := by
  rw [eachF_zero]
  constructor
  · intro h x hx
    obtain ⟨k, hk, rfl⟩ := List.mem_iff_getElem.1 hx
    have := h k _ (List.getElem?_eq_getElem hk)
    rw [bigE_outB] at this
    cases hb : outB ps[k] (-999999999) 999999999 with
    | false => rfl
    | true => rw [hb] at this; simp at this
  · intro h i x hx
    rw [bigE_outB, h x (List.mem_of_getElem? hx)]; rfl
theorem big_vals (ps : List Int) : ∀ k, eachF (fun _ n => bigE n) k ps = 0 ∨ eachF (fun _ n => bigE n) k ps = 3 := by
  induction ps with
  | nil => intro k; exact .inl rfl
  | cons x ps ih =>
    intro k
    rw [eachF]
    split
    · rw [bigE_outB]; split
      · exact .inr rfl
      · exact .inl rfl
    · exact ih (k + 1)
theorem cps_of {l : List Slot} {rs : List RQ} (h0 : checkRequests l rs = 0) (v : Int) (p : PR) : CPs l rs v p (checkProof l rs v p) := by
  have e1 : outB v (-999999999) 999999999 = true → proofE1 l rs v p = 3 := fun h => by rw [proofE1, h0, outE_outB, h]; rfl
  have e2 : outB v (-999999999) 999999999 = false → (p.rq.length ≠ rs.length ∨ p.sl.length ≠ l.length) → proofE1 l rs v p = 2 := fun h hl => by
    have : (decide (p.rq.length ≠ rs.length) || decide (p.sl.length ≠ l.length)) = true := by rcases hl with hl | hl <;> simp [hl]
    rw [proofE1, h0, outE_outB, h, this]; rfl
  have e3 : outB v (-999999999) 999999999 = false → p.rq.length = rs.length → p.sl.length = l.length → proofE1 l rs v p = 0 := fun h h1 h2 => by
    have : (decide (p.rq.length ≠ rs.length) || decide (p.sl.length ≠ l.length)) = false := by simp [h1, h2]
    rw [proofE1, h0, outE_outB, h, this]; rfl
  have e4 : (∀ x ∈ p.rq, outB x (-999999999) 999999999 = false) → (∀ x ∈ p.sl, outB x (-999999999) 999999999 = false) → proofE2 p = 0 := fun h1 h2 => by
    rw [proofE2, big_zero.2 h1, big_zero.2 h2]; rfl
  have e5 : (∃ x, (x ∈ p.rq ∨ x ∈ p.sl) ∧ outB x (-999999999) 999999999 = true) → proofE2 p = 3 := by
    rintro ⟨x, hx, hb⟩
    rw [proofE2]
    rcases big_vals p.rq 0 with h1 | h1
    · rcases big_vals p.sl 0 with h2 | h2
      · rcases hx with hx | hx
        · have := big_zero.1 h1 x hx; rw [hb] at this; cases this
        · have := big_zero.1 h2 x hx; rw [hb] at this; cases this
      · rw [h1, h2]; rfl
    · rw [h1]; rfl
  refine ⟨fun h => ?_, fun h hl => ?_, fun h h1 h2 hx => ?_, fun h h1 h2 a1 a2 hx => ?_, fun h h1 h2 a1 a2 g1 g2 g3 g4 => ?_⟩
  · rw [checkProof, if_pos (by rw [e1 h]; decide), e1 h]
  · rw [checkProof, if_pos (by rw [e2 h hl]; decide), e2 h hl]
  · rw [checkProof, if_neg (by rw [e3 h h1 h2]; decide), if_pos (by rw [e5 hx]; decide), e5 hx]
  · rw [checkProof, if_neg (by rw [e3 h h1 h2]; decide), if_neg (by rw [e4 a1 a2]; decide)]
    by_cases c1 : prNeg rs p.rq = true
    · rw [if_pos c1]
    · rw [if_neg c1]
      by_cases c2 : prLow p.sl rs p.rq = true
      · rw [if_pos c2]
      · rw [if_neg c2]
        rcases hx with ⟨x, hx, hn⟩ | ⟨k, x, n, hx, hn, hh⟩ | hx | hx
        · have : (p.sl.any fun n => decide (n < 0)) = true := List.any_eq_true.2 ⟨x, hx, by simpa using hn⟩
          rw [this, Bool.or_true]; rfl
        · exact absurd (prNeg_stop hx hn hh) c1
        · exact absurd ((prLow_iff h1).2 hx) c2
        · have : decide (sumF p.rq + prSum p.sl l ≠ v) = true := by simpa using hx
          rw [this, Bool.true_or]; rfl
  · rw [checkProof, if_neg (by rw [e3 h h1 h2]; decide), if_neg (by rw [e4 a1 a2]; decide), if_neg (by rw [prNeg_end g2]; decide), if_neg]
    · have c1 : decide (sumF p.rq + prSum p.sl l ≠ v) = false := by simpa using g4
      have c2 : (p.sl.any fun n => decide (n < 0)) = false := List.any_eq_false.2 fun x hx => by have := g1 x hx; simp; omega
      rw [c1, c2]; rfl
    · intro hh
      obtain ⟨k, x, w, hx, hw, hlt⟩ := (prLow_iff h1).1 hh
      have := g3 k x w hx hw
      omega
theorem sumF_take {l : List Int} {k : Nat} {x : Int} (h : l[k]? = some x) : sumF (l.take (k + 1)) = sumF (l.take k) + x := by
  rw [take_at h, sumF_append, sumF, sumF]; omega
end Go.Sheet
namespace Go.Proofs.YtjfhncnpmelopaaGreatDoor
open Go.RowKit Go.Mem Go.Sheet
set_option maxRecDepth 100000 in
set_option maxHeartbeats 4000000 in
theorem refCheckProof_any (W : World) (vl vr vq vs : Value) (nl n : Nat) (l : List Slot) (rs : List Req) (v : Int) (p : PR) (hl : Rd W (· < W.heap.size) 3 vl nl (l.flatMap Slot.cells)) (h : RdReqs W (· < W.heap.size) vr n rs)
    (hq : Rd W (· < W.heap.size) 1 vq p.rq.length (p.rq.map (Value.int .i64))) (hs : Rd W (· < W.heap.size) 1 vs p.sl.length (p.sl.map (Value.int .i64))) (h0 : checkRequests l (rs.map Req.rq) = 0) :
    Calls Tryz.prog 40 #[vl, vr, .int .i64 v, .agg #[vq, vs]] W fun e w' => e = .returned (.int .i64 (checkProof l (rs.map Req.rq) v p)) ∧ Below W.heap.size W w' := by
  have HNR := Lib.hid (h.1.count (f := Req.cells) (size := 3) (fun _ => rfl) (by decide))
  have HNL := Lib.hid (hl.count (f := Slot.cells) (size := 3) (fun _ => rfl) (by decide))
  have ok := okay_of h0
  have hn24 : n ≤ 24 := by have := ok.nr; rw [List.length_map] at this; rw [HNR.out]; exact this
  have hnl24 : nl ≤ 24 := by have := ok.nl; rw [HNL.out]; exact this
  have HOK := Lib.hid ok
  have HCP := Lib.hid (cps_of h0 v p)
  generalize HRS : rs.map Req.rq = RS at *
  have HRS := Lib.hid HRS
  have hrl : RS.length = n := by rw [← HRS.out, List.length_map]; exact HNR.out.symm
  have HRL := Lib.hid hrl
  generalize checkProof l RS v p = E at *
  have hb1 := (Below.refl W.heap.size W).alloc (Nat.le_refl _) (.cells #[vq, vs] 81)
  have hql := hq.le
  have hsl := hs.le
  obtain ⟨Ar, cr, rfl, _, _, _⟩ := h.1.open_
  obtain ⟨Al, cl, rfl, _, _, _⟩ := hl.open_
  obtain ⟨Aq, cq, rfl, _, _, _⟩ := hq.open_
  obtain ⟨As, cs, rfl, _, _, _⟩ := hs.open_
  have HR := Lib.hid (reqs_later h hb1)
  have HL := Lib.hid (hl.later hb1)
  have HQ := Lib.hid (hq.later hb1)
  have HS := Lib.hid (hs.later hb1)
  generalize HQN : p.rq.length = nq at *
  generalize HSN : p.sl.length = ns at *
  have HQN := Lib.hid HQN
  have HSN := Lib.hid HSN
  have k0 : (W.alloc (.cells #[.slice Aq nq cq, .slice As ns cs] 81)).cell? ⟨W.heap.size, 0, none⟩ = some (.slice Aq nq cq) := by simp
  have k1 : (W.alloc (.cells #[.slice Aq nq cq, .slice As ns cs] 81)).cell? ⟨W.heap.size, 1, none⟩ = some (.slice As ns cs) := by simp
  have HB1 := Lib.hid hb1
  clear h hl hq hs h0 ok hrl hb1
  go_enter Tryz.func40, Tryz.ntmps40
  go_wp2_with fail
  generalize W.alloc (.cells #[.slice Aq nq cq, .slice As ns cs] 81) = w1 at *
  have hg := World.block_lt_of_cell? _ _ k0
  have HK : Hid (∀ w', Below w1.heap.size w1 w' → w'.cell? ⟨W.heap.size, 0, none⟩ = some (.slice Aq nq cq) ∧ w'.cell? ⟨W.heap.size, 1, none⟩ = some (.slice As ns cs)) := fun w' hb => ⟨(hb.cell (p := ⟨W.heap.size, 0, none⟩) hg).trans k0, (hb.cell (p := ⟨W.heap.size, 1, none⟩) hg).trans k1⟩
  have HBW : Hid (∀ w', Below w1.heap.size w1 w' → Below W.heap.size W w') := fun w' hb => HB1.out.trans (hb.mono HB1.out.size)
  clear hg k0 k1
  generalize W.heap.size = g at HK ⊢
  obtain ⟨k0, k1⟩ := HK.out _ (Below.refl _ _)
  refine (outB_any _ _ _ _).mono ?_
  rintro e w' ⟨rfl, rfl⟩
  by_cases hv : outB v (-999999999) 999999999 = true
  · have HE := Lib.hid (HCP.out.range hv)
    have hbW := HBW.out w1 (Below.refl _ _)
    go_wp2
    go_ret
    exact ⟨ret_i64 HE.out.symm, hbW⟩
  have hv' : outB v (-999999999) 999999999 = false := by simpa using hv
  have HV := Lib.hid hv'
  by_cases hlen : nq = n ∧ ns = nl
  case neg =>
    have HE := Lib.hid (HCP.out.shape hv' (by rw [HQN.out, HSN.out, HRL.out, ← HNL.out]; omega))
    have hbW := HBW.out w1 (Below.refl _ _)
    by_cases hq1 : nq = n
    · have t1 : ((nq : Int) != (n : Int)) = false := by simp; omega
      have t2 : ((ns : Int) != (nl : Int)) = true := by simp; omega
      clear hq1 hlen
      go_wp2
      go_ret
      exact ⟨ret_i64 HE.out.symm, hbW⟩
    · have t1 : ((nq : Int) != (n : Int)) = true := by simp; omega
      clear hq1 hlen
      go_wp2
      go_ret
      exact ⟨ret_i64 HE.out.symm, hbW⟩
  obtain ⟨rfl, rfl⟩ := hlen
  have HCPB := Lib.hid (HCP.out.big hv' (by rw [HQN.out, HRL.out]) (by rw [HSN.out, HNL.out]))
  have HCPX := Lib.hid (HCP.out.bad hv' (by rw [HQN.out, HRL.out]) (by rw [HSN.out, HNL.out]))
  have HCPG := Lib.hid (HCP.out.good hv' (by rw [HQN.out, HRL.out]) (by rw [HSN.out, HNL.out]))
  clear HCP hv
  have t1 : ((nq : Int) != (nq : Int)) = false := by simp
  have t2 : ((ns : Int) != (ns : Int)) = false := by simp
  go_wp2_with fail
  clear t1 t2
  go_loopw [10, 9] (fun i s w' => ∃ (k q : Nat) (t : Int), k ≤ nq ∧ i = .int .i64 k ∧ s = .int .i64 t ∧ w' = w1.drewN q ∧ (-999999999 * (k : Int) ≤ t ∧ t ≤ 999999999 * (k : Int)) ∧ Hid (t = sumF (p.rq.take k)) ∧ Hid (∀ x ∈ p.rq.take k, outB x (-999999999) 999999999 = false)) (fun i _ _ => nq - (intOf i).toNat)
  case atStart => exact ⟨0, 0, 0, Nat.zero_le _, rfl, rfl, rfl, by omega, rfl, fun x hx => by simp at hx⟩
  case round =>
    obtain ⟨k, q, t, hk, rfl, rfl, rfl, htb, HT, HA⟩ := hrel
    have hbq : Below w1.heap.size w1 (w1.drewN q) := below_drewN (Below.refl _ _) q
    have c0 : (w1.drewN q).cell? ⟨g, 0, none⟩ = some (.slice Aq nq cq) := k0
    by_cases hlt : k < nq
    · obtain ⟨b, o, x, rfl, hx, cx⟩ := (HQ.out.later hbq).int hlt
      have HX := Lib.hid hx
      have HSM := Lib.hid (sumF_take hx)
      have HBQ := Lib.hid hbq
      clear hx hbq
      by_cases hxo : outB x (-999999999) 999999999 = true
      · have HE := Lib.hid (HCPB.out ⟨x, .inl (List.mem_of_getElem? HX.out), hxo⟩)
        have hbW := HBW.out _ HBQ.out
        go_wp2_with (go_at_call 52; refine (outB_any _ _ _ _).mono ?_; rintro e w' ⟨rfl, rfl⟩)
        go_ret
        exact ⟨ret_i64 HE.out.symm, hbW⟩
      · have hxo' : outB x (-999999999) 999999999 = false := by simpa using hxo
        have hxb := outB_false.1 hxo'
        have HXO := Lib.hid hxo'
        clear hxo
        go_wp2_with (go_at_call 52; refine (outB_any _ _ _ _).mono ?_; rintro e w' ⟨rfl, rfl⟩)
        go_roundw
        case rel => exact ⟨k + 1, q, t + x, by omega, by go_num, rfl, rfl, by push_cast; omega, by show _ = _; rw [HSM.out, HT.out], fun y hy => by
          rw [take_at HX.out] at hy
          rcases List.mem_append.1 hy with hy | hy
          · exact HA.out y hy
          · obtain rfl := List.mem_singleton.1 hy; exact HXO.out⟩
        case measure => simp [intOf]; omega
    · obtain rfl : k = nq := by omega
      have hall := HA.out
      have hsum := HT.out
      rw [List.take_of_length_le (by rw [HQN.out]; exact Nat.le_refl _)] at hall hsum
      have HALL := Lib.hid hall
      have HSUM := Lib.hid hsum
      have hk24 : (k : Int) ≤ 24 := by omega
      have tkn : decide ((k : Int) < (k : Int)) = false := by simp
      clear hall hsum HA HT c0
      generalize hw2 : w1.drewN q = w2 at *
      have k0' : w2.cell? ⟨g, 0, none⟩ = some (.slice Aq k cq) := by rw [← hw2]; exact k0
      have k1' : w2.cell? ⟨g, 1, none⟩ = some (.slice As ns cs) := by rw [← hw2]; exact k1
      have HBQ := Lib.hid hbq
      clear hw2 hbq k0 k1
      go_wp2_with fail
      clear tkn
      go_loopw [11, 9] (fun i s w' => ∃ (j q : Nat) (u : Int), j ≤ ns ∧ i = .int .i64 j ∧ s = .int .i64 u ∧ w' = w2.drewN q ∧ (-23999999976 - 7999999992 * (j : Int) ≤ u ∧ u ≤ 23999999976 + 7999999992 * (j : Int)) ∧ Hid (u + prSum (p.sl.drop j) (l.drop j) = sumF p.rq + prSum p.sl l) ∧ Hid (∀ x ∈ p.sl.take j, outB x (-999999999) 999999999 = false)) (fun i _ _ => ns - (intOf i).toNat)
      case atStart => exact ⟨0, 0, t, Nat.zero_le _, rfl, rfl, rfl, by omega, by show _ = _; rw [List.drop_zero, List.drop_zero, HSUM.out], fun x hx => by simp at hx⟩
      case round =>
        obtain ⟨j, q', u, hj, rfl, rfl, rfl, hub, HU, HA⟩ := hrel
        have hbq : Below w1.heap.size w1 (w2.drewN q') := below_drewN HBQ.out q'
        have c1 : (w2.drewN q').cell? ⟨g, 1, none⟩ = some (.slice As ns cs) := k1'
        by_cases hjl : j < ns
        · obtain ⟨b, o, x, rfl, hx, cx⟩ := (HS.out.later hbq).int hjl
          obtain ⟨b2, o2, y, rfl, hy, x0, x1, x2⟩ := (HL.out.later hbq).elem3 (k := j) (fun s : Slot => .int .i64 s.m) (fun s : Slot => .int .i64 s.h) (fun s : Slot => .int .i64 s.p) (fun _ => rfl) hjl
          have hyb := (HOK.out.slot y (List.mem_of_getElem? hy)).2.2.2.2
          have HX := Lib.hid hx
          have HG := Lib.hid (prSum_go hx hy HU.out)
          have HBQ2 := Lib.hid hbq
          clear hx hy hbq x0 x1
          by_cases hxo : outB x (-999999999) 999999999 = true
          · have HE := Lib.hid (HCPB.out ⟨x, .inr (List.mem_of_getElem? HX.out), hxo⟩)
            have hbW := HBW.out _ HBQ2.out
            go_wp2_with (go_at_call 52; refine (outB_any _ _ _ _).mono ?_; rintro e w' ⟨rfl, rfl⟩)
            go_ret
            exact ⟨ret_i64 HE.out.symm, hbW⟩
          · have hxo' : outB x (-999999999) 999999999 = false := by simpa using hxo
            have hmb := outB_false.1 hxo'
            have HXO := Lib.hid hxo'
            have hmul : -7999999992 ≤ x * y.p ∧ x * y.p ≤ 7999999992 := by
              obtain ⟨a1, a2⟩ := hyb
              rcases Int.le_total 0 x with h | h
              · have h1 := Int.mul_le_mul hmb.2 a2 (by omega) (by omega)
                have h2 := Int.mul_nonneg h (show 0 ≤ y.p by omega)
                omega
              · have h1 := Int.mul_le_mul (show -x ≤ 999999999 by omega) a2 (by omega) (by omega)
                have h2 := Int.mul_nonneg (show 0 ≤ -x by omega) (show 0 ≤ y.p by omega)
                rw [Int.neg_mul] at h1 h2
                omega
            have hmm1 : IntKind.i64.wrap (x * y.p) = x * y.p := IntWalk.i64_in _ (by omega)
            clear hxo
            generalize hmx : x * y.p = mx at *
            generalize hw3 : w2.drewN q' = w3 at *
            have HW3 := Lib.hid hw3
            clear hw3
            go_wp2_with (go_at_call 52; refine (outB_any _ _ _ _).mono ?_; rintro e w' ⟨rfl, rfl⟩)
            go_quiet (fail)
            go_wp2
            go_roundw
            case rel => exact ⟨j + 1, q' + nq, u + mx, by omega, by go_num, rfl, by rw [← HW3.out]; first | rfl | exact World.drewN_drewN _ _ _, by push_cast; omega, HG.out, fun z hz => by
              rw [take_at HX.out] at hz
              rcases List.mem_append.1 hz with hz | hz
              · exact HA.out z hz
              · obtain rfl := List.mem_singleton.1 hz; exact HXO.out⟩
            case measure => simp [intOf]; omega
        · obtain rfl : j = ns := by omega
          have hall := HA.out
          rw [List.take_of_length_le (by rw [HSN.out]; exact Nat.le_refl _)] at hall
          have hsum := prSum_end (ps := p.sl) (l := l) (k := j) (by rw [HSN.out]; exact Nat.le_refl _) HU.out
          have HALS := Lib.hid hall
          have HSM2 := Lib.hid hsum
          have tjn : decide ((j : Int) < (j : Int)) = false := by simp
          have HCX := Lib.hid (HCPX.out HALL.out HALS.out)
          have HCG := Lib.hid (HCPG.out HALL.out HALS.out)
          clear hall hsum HA HU c1 HCPB HCPX HCPG
          generalize hw3 : w2.drewN q' = w3 at *
          have k0 : w3.cell? ⟨g, 0, none⟩ = some (.slice Aq k cq) := by rw [← hw3]; exact k0'
          have k1 : w3.cell? ⟨g, 1, none⟩ = some (.slice As j cs) := by rw [← hw3]; exact k1'
          have HBQ3 := Lib.hid hbq
          clear hw3 hbq k0' k1'
          go_wp2_with fail
          clear tjn
          go_loop [12] (fun i => ∃ m : Nat, m ≤ j ∧ i = .int .i64 m ∧ Hid (∀ x ∈ p.sl.take m, 0 ≤ x)) (fun i => j - (intOf i).toNat)
          case atStart => exact ⟨0, Nat.zero_le _, rfl, fun x hx => by simp at hx⟩
          case round =>
            obtain ⟨m, hm, rfl, HA⟩ := hrel
            by_cases hml : m < j
            · obtain ⟨b, o, x, hA, hx, cx⟩ := (HS.out.later HBQ3.out).int hml
              subst hA
              have HX := Lib.hid hx
              clear hx
              by_cases hx0 : x < 0
              · have HE := Lib.hid (HCX.out (.inl ⟨x, List.mem_of_getElem? HX.out, hx0⟩))
                have hbW := HBW.out _ HBQ3.out
                go_wp2
                go_ret
                exact ⟨ret_i64 HE.out.symm, hbW⟩
              · have hx1 : 0 ≤ x := by omega
                go_wp2
                go_round
                case rel => exact ⟨m + 1, by omega, by go_num, fun z hz => by
                  rw [take_at HX.out] at hz
                  rcases List.mem_append.1 hz with hz | hz
                  · exact HA.out z hz
                  · obtain rfl := List.mem_singleton.1 hz; exact hx1⟩
                case measure => simp [intOf]; omega
            · obtain rfl : m = j := by omega
              have hpos := HA.out
              rw [List.take_of_length_le (by rw [HSN.out]; exact Nat.le_refl _)] at hpos
              have HPOS := Lib.hid hpos
              have tmn : decide ((m : Int) < (m : Int)) = false := by simp
              clear hpos HA
              go_wp2_with fail
              clear tmn
              go_loopw [13] (fun i w' => ∃ a : Nat, a ≤ k ∧ i = .int .i64 a ∧ Below w1.heap.size w1 w' ∧ Hid (∀ (i : Nat) (x : RQ) (n : Int), i < a → RS[i]? = some x → p.rq[i]? = some n → ¬ (n < 0 ∧ x.g = false)) ∧ Hid (∀ (i : Nat) (x : RQ) (w : Wish), i < a → RS[i]? = some x → w ∈ x.ws → w.w ≤ p.rq.getD i 0 + p.sl.getD w.s.toNat 0)) (fun i _ => k - (intOf i).toNat)
              case atStart => exact ⟨0, Nat.zero_le _, rfl, HBQ3.out, fun i x n hi => absurd hi (by omega), fun i x w hi => absurd hi (by omega)⟩
              case round =>
                obtain ⟨a, ha, rfl, hbw, HA1, HA2⟩ := hrel
                clear k0 k1
                obtain ⟨k0, k1⟩ := HK.out _ hbw
                have HBW1 := Lib.hid hbw
                by_cases hal : a < k
                · obtain ⟨bx, ox, x, hAx, hx, d0, d1, d2⟩ := (HR.out.1.later hbw).elem3 (k := a) (fun s : Req => .string s.name) (fun s : Req => .bool s.g) (fun s : Req => .slice s.wa s.wn s.wc) (fun _ => rfl) hal
                  subst hAx
                  obtain ⟨bp, op, pa, hAp, hpa, cpa⟩ := (HQ.out.later hbw).int hal
                  subst hAp
                  have hxq : RS[a]? = some x.rq := by rw [← HRS.out, List.getElem?_map, hx]; rfl
                  have hwsh := HOK.out.wish x.rq (List.mem_of_getElem? hxq)
                  have HWSH := Lib.hid hwsh
                  have hws := (HR.out.2 x (List.mem_of_getElem? hx)).1
                  have HXQ := Lib.hid hxq
                  have HPA := Lib.hid hpa
                  have hpab := outB_false.1 (HALL.out pa (List.mem_of_getElem? hpa))
                  obtain ⟨name, xg, wa, wn, wc, ws⟩ := x
                  change Rd w1 (· < w1.heap.size) 2 (.slice wa wn wc) wn (ws.flatMap Wish.cells) at hws
                  have HWS := Lib.hid hws
                  have HWN := Lib.hid (hws.count (f := Wish.cells) (size := 2) (fun _ => rfl) (by decide))
                  have hwl := hws.le
                  dsimp only at d0 d1 d2
                  have zx := World.block_lt_of_cell? _ _ d2
                  have zp := World.block_lt_of_cell? _ _ cpa
                  clear hx hxq hpa hwsh hws d0
                  have hng : (pa < 0 ∧ xg = false) ∨ ¬ (pa < 0 ∧ xg = false) := Classical.em _
                  rcases hng with ⟨hp0, rfl⟩ | hng
                  · have HE := Lib.hid (HCX.out (.inr (.inl ⟨a, _, pa, HXQ.out, HPA.out, hp0, rfl⟩)))
                    have tp : decide (pa < 0) = true := by simpa using hp0
                    have hbW := HBW.out _ hbw
                    clear hp0 hbw
                    go_wp2
                    go_ret
                    exact ⟨ret_i64 HE.out.symm, hbW⟩
                  · have HNG := Lib.hid hng
                    have HCALL : Hid (∀ w', Below wr.heap.size wr w' → w'.cell? ⟨bx, ox + a * 3 + 2, none⟩ = some (.slice wa wn wc) ∧ w'.cell? ⟨bp, op + a, none⟩ = some (.int .i64 pa)) := fun w' hb => ⟨(hb.cell (p := ⟨bx, ox + a * 3 + 2, none⟩) zx).trans d2, (hb.cell (p := ⟨bp, op + a, none⟩) zp).trans cpa⟩
                    have tst : xg = true ∨ (xg = false ∧ decide (pa < 0) = false) := by
                      cases xg with
                      | true => exact .inl rfl
                      | false =>
                        have hp1 : ¬ pa < 0 := fun h => hng ⟨h, rfl⟩
                        exact .inr ⟨rfl, by simpa using hp1⟩
                    clear hng zx zp
                    have HWR : Hid (wr = wr) := rfl
                    rcases tst with rfl | ⟨rfl, tp⟩
                    all_goals
                      go_wp2_with fail
                      go_loopw [14] (fun i w' => ∃ c : Nat, c ≤ wn ∧ i = .int .i64 c ∧ Below wr.heap.size wr w' ∧ Hid (∀ w ∈ ws.take c, w.w ≤ p.rq.getD a 0 + p.sl.getD w.s.toNat 0)) (fun i _ => wn - (intOf i).toNat)
                      case atStart => exact ⟨0, Nat.zero_le _, rfl, Below.refl _ _, fun w hw => by simp at hw⟩
                      case round =>
                        obtain ⟨c, hc, rfl, hbc, HAC⟩ := hrel
                        clear d1 d2 cpa k0 k1
                        obtain ⟨d2, cpa⟩ := HCALL.out _ hbc
                        have hbw2 := HBW1.out.trans (hbc.mono HBW1.out.size)
                        obtain ⟨k0, k1⟩ := HK.out _ hbw2
                        have HBW2 := Lib.hid hbw2
                        have HBC := Lib.hid hbc
                        by_cases hcl : c < wn
                        · obtain ⟨b3, o3, y, hA3, hy, e0, e1⟩ := (HWS.out.later hbw2).elem2 (k := c) (fun s : Wish => .int .i64 s.s) (fun s : Wish => .int .i64 s.w) (fun _ => rfl) hcl
                          subst hA3
                          obtain ⟨⟨hy0, hyl⟩, hyw⟩ := HWSH.out y (List.mem_of_getElem? hy)
                          obtain ⟨t, ht⟩ : ∃ t : Nat, y.s = (t : Int) := ⟨y.s.toNat, by omega⟩
                          have htl : t < m := by have := HNL.out; omega
                          obtain ⟨bs, os, ps, hAs, hps, cps⟩ := (HS.out.later hbw2).int (k := t) htl
                          subst hAs
                          have hpsb := outB_false.1 (HALS.out ps (List.mem_of_getElem? hps))
                          have HPT : Hid (p.sl.getD y.s.toNat 0 = ps) := by show _ = _; rw [ht, Int.toNat_natCast, List.getD_eq_getElem?_getD, hps, Option.getD_some]
                          have HPQ : Hid (p.rq.getD a 0 = pa) := by show _ = _; rw [List.getD_eq_getElem?_getD, HPA.out, Option.getD_some]
                          have HY := Lib.hid hy
                          obtain ⟨ys, yw⟩ := y
                          dsimp only at e0 e1 ht hyw hy0 hyl HPT
                          subst ht
                          have hba := (Below.refl _ _).alloc (Nat.le_refl wr.heap.size) (.cells #[.int .i64 (t : Int), .int .i64 yw] 125)
                          have z0 := World.block_lt_of_cell? _ _ cpa
                          have z1 := World.block_lt_of_cell? _ _ k0
                          have z2 := World.block_lt_of_cell? _ _ cps
                          have a0 := (hba.cell (p := ⟨bp, op + a, none⟩) z0).trans cpa
                          have a1 := (hba.cell (p := ⟨g, 0, none⟩) z1).trans k0
                          have a2 := (hba.cell (p := ⟨g, 1, none⟩) z1).trans k1
                          have a3 := (hba.cell (p := ⟨bs, os + t, none⟩) z2).trans cps
                          have HBA := Lib.hid hba
                          clear hy hps hba z0 z1 z2 hyl hy0
                          go_wp2_with fail
                          have a4 : (wr.alloc (.cells #[.int .i64 (t : Int), .int .i64 yw] 125)).cell? ⟨wr.heap.size, 0, none⟩ = some (.int .i64 (t : Int)) := by simp
                          have a5 : (wr.alloc (.cells #[.int .i64 (t : Int), .int .i64 yw] 125)).cell? ⟨wr.heap.size, 1, none⟩ = some (.int .i64 yw) := by simp
                          clear e0 e1 cpa k0 k1 cps d2
                          generalize wr.alloc (.cells #[.int .i64 (t : Int), .int .i64 yw] 125) = wA at *
                          generalize wr.heap.size = gx at a4 a5 ⊢
                          by_cases hlow : pa + ps < yw
                          · have HE := Lib.hid (HCX.out (.inr (.inr (.inl ⟨a, _, ⟨t, yw⟩, HXQ.out, List.mem_of_getElem? HY.out, by rw [HPQ.out, HPT.out]; exact hlow⟩))))
                            go_quiet (fail)
                            have hbW := HBW.out (wA.drewN nq) (HBW2.out.trans (((HBA.out).trans (below_drewN (Below.refl _ _) nq)).mono HBW2.out.size))
                            go_wp2
                            go_ret
                            exact ⟨ret_i64 HE.out.symm, hbW⟩
                          · have tlow : decide (pa + ps < yw) = false := by simpa using hlow
                            go_quiet (fail)
                            go_wp2
                            go_roundw
                            case rel => exact ⟨c + 1, by omega, by go_num, (HBC.out.trans (((HBA.out).trans (below_drewN (Below.refl _ _) nq)).mono HBC.out.size)), fun w hw => by
                              rw [take_at HY.out] at hw
                              rcases List.mem_append.1 hw with hw | hw
                              · exact HAC.out w hw
                              · obtain rfl := List.mem_singleton.1 hw
                                rw [HPQ.out, HPT.out]; show yw ≤ _; omega⟩
                            case measure => simp [intOf]; omega
                        · obtain rfl : c = wn := by omega
                          have tcc : decide ((c : Int) < (c : Int)) = false := by simp
                          have hac := HAC.out
                          rw [List.take_of_length_le (by rw [← HWN.out]; exact Nat.le_refl _)] at hac
                          have HAC2 := Lib.hid hac
                          clear hac HAC
                          go_wp2
                          go_roundw
                          case rel => exact ⟨a + 1, by omega, by go_num, HBW2.out, fun i x n hi hx hn => by
                            by_cases hia : i < a
                            · exact HA1.out i x n hia hx hn
                            · obtain rfl : i = a := by omega
                              cases Option.some.inj (hx.symm.trans HXQ.out)
                              cases Option.some.inj (hn.symm.trans HPA.out)
                              exact fun h => HNG.out ⟨h.1, by first | exact h.2 | trivial⟩, fun i x w hi hx hw => by
                            by_cases hia : i < a
                            · exact HA2.out i x w hia hx hw
                            · obtain rfl : i = a := by omega
                              cases Option.some.inj (hx.symm.trans HXQ.out)
                              exact HAC2.out w hw⟩
                          case measure => simp [intOf]; omega
                · obtain rfl : a = k := by omega
                  have tak : decide ((a : Int) < (a : Int)) = false := by simp
                  have HCG2 := Lib.hid (HCG.out HPOS.out (fun i x n hx hn => HA1.out i x n (by have := (List.getElem?_eq_some_iff.1 hx).1; have := HRL.out; omega) hx hn) (fun i x w hx hw => HA2.out i x w (by have := (List.getElem?_eq_some_iff.1 hx).1; have := HRL.out; omega) hx hw))
                  have hbW := HBW.out _ hbw
                  by_cases hu : u = v
                  · have HE := Lib.hid (HCG2.out (by rw [← HSM2.out]; exact hu))
                    have tu : (u != v) = false := by simpa using hu
                    clear hu
                    go_wp2
                    go_ret
                    exact ⟨ret_i64 HE.out.symm, hbW⟩
                  · have HE := Lib.hid (HCX.out (.inr (.inr (.inr (by rw [← HSM2.out]; exact hu)))))
                    have tu : (u != v) = true := by simpa using hu
                    clear hu
                    go_wp2
                    go_ret
                    exact ⟨ret_i64 HE.out.symm, hbW⟩
end Go.Proofs.YtjfhncnpmelopaaGreatDoor
/- The law SheetProofs, walked. -/
namespace Go.Proofs.YtjfhncnpmelopaaGreatDoor
open Go.RowKit Go.Mem Go.Sheet
theorem Own.checkProof {W w : World} {vx vy vq vs : Value} {nl n : Nat} {l : List Slot} {RS : List RQ} {p : PR} (h : Own W w vx vy nl n l RS) (h0 : checkRequests l RS = 0) (v : Int) (hp : RdPrices w vq vs p) :
    Calls Tryz.prog 40 #[vx, vy, .int .i64 v, .agg #[vq, vs]] w fun e w' => e = .returned (.int .i64 (Go.Sheet.checkProof l RS v p)) ∧ Below w.heap.size w w' := by
  obtain ⟨rs', h1, h2⟩ := h.y
  subst h1
  exact refCheckProof_any w vx vy vq vs nl n l rs' v p h.x h2 hp.1 hp.2 h0
set_option maxRecDepth 100000 in
set_option maxHeartbeats 0 in
theorem sheetProofs_any (W : World) (vl : Value) (nl : Nat) (l : List Slot) (vr : Value) (n : Nat) (rs : List Req) (z : Int) (vq vs : Value) (p : PR) (hl : Rd W (· < W.heap.size) 3 vl nl (l.flatMap Slot.cells)) (hrl : nl * 24 ≤ 140737488351232)
    (h : RdReqs W (· < W.heap.size) vr n rs) (hrr : n * 48 ≤ 140737488351232) (hrw : ∀ r ∈ rs, r.wn * 16 ≤ 140737488351232) (hp : RdPrices W vq vs p) (hz : (Lit.int .i64 z).wf = true) :
    Calls Tryz.prog 7 #[vl, vr, .agg #[.int .i64 z, vq, vs]] W fun e w' => e = .returned (.bool true) ∧ Below W.heap.size W w' := by
  have hb0 := (Below.refl W.heap.size W).alloc (Nat.le_refl _) (.cells #[.int .i64 z, vq, vs] 76)
  have HB0 := Lib.hid hb0
  obtain ⟨Ar, cr, rfl, _, _, _⟩ := h.1.open_
  have hql := hp.1.le
  have hsl := hp.2.le
  obtain ⟨Aq, cq, rfl, _, _, _⟩ := hp.1.open_
  obtain ⟨As, cs, rfl, _, _, _⟩ := hp.2.open_
  have k0 : (W.alloc (.cells #[.int .i64 z, .slice Aq p.rq.length cq, .slice As p.sl.length cs] 76)).cell? ⟨W.heap.size, 0, none⟩ = some (.int .i64 z) := by simp
  have k1 : (W.alloc (.cells #[.int .i64 z, .slice Aq p.rq.length cq, .slice As p.sl.length cs] 76)).cell? ⟨W.heap.size, 1, none⟩ = some (.slice Aq p.rq.length cq) := by simp
  have k2 : (W.alloc (.cells #[.int .i64 z, .slice Aq p.rq.length cq, .slice As p.sl.length cs] 76)).cell? ⟨W.heap.size, 2, none⟩ = some (.slice As p.sl.length cs) := by simp
  have HL := Lib.hid (hl.later hb0)
  have HR := Lib.hid (reqs_later h hb0)
  have HP := Lib.hid (hp.later hb0)
  have HRW := Lib.hid hrw
  generalize HRS : rs.map Req.rq = RS
  have HRS := Lib.hid HRS
  generalize hnq : p.rq.length = nq at *
  generalize hns : p.sl.length = ns at *
  have HNQ := Lib.hid hnq
  have HNS := Lib.hid hns
  clear hl h hp hrw hb0 hnq hns
  go_enter Tryz.func7, Tryz.ntmps7
  go_wp2_with fail
  generalize W.alloc (.cells #[.int .i64 z, .slice Aq nq cq, .slice As ns cs] 76) = W0 at *
  have hg0 := World.block_lt_of_cell? _ _ k0
  have HBW : Hid (∀ w', Below W0.heap.size W0 w' → Below W.heap.size W w') := fun w' hb => HB0.out.trans (hb.mono HB0.out.size)
  generalize hWs : W.heap.size = g0 at hg0 k0 k1 k2 ⊢
  have HWS := Lib.hid hWs
  have HK : Hid (∀ w', Below W0.heap.size W0 w' → w'.cell? ⟨g0, 0, none⟩ = some (.int .i64 z) ∧ w'.cell? ⟨g0, 1, none⟩ = some (.slice Aq nq cq) ∧ w'.cell? ⟨g0, 2, none⟩ = some (.slice As ns cs)) :=
    fun w' hb => ⟨(hb.cell (p := ⟨g0, 0, none⟩) hg0).trans k0, (hb.cell (p := ⟨g0, 1, none⟩) hg0).trans k1, (hb.cell (p := ⟨g0, 2, none⟩) hg0).trans k2⟩
  have HP1 : Hid (∀ w, Below W0.heap.size W0 w → Calls Tryz.prog 38 #[vl, .slice Ar n cr] w (RetPrices w (proofF l RS))) :=
    fun w hb => by have := proof_any w vl (.slice Ar n cr) nl n l rs (HL.out.later hb) (reqs_later HR.out hb); rw [HRS.out] at this; exact this
  have HCP : Hid (∀ w, Below W0.heap.size W0 w → Calls Tryz.prog 39 #[vl, .slice Ar n cr, .int .i64 z, .agg #[.slice Aq nq cq, .slice As ns cs]] w (RetInt w (checkProof l RS z p))) :=
    fun w hb => by have := checkProof_any w vl (.slice Aq nq cq) (.slice As ns cs) nl n cr Ar z l rs p (HL.out.later hb) (reqs_later HR.out hb) (HP.out.later hb).1 (HP.out.later hb).2; rw [HRS.out] at this; exact this
  have HLI : Hid (∀ w, Below W0.heap.size W0 w → Calls Tryz.prog 15 #[vl, .slice Ar n cr] w fun e w' => IsB e ∧ Below w.heap.size w w') :=
    fun w hb => light_any w _ nl l _ n rs (HL.out.later hb) hrl (reqs_later HR.out hb) hrr HRW.out
  clear k0 k1 k2 hg0 hWs HB0
  refine (ownSlots_any _ _ nl l HL.out hrl).mono ?_
  rintro e w1 ⟨v1, rfl, S1⟩
  have HS1 := Lib.hid S1
  clear S1
  go_wp2_with fail
  refine (ownRequests_any w1 _ n rs (reqs_later HR.out HS1.out.bel) hrr HRW.out).mono ?_
  rintro e w2 ⟨v2, rs', rfl, he, hnm, S2⟩
  have HO : Hid (Own W0 w2 v1 v2 nl n l RS) := ⟨HS1.out.bel.trans (S2.bel.mono HS1.out.bel.size), (HS1.out.row_rd (i := 0) rfl).now.later S2.bel, rs', he.trans HRS.out, own_reqs S2 hnm⟩
  clear HS1 he hnm S2 HL HR HRW HRS
  go_wp2_with fail
  refine (awake_any w2).mono ?_
  rintro e w3 ⟨rfl, hb3⟩
  have HO3 := Lib.hid (HO.out.later hb3)
  clear HO hb3
  go_wp2_with fail
  refine (HLI.out w3 HO3.out.bel).mono ?_
  rintro e w4 ⟨⟨b, rfl⟩, hb4⟩
  have HO4 := Lib.hid (HO3.out.later hb4)
  clear HO3 hb4 HLI
  have HAW : Hid (Calls Tryz.prog 14 #[] w4 fun e w' => e = .returned (.bool true) ∧ Below W.heap.size W w') :=
    (awake_any w4).mono fun e w' ⟨a, b⟩ => ⟨a, HBW.out w' (HO4.out.bel.trans (b.mono HO4.out.bel.size))⟩
  cases b with
  | false =>
    go_wp2_with fail
    refine HAW.out.mono ?_
    rintro e w5 ⟨rfl, hbW⟩
    go_wp2
    go_ret
    exact ⟨rfl, hbW⟩
  | true =>
    obtain ⟨k0, k1, k2⟩ := HK.out _ HO4.out.bel
    by_cases h1 : 40 < nq
    · have t1 : decide (40 < (nq : Int)) = true := by simp; omega
      clear h1
      go_wp2_with fail
      refine HAW.out.mono ?_
      rintro e w5 ⟨rfl, hbW⟩
      go_wp2
      go_ret
      exact ⟨rfl, hbW⟩
    have t1 : decide (40 < (nq : Int)) = false := by simp; omega
    by_cases h2 : 40 < ns
    · have t2 : decide (40 < (ns : Int)) = true := by simp; omega
      clear h2 h1
      go_wp2_with fail
      refine HAW.out.mono ?_
      rintro e w5 ⟨rfl, hbW⟩
      go_wp2
      go_ret
      exact ⟨rfl, hbW⟩
    have t2 : decide (40 < (ns : Int)) = false := by simp; omega
    clear HAW h1 h2
    have HREF : Hid (checkRequests l RS = 0 → _) := proof_ref (l := l) (rs := RS)
    have HERR : Hid (checkRequests l RS ≠ 0 → proofF l RS = (⟨[], []⟩, checkRequests l RS) ∧ checkProof l RS z p = checkRequests l RS) := fun h => ⟨proofF_err h, checkProof_first h⟩
    have HSE : Hid (∀ w, Own W0 w v1 v2 nl n l RS → checkRequests l RS = 0 → Calls Tryz.prog 23 #[v1, v2, .bool true] w (RetFound w (searchF RS true [] RS (capL l) fnd0))) := fun w h h0 => h.search h0 true
    have HCA : Hid (∀ w vq vs v p, Own W0 w v1 v2 nl n l RS → checkRequests l RS = 0 → RdPrices w vq vs p → Calls Tryz.prog 40 #[v1, v2, .int .i64 v, .agg #[vq, vs]] w fun e w' => e = .returned (.int .i64 (checkProof l RS v p)) ∧ Below w.heap.size w w') :=
      fun w vq vs v p h h0 hp => h.checkProof h0 v hp
    generalize hPF : proofF l RS = PF at *
    have HPF := Lib.hid hPF
    clear hPF
    generalize searchF RS true [] RS (capL l) fnd0 = F1 at *
    generalize hCK : checkProof l RS z p = CK at *
    have HCK := Lib.hid hCK
    clear hCK
    go_wp2_with fail
    clear t1 t2 k0 k1 k2
    refine (HP1.out w4 HO4.out.bel).mono ?_
    rintro e w5 ⟨vq1, vs1, rfl, hb5, hr51, hr52⟩
    have HO5 := Lib.hid (HO4.out.later hb5)
    obtain ⟨⟨rq1, sl1⟩, pe⟩ := PF
    dsimp only at *
    have HRP5 : Hid (RdPrices w5 vq1 vs1 ⟨rq1, sl1⟩) := ⟨hr51, hr52⟩
    have hq1 := hr51.le
    have hs1 := hr52.le
    obtain ⟨Aq1, cq1, rfl, _, _, _⟩ := hr51.open_
    obtain ⟨As1, cs1, rfl, _, _, _⟩ := hr52.open_
    clear HO4 hb5 hr51 hr52 HP1
    have hba := (Below.refl w5.heap.size w5).alloc (Nat.le_refl _) (.cells #[.slice Aq1 rq1.length cq1, .slice As1 sl1.length cs1] 74)
    have HO6 := Lib.hid (HO5.out.later hba)
    have HRP6 := Lib.hid (HRP5.out.later hba)
    obtain ⟨k0, k1, k2⟩ := HK.out _ HO6.out.bel
    have j0 : (w5.alloc (.cells #[.slice Aq1 rq1.length cq1, .slice As1 sl1.length cs1] 74)).cell? ⟨w5.heap.size, 0, none⟩ = some (.slice Aq1 rq1.length cq1) := by simp
    have j1 : (w5.alloc (.cells #[.slice Aq1 rq1.length cq1, .slice As1 sl1.length cs1] 74)).cell? ⟨w5.heap.size, 1, none⟩ = some (.slice As1 sl1.length cs1) := by simp
    clear HO5 HRP5 hba
    go_wp2_with fail
    generalize w5.alloc (.cells #[.slice Aq1 rq1.length cq1, .slice As1 sl1.length cs1] 74) = w6 at *
    have hg1 := World.block_lt_of_cell? _ _ j0
    have HJ : Hid (∀ w', Below w6.heap.size w6 w' → w'.cell? ⟨w5.heap.size, 0, none⟩ = some (.slice Aq1 rq1.length cq1) ∧ w'.cell? ⟨w5.heap.size, 1, none⟩ = some (.slice As1 sl1.length cs1)) :=
      fun w' hb => ⟨(hb.cell (p := ⟨w5.heap.size, 0, none⟩) hg1).trans j0, (hb.cell (p := ⟨w5.heap.size, 1, none⟩) hg1).trans j1⟩
    generalize w5.heap.size = g1 at *
    clear j0 j1 hg1 k0 k1 k2
    refine (HCP.out w6 HO6.out.bel).mono ?_
    rintro e w7 ⟨rfl, hb7⟩
    have HO7 := Lib.hid (HO6.out.later hb7)
    have HRP7 := Lib.hid (HRP6.out.later hb7)
    have HB67 := Lib.hid hb7
    clear HO6 HRP6 hb7 HCP
    have HC := Lib.hid HO7.out.check
    generalize hE0 : checkRequests l RS = E at *
    have HE0 := Lib.hid hE0
    clear hE0
    go_wp2_with fail
    refine HC.out.mono ?_
    rintro e w8 ⟨rfl, hb8⟩
    have HO8 := Lib.hid (HO7.out.later hb8)
    have HRP8 := Lib.hid (HRP7.out.later hb8)
    have HB68 := Lib.hid (HB67.out.trans (hb8.mono HB67.out.size))
    clear HO7 HRP7 hb8 HC HB67
    by_cases hE : E = 0
    case neg =>
      have hE' : (E != 0) = true := by simpa using hE
      obtain ⟨e1, e2⟩ := HERR.out hE
      injection e1 with e11 e12
      injection e11 with e13 e14
      subst e13 e14
      obtain ⟨j0, j1⟩ := HJ.out _ HB68.out
      have hbW := HBW.out _ HO8.out.bel
      have te1 : (pe == E) = true := by simpa using e12
      have te2 : (CK == E) = true := by simpa using e2
      simp only [List.length_nil] at j0 j1
      clear HREF HERR HSE HCA e12 e2 hE
      go_wp2
      go_ret
      exact ⟨rfl, hbW⟩
    case pos =>
      subst hE
      obtain ⟨r1, r2⟩ := HREF.out rfl
      have HR1 := Lib.hid r1
      have HR2 := Lib.hid r2
      obtain ⟨k0, k1, k2⟩ := HK.out _ HO8.out.bel
      clear HREF HERR r1 r2
      have HC9 := HCA.out w8 (.slice Aq nq cq) (.slice As ns cs) z p HO8.out (by first | exact HE0.out | trivial) (HP.out.later HO8.out.bel)
      rw [HCK.out] at HC9
      have HC9 := Lib.hid HC9
      go_wp2_with fail
      clear k0 k1 k2
      refine HC9.out.mono ?_
      rintro e w9 ⟨rfl, hb9⟩
      have HO9 := Lib.hid (HO8.out.later hb9)
      have HRP9 := Lib.hid (HRP8.out.later hb9)
      have HB69 := Lib.hid (HB68.out.trans (hb9.mono HB68.out.size))
      clear HO8 HRP8 hb9 HC9 HB68
      have tck : (CK != CK) = false := by simp
      go_wp2_with fail
      clear tck
      refine (HSE.out w9 HO9.out (by first | exact HE0.out | trivial)).mono ?_
      rintro e w10 ⟨vf, rfl, hb10, hf10⟩
      obtain ⟨A10, c10, rfl, -, -, -⟩ := hf10.open_
      clear hf10
      have HO10 := Lib.hid (HO9.out.later hb10)
      have HRP10 := Lib.hid (HRP9.out.later hb10)
      have HB610 := Lib.hid (HB69.out.trans (hb10.mono HB69.out.size))
      obtain ⟨fis, fva, ffi, fmo⟩ := F1
      dsimp only at *
      clear HO9 HRP9 hb10 HSE HB69
      have hba := (Below.refl w10.heap.size w10).alloc (Nat.le_refl _) (.cells #[.bool fis, .int .i64 fva, .slice A10 ffi.length c10, .int .i64 fmo] 40)
      have HO11 := Lib.hid (HO10.out.later hba)
      have HRP11 := Lib.hid (HRP10.out.later hba)
      have HB611 := Lib.hid (HB610.out.trans (hba.mono HB610.out.size))
      have f0 : (w10.alloc (.cells #[.bool fis, .int .i64 fva, .slice A10 ffi.length c10, .int .i64 fmo] 40)).cell? ⟨w10.heap.size, 0, none⟩ = some (.bool fis) := by simp
      have f1 : (w10.alloc (.cells #[.bool fis, .int .i64 fva, .slice A10 ffi.length c10, .int .i64 fmo] 40)).cell? ⟨w10.heap.size, 1, none⟩ = some (.int .i64 fva) := by simp
      obtain ⟨j0, j1⟩ := HJ.out _ HB611.out
      clear HO10 HRP10 HB610 hba
      cases fis with
      | false =>
        have e1 := HR1.out rfl
        injection e1 with e11 e12
        injection e11 with e13 e14
        subst e12 e13 e14
        have hbW := HBW.out _ HO11.out.bel
        simp only [List.length_nil] at j0 j1
        clear HR1 HR2 HCA
        go_wp2
        go_ret
        exact ⟨rfl, hbW⟩
      | true =>
        obtain ⟨e1, e2⟩ := HR2.out rfl
        subst e1
        have HC12 := HCA.out _ _ _ fva _ HO11.out (by first | exact HE0.out | trivial) HRP11.out
        rw [e2] at HC12
        have HC12 := Lib.hid HC12
        clear HR1 HR2 HCA e2
        go_wp2_with fail
        refine HC12.out.mono ?_
        rintro e w12 ⟨rfl, hb12⟩
        have hbW := HBW.out _ (HO11.out.bel.trans (hb12.mono HO11.out.bel.size))
        go_wp2
        go_ret
        exact ⟨rfl, hbW⟩
end Go.Proofs.YtjfhncnpmelopaaGreatDoor
