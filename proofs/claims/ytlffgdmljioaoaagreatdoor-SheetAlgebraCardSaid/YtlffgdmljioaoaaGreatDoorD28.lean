/- Part 28 of the walks of the golf union's program: WK1. -/
import Derived.Test.YtlffgdmljioaoaaGreatDoorD27
import Derived.Outline
import Derived.IntWalk
set_option linter.unusedVariables false
set_option linter.unusedSimpArgs false
set_option linter.unusedSectionVars false
set_option linter.constructorNameAsVariable false
/- Walks: CheckProof. -/
namespace Go.Sheet
theorem prNeg_stop {rs : List RQ} {ps : List Int} {k : Nat} {x : RQ} {n : Int} (hx : rs[k]? = some x) (hn : ps[k]? = some n) (h : n < 0 ∧ x.g = false) : prNeg rs ps = true := by
  induction k generalizing rs ps with
  | zero =>
    match rs, ps, hx, hn with
    | y :: rs, m :: ps, hx, hn =>
      simp at hx hn; subst hx hn
      rw [prNeg]; simp [h.1, h.2]
  | succ k ih =>
    match rs, ps, hx, hn with
    | y :: rs, m :: ps, hx, hn =>
      simp only [List.getElem?_cons_succ] at hx hn
      rw [prNeg, ih hx hn]; simp
theorem prNeg_end {rs : List RQ} {ps : List Int} (h : ∀ (k : Nat) (x : RQ) (n : Int), rs[k]? = some x → ps[k]? = some n → ¬ (n < 0 ∧ x.g = false)) : prNeg rs ps = false := by
  induction rs generalizing ps with
  | nil => rw [prNeg]; intros; contradiction
  | cons x rs ih =>
    match ps with
    | [] => rw [prNeg]; intros; contradiction
    | n :: ps =>
      have h0 := h 0 x n rfl rfl
      rw [prNeg, ih fun k y m hy hm => h (k + 1) y m (by simpa using hy) (by simpa using hm), Bool.or_false, Bool.eq_false_iff]
      intro hh
      simp at hh
      exact h0 hh
theorem prSum_go {ps : List Int} {l : List Slot} {k : Nat} {n s t : Int} {x : Slot} (hn : ps[k]? = some n) (hx : l[k]? = some x) (e : s + prSum (ps.drop k) (l.drop k) = t) : s + n * x.p + prSum (ps.drop (k + 1)) (l.drop (k + 1)) = t := by
  rw [← e, drop_at hn, drop_at hx, prSum]; omega
theorem prSum_end {ps : List Int} {l : List Slot} {k : Nat} {s t : Int} (h : ps.length ≤ k) (e : s + prSum (ps.drop k) (l.drop k) = t) : s = t := by
  rw [← e, List.drop_of_length_le h, prSum]
  · omega
  · intros; contradiction
/-- a wish that the prices do not reach -/
def lowW (p : PR) (w : Nat × Wish) : Bool := decide (p.rq.getD w.1 0 + p.sl.getD w.2.s.toNat 0 < w.2.w)
theorem prLow_iff {sl : List Int} {rs : List RQ} {ps : List Int} (hl : ps.length = rs.length) : prLow sl rs ps = true ↔ ∃ (k : Nat) (x : RQ) (w : Wish), rs[k]? = some x ∧ w ∈ x.ws ∧ ps.getD k 0 + sl.getD w.s.toNat 0 < w.w := by
  induction rs generalizing ps with
  | nil => 
    constructor
    · intro h; rw [prLow] at h
      · cases h
      · intros; contradiction
    · rintro ⟨k, x, w, h, _⟩; simp at h
  | cons y rs ih =>
    match ps, hl with
    | n :: ps, hl =>
      rw [prLow, Bool.or_eq_true, ih (by simpa using hl), wishLow, List.any_eq_true]
      constructor
      · rintro (⟨w, hw, h⟩ | ⟨k, x, w, h1, h2, h3⟩)
        · exact ⟨0, y, w, rfl, hw, by simpa using h⟩
        · exact ⟨k + 1, x, w, by simpa using h1, h2, by simpa using h3⟩
      · rintro ⟨k, x, w, h1, h2, h3⟩
        cases k with
        | zero => simp at h1; subst h1; exact .inl ⟨w, h2, by simpa using h3⟩
        | succ k => exact .inr ⟨k, x, w, by simpa using h1, h2, by simpa using h3⟩
theorem mem_wl {rs : List Req} {p : Nat × Wish} : ∀ {k : Nat}, p ∈ wl k rs ↔ ∃ i x, rs[i]? = some x ∧ p.1 = k + i ∧ p.2 ∈ x.ws := by
  induction rs with
  | nil => intro k; simp [wl]
  | cons y rs ih =>
    intro k
    rw [wl, List.mem_append, List.mem_map, ih]
    constructor
    · rintro (⟨w, hw, rfl⟩ | ⟨i, x, h1, h2, h3⟩)
      · exact ⟨0, y, rfl, rfl, hw⟩
      · exact ⟨i + 1, x, by simpa using h1, by omega, h3⟩
    · rintro ⟨i, x, h1, h2, h3⟩
      cases i with
      | zero => simp at h1; subst h1; exact .inl ⟨p.2, h3, by ext <;> simp [h2]⟩
      | succ i => exact .inr ⟨i, x, by simpa using h1, by omega, h3⟩
theorem proofE1_ok {l : List Slot} {rs : List RQ} {v : Int} {p : PR} (h : proofE1 l rs v p = 0) : checkRequests l rs = 0 ∧ p.rq.length = rs.length ∧ p.sl.length = l.length ∧ -999999999 ≤ v ∧ v ≤ 999999999 := by
  rw [proofE1, fst_zero] at h
  simp only [List.mem_cons, List.not_mem_nil, or_false, forall_eq_or_imp, forall_eq] at h
  obtain ⟨h1, h2, h3⟩ := h
  rw [whenE_zero _ _ (by decide), Bool.or_eq_false_iff, decide_eq_false_iff_not, decide_eq_false_iff_not] at h3
  have := (outE_zero _ _ _).1 h2
  exact ⟨h1, by omega, by omega, this⟩
theorem proofE2_ok {p : PR} (h : proofE2 p = 0) : (∀ x ∈ p.rq, -999999999 ≤ x ∧ x ≤ 999999999) ∧ ∀ x ∈ p.sl, -999999999 ≤ x ∧ x ≤ 999999999 := by
  rw [proofE2, fst_zero] at h
  simp only [List.mem_cons, List.not_mem_nil, or_false, forall_eq_or_imp, forall_eq] at h
  exact ⟨eachF_out h.1, eachF_out h.2⟩
end Go.Sheet
namespace Go.Proofs.YtlffgdmljioaoaaGreatDoor
open Go.RowKit Go.Mem Go.Sheet Go.Shelf
attribute [local go_sem] Oper.semAt_some
theorem anyInt_any (W : World) (v : Value) (l : List Int) (g : Nat) (eg : Enters Tryz.prog g) (p : Int → Bool) (h : Rd W (· < W.heap.size) 1 v l.length (l.map (Value.int .i64)))
    (hC : ∀ (W : World) (n : Int), Calls Tryz.prog g #[.int .i64 n] W fun e w' => e = .returned (.bool (p n)) ∧ W = w') :
    Calls Tryz.prog 93 #[v, .func (.func g) #[] #[]] W fun e w' => e = .returned (.bool (l.any p)) ∧ Below W.heap.size W w' := by
  have HC := Lib.hid (idx_Int W v l.length l g eg #[] (fun w => Below W.heap.size W w) p (fun _ hb => (h.below hb).mono fun _ _ _ => trivial) (Below.refl _ _) (fun k x w _ hb => (hC w x).mono fun e w' ⟨h1, h2⟩ => ⟨h1, h2 ▸ hb⟩))
  have HA := Lib.hid (idxF_any p l 0)
  obtain ⟨A, c, rfl, _, _, _⟩ := h.open_
  clear h
  generalize idxF p 0 l = ix at *
  go_enter Tryz.func93, Tryz.ntmps93
  go_wp2_with fail
  refine HC.out.mono ?_
  rintro e w2 ⟨rfl, hb⟩
  go_wp2
  go_ret
  exact ⟨ret_bool HA.out, hb⟩
theorem res_cp (tmps : Array Value) (w : World) (g : Nat) (v : Int) (hp : tmps.getD 8 undef = .pointer (some ⟨g, 0, none⟩)) (hc : w.cell? ⟨g, 0, none⟩ = some (.int .i64 v)) :
    (results Tryz.f41 tmps).run Tryz.prog w = .ok (.int .i64 v) w := by
  have hp' : tmps[8]?.getD undef = .pointer (some ⟨g, 0, none⟩) := by simpa using hp
  simp [results, Tryz.results41, hp', hc, go_sem]
/-- how CheckProof ends -/
def RetInt (W : World) (v : Int) (e : Ending) (w' : World) : Prop := e = .returned (.int .i64 v) ∧ Below W.heap.size W w'
/-- the frame of a round of CheckProof -/
def RoundP (g B5 : Nat) (i : Nat) (y : Wish) (a : Act) (X : World) : Prop :=
  a.tmps.size = 125 ∧ a.tmps.getD 7 undef = .pointer (some ⟨g, 0, none⟩) ∧ a.tmps.getD 8 undef = .pointer (some ⟨g + 1, 0, none⟩) ∧ a.tmps.getD 17 undef = .int .i64 i ∧ a.defers = [] ∧
    ∃ Bx, B5 ≤ Bx ∧ a.tmps.getD 18 undef = .pointer (some ⟨Bx, 0, none⟩) ∧ X.heap[Bx]? = some (.cells #[.int .i64 y.s, .int .i64 y.w] 122 (0, 0))
set_option maxRecDepth 100000 in
set_option maxHeartbeats 4000000 in
theorem checkProof_any (W : World) (vl pq ps : Value) (nl n c : Nat) (A : Option Addr) (val : Int) (l : List Slot) (rs : List Req) (p : PR) (hl : Rd W (· < W.heap.size) 3 vl nl (l.flatMap Slot.cells)) (h : RdReqs W (· < W.heap.size) (.slice A n c) n rs)
    (hq : Rd W (· < W.heap.size) 1 pq p.rq.length (p.rq.map (Value.int .i64))) (hs : Rd W (· < W.heap.size) 1 ps p.sl.length (p.sl.map (Value.int .i64))) :
    Calls Tryz.prog 41 #[vl, .slice A n c, .int .i64 val, .agg #[pq, ps]] W (RetInt W (checkProof l (rs.map Req.rq) val p)) := by
  have HN := Lib.hid (h.1.count (f := Req.cells) (size := 3) (fun _ => rfl) (by decide))
  have HNL := Lib.hid (hl.count (f := Slot.cells) (size := 3) (fun _ => rfl) (by decide))
  have HL := Lib.hid hl
  have HR := Lib.hid h
  have HQ := Lib.hid hq
  have HS := Lib.hid hs
  have bn := h.1.le
  have bnl := hl.le
  have bq := hq.le
  have bs := hs.le
  obtain ⟨Al, cl, rfl, _, _, _⟩ := hl.open_
  obtain ⟨Aq, cq, rfl, _, _, _⟩ := hq.open_
  obtain ⟨As, cs, rfl, _, _, _⟩ := hs.open_
  have HCR := Lib.hid (fun w (hb : Below W.heap.size W w) => checkRequests_any w _ _ nl n l rs (HL.out.later hb) (reqs_later HR.out hb))
  have HP : Hid (checkProof l (rs.map Req.rq) val p = if proofE1 l (rs.map Req.rq) val p ≠ 0 then proofE1 l (rs.map Req.rq) val p else if proofE2 p ≠ 0 then proofE2 p else if prNeg (rs.map Req.rq) p.rq then 21 else if prLow p.sl (rs.map Req.rq) p.rq then 21 else whenE (decide (sumF p.rq + prSum p.sl l ≠ val) || p.sl.any fun n => decide (n < 0)) 21) := rfl
  have HE1 : Hid (fst [checkRequests l (rs.map Req.rq), outE val (-999999999) 999999999, whenE (((p.rq.length : Int) != n) || ((p.sl.length : Int) != nl)) 2] = proofE1 l (rs.map Req.rq) val p) := by
    show _ = _
    have e1 : ((p.rq.length : Int) != n) = decide (p.rq.length ≠ (rs.map Req.rq).length) := by rw [List.length_map, ← HN.out, Bool.eq_iff_iff]; simp only [bne_iff_ne, decide_eq_true_eq, ne_eq, Int.ofNat_inj]
    have e2 : ((p.sl.length : Int) != nl) = decide (p.sl.length ≠ l.length) := by rw [← HNL.out, Bool.eq_iff_iff]; simp only [bne_iff_ne, decide_eq_true_eq, ne_eq, Int.ofNat_inj]
    rw [proofE1, e1, e2]
  clear hl h hq hs
  generalize HNQ : p.rq.length = nq at *
  generalize HNS : p.sl.length = ns at *
  have S0 : St W ((W.alloc (.cells #[.slice Aq nq cq, .slice As ns cs] 82)).alloc (.cells #[.int .i64 0] 28)) [blk W.heap.size 82 #[.slice Aq nq cq, .slice As ns cs], blk (W.heap.size + 1) 28 #[.int .i64 0]] := by
    have := ((St.refl W).blk_new #[.slice Aq nq cq, .slice As ns cs] 82).blk_new #[.int .i64 0] 28
    simpa using this
  refine (callsIn_wide (n := 6)).1 (callsIn_of_wp_marks Tryz.func41 rfl trivial (wpIn_wide.2 ?_) rfl)
  simp only [Tryz.ntmps41, List.size_toArray, List.length_cons, List.length_nil, Nat.reduceAdd, Nat.reduceSub, Array.replicate_succ, Array.replicate_zero, List.push_toArray, List.append_toArray, List.nil_append, List.cons_append]
  go_wp2_with fail
  generalize hW2 : (W.alloc (.cells #[.slice Aq nq cq, .slice As ns cs] 82)).alloc (.cells #[.int .i64 0] 28) = W2 at *
  clear hW2
  have d0 := S0.blk_cell (i := 0) rfl 0
  have d1 := S0.blk_cell (i := 0) rfl 1
  have hg0 : W.heap.size < W2.heap.size := (S0.blk_at (i := 0) rfl).2.1
  have HB2 := Lib.hid S0.bel
  have HS0 := Lib.hid S0
  clear S0
  generalize checkRequests l (rs.map Req.rq) = CR at *
  have hguard : ((nq : Int) != n) = true ∨ ((nq : Int) != n) = false := by cases ((nq : Int) != n) <;> simp
  refine wp_cls 20 (fun w' => Below W2.heap.size W2 w') (by kernel_rfl) (by kernel_rfl) (Below.refl _ _).drew ?_
  simp only [List.take_succ_cons, List.take_zero, List.drop_succ_cons, List.drop_zero]
  have hK2 : ∀ w w' : World, Below W2.heap.size W2 w → Below w.heap.size w w' → Below W2.heap.size W2 w' := fun w w' h h' => h.trans (h'.mono h.size)
  generalize hK : (fun w' => Below W2.heap.size W2 w') = K
  intro hne
  have kb : ∀ y : Wd K, Below W2.heap.size W2 y.w := by subst hK; exact fun y => y.h
  have hK3 : ∀ w w' : World, K w → Below w.heap.size w w' → K w' := by subst hK; exact hK2
  have k0 : ∀ y : Wd K, y.w.cell? ⟨W.heap.size, 0, none⟩ = some (.slice Aq nq cq) := fun y => ((kb y).cell (p := ⟨W.heap.size, 0, none⟩) hg0).trans d0
  have k1 : ∀ y : Wd K, y.w.cell? ⟨W.heap.size, 1, none⟩ = some (.slice As ns cs) := fun y => ((kb y).cell (p := ⟨W.heap.size, 1, none⟩) hg0).trans d1
  have HC1 : Hid (∀ y : Wd K, Calls Tryz.prog 80 #[.slice Al nl cl, .slice A n c] y.w fun e w' => e = .returned (.int .i64 CR) ∧ Below y.w.heap.size y.w w') := fun y => HCR.out _ (HB2.out.trans ((kb y).mono HB2.out.size))
  clear hK hK2
  rcases hguard with hgd | hgd
  all_goals
    repeat (go_big_quiet_step ((first | (go_at_call 53; exact cls_same (when_any _ _ _)) | (go_at_call 56; exact cls_same (outside_any _ _ _ _)) | (go_at_call 80; exact cls_below hK3 (HC1.out _)))))
    refine wpQuiet_nil ?_
    intro y
    have hb := kb y
    clear k0 k1 kb hK3 hne HC1
    generalize y.w = w3 at *
    have hE1 := HE1.out
    rw [hgd] at hE1
    first | rw [Bool.true_or] at hE1 | rw [Bool.false_or] at hE1
    have HE1 := Lib.hid hE1
    clear hE1
    have S3 := HS0.out.ext hb
    clear hb
    go_wp2_with fail
  · refine (first3 _ _ CR (outE val (-999999999) 999999999) (whenE true 2) (by simp) (by simp) (by simp) (by simp)).mono ?_
    have hne : proofE1 l (rs.map Req.rq) val p ≠ 0 := by
      rw [← HE1.out]
      simp only [fst, whenE, if_true]
      split <;> first | assumption | (split <;> first | assumption | decide)
    rw [HE1.out]
    rintro e w' ⟨rfl, rfl⟩
    have S4 := S3.alloc (.cells #[.int .i64 CR, .int .i64 (outE val (-999999999) 999999999), .int .i64 (whenE true 2)] 28)
    generalize w3.alloc (.cells #[.int .i64 CR, .int .i64 (outE val (-999999999) 999999999), .int .i64 (whenE true 2)] 28) = w4 at *
    have HF : Hid (checkProof l (rs.map Req.rq) val p = proofE1 l (rs.map Req.rq) val p) := by show _ = _; rw [HP.out, if_pos hne]
    have hneb : (proofE1 l (rs.map Req.rq) val p != 0) = true := by simpa using hne
    have f0 := S4.blk_cell (i := 1) rfl 0
    have f1 := S4.blk_frozen (i := 1) rfl 0
    have S5 := S4.blk_set (i := 1) rfl 0 (.int .i64 (proofE1 l (rs.map Req.rq) val p))
    have HS5 := Lib.hid S5
    clear hne S3 S4 S5
    generalize proofE1 l (rs.map Req.rq) val p = E1 at *
    go_wp2
    refine ⟨_, res_cp _ _ (W.heap.size + 1) E1 rfl (HS5.out.blk_cell (i := 1) rfl 0), ?_⟩
    rw [HF.out]
    exact ⟨rfl, HS5.out.bel⟩
  · refine (first3 _ _ CR (outE val (-999999999) 999999999) (whenE ((ns : Int) != nl) 2) (by simp) (by simp) (by simp) (by simp)).mono ?_
    rw [HE1.out]
    rintro e w' ⟨rfl, rfl⟩
    have S4 := S3.alloc (.cells #[.int .i64 CR, .int .i64 (outE val (-999999999) 999999999), .int .i64 (whenE ((ns : Int) != nl) 2)] 28)
    generalize w3.alloc (.cells #[.int .i64 CR, .int .i64 (outE val (-999999999) 999999999), .int .i64 (whenE ((ns : Int) != nl) 2)] 28) = w4 at *
    have HS4 := Lib.hid S4
    clear S3 HE1 S4
    by_cases h0 : proofE1 l (rs.map Req.rq) val p ≠ 0
    · have HF : Hid (checkProof l (rs.map Req.rq) val p = proofE1 l (rs.map Req.rq) val p) := by show _ = _; rw [HP.out, if_pos h0]
      have hneb : (proofE1 l (rs.map Req.rq) val p != 0) = true := by simpa using h0
      have f0 := HS4.out.blk_cell (i := 1) rfl 0
      have f1 := HS4.out.blk_frozen (i := 1) rfl 0
      have HS5 := Lib.hid (HS4.out.blk_set (i := 1) rfl 0 (.int .i64 (proofE1 l (rs.map Req.rq) val p)))
      clear h0
      generalize proofE1 l (rs.map Req.rq) val p = E1 at *
      go_wp2
      refine ⟨_, res_cp _ _ (W.heap.size + 1) E1 rfl (HS5.out.blk_cell (i := 1) rfl 0), ?_⟩
      rw [HF.out]
      exact ⟨rfl, HS5.out.bel⟩
    · have h00 : proofE1 l (rs.map Req.rq) val p = 0 := by omega
      have hok1 := proofE1_ok h00
      have hP2 := HP.out
      rw [if_neg h0] at hP2
      have hneb : (proofE1 l (rs.map Req.rq) val p != 0) = false := by simpa using h00
      have hokay := okay_of hok1.1
      have HPa := Lib.hid hP2
      clear HP
      have hE := enters Tryz.func91 (by kernel_rfl) rfl
      have HQE := Lib.hid (fun w (hb : Below W.heap.size W w) => each_ints w (.slice Aq nq cq) p.rq 91 hE bigE (by rw [HNQ]; exact HQ.out.later hb) cp1_any)
      have HSE := Lib.hid (fun w (hb : Below W.heap.size W w) => each_ints w (.slice As ns cs) p.sl 91 hE bigE (by rw [HNS]; exact HS.out.later hb) cp1_any)
      have HE2 : Hid (fst [eachF (fun _ n => bigE n) 0 p.rq, eachF (fun _ n => bigE n) 0 p.sl] = proofE2 p) := rfl
      have hqn : nq = n := by rw [← HNQ, hok1.2.1, List.length_map, HN.out]
      have hsn : ns = nl := by rw [← HNS, hok1.2.2.1, HNL.out]
      have hn24 : n ≤ 24 := by have := hokay.nr; rw [List.length_map, ← HN.out] at this; exact this
      have hnl24 : nl ≤ 24 := by have := hokay.nl; rw [← HNL.out] at this; exact this
      have HQN := Lib.hid hqn
      have HSN := Lib.hid hsn
      have HOKAY := Lib.hid hokay
      have HNQ := Lib.hid HNQ
      have HNS := Lib.hid HNS
      have hval := hok1.2.2.2
      clear h0 hP2 hE hqn hsn hokay hok1 hgd h00
      generalize proofE1 l (rs.map Req.rq) val p = E1 at *
      generalize eachF (fun _ n => bigE n) 0 p.rq = X1 at *
      generalize eachF (fun _ n => bigE n) 0 p.sl = X2 at *
      go_wp2_with fail
      have d0 := HS4.out.blk_cell (i := 0) rfl 0
      have d1 := HS4.out.blk_cell (i := 0) rfl 1
      have hg0 : W.heap.size < w4.heap.size := (HS4.out.blk_at (i := 0) rfl).2.1
      have HB4 := Lib.hid HS4.out.bel
      refine wp_cls 8 (fun w' => Below w4.heap.size w4 w') (by kernel_rfl) (by kernel_rfl) (Below.refl _ _).drew ?_
      simp only [List.take_succ_cons, List.take_zero, List.drop_succ_cons, List.drop_zero]
      have hK2 : ∀ w w' : World, Below w4.heap.size w4 w → Below w.heap.size w w' → Below w4.heap.size w4 w' := fun w w' h h' => h.trans (h'.mono h.size)
      generalize hK : (fun w' => Below w4.heap.size w4 w') = K
      intro hne
      have kb : ∀ y : Wd K, Below w4.heap.size w4 y.w := by subst hK; exact fun y => y.h
      have hK3 : ∀ w w' : World, K w → Below w.heap.size w w' → K w' := by subst hK; exact hK2
      have k0 : ∀ y : Wd K, y.w.cell? ⟨W.heap.size, 0, none⟩ = some (.slice Aq nq cq) := fun y => ((kb y).cell (p := ⟨W.heap.size, 0, none⟩) hg0).trans d0
      have k1 : ∀ y : Wd K, y.w.cell? ⟨W.heap.size, 1, none⟩ = some (.slice As ns cs) := fun y => ((kb y).cell (p := ⟨W.heap.size, 1, none⟩) hg0).trans d1
      have HC1 : Hid (∀ y : Wd K, Calls Tryz.prog 54 #[.slice Aq nq cq, .func (.func 91) #[] #[]] y.w fun e w' => e = .returned (.int .i64 X1) ∧ Below y.w.heap.size y.w w') := fun y => HQE.out _ (HB4.out.trans ((kb y).mono HB4.out.size))
      have HC2 : Hid (∀ y : Wd K, Calls Tryz.prog 54 #[.slice As ns cs, .func (.func 91) #[] #[]] y.w fun e w' => e = .returned (.int .i64 X2) ∧ Below y.w.heap.size y.w w') := fun y => HSE.out _ (HB4.out.trans ((kb y).mono HB4.out.size))
      clear hK hK2 d0 d1
      repeat (go_big_quiet_step ((first | (go_at_call 54; with_reducible exact cls_below hK3 (HC1.out _)) | (go_at_call 54; with_reducible exact cls_below hK3 (HC2.out _)))))
      refine wpQuiet_nil ?_
      intro y
      have S5 := HS4.out.ext (kb y)
      clear k0 k1 kb hK3 hne HC1 HC2 HS4 HB4 hg0
      generalize y.w = w5 at *
      go_wp2_with fail
      refine (first2 _ _ X1 X2 (by simp) (by simp) (by simp)).mono ?_
      rw [HE2.out]
      rintro e w' ⟨rfl, rfl⟩
      have S6 := S5.alloc (.cells #[.int .i64 X1, .int .i64 X2] 28)
      generalize w5.alloc (.cells #[.int .i64 X1, .int .i64 X2] 28) = w6 at *
      have HS6 := Lib.hid S6
      clear S5 S6 HE2 HQE HSE
      by_cases h2 : proofE2 p ≠ 0
      · have HF : Hid (checkProof l (rs.map Req.rq) val p = proofE2 p) := by show _ = _; rw [HPa.out, if_pos h2]
        have hneb2 : (proofE2 p != 0) = true := by simpa using h2
        have f0 := HS6.out.blk_cell (i := 1) rfl 0
        have f1 := HS6.out.blk_frozen (i := 1) rfl 0
        have HS5 := Lib.hid (HS6.out.blk_set (i := 1) rfl 0 (.int .i64 (proofE2 p)))
        clear h2
        generalize proofE2 p = E2 at *
        go_wp2
        refine ⟨_, res_cp _ _ (W.heap.size + 1) E2 rfl (HS5.out.blk_cell (i := 1) rfl 0), ?_⟩
        rw [HF.out]
        exact ⟨rfl, HS5.out.bel⟩
      · have h22 : proofE2 p = 0 := by omega
        have hok2 := proofE2_ok h22
        have hP2 := HPa.out
        rw [if_neg h2] at hP2
        have hneb2 : (proofE2 p != 0) = false := by simpa using h22
        have HPb := Lib.hid hP2
        clear HPa
        have HOK2 := Lib.hid hok2
        clear h2 hP2 hok2 h22
        generalize proofE2 p = E2 at *
        have d0 := HS6.out.blk_cell (i := 0) rfl 0
        go_wp2_with fail
        clear d0
        go_loopw [60, 12] (fun i v w' => ∃ (k : Nat) (t : Int), k ≤ nq ∧ i = .int .i64 k ∧ v = .int .i64 t ∧ -999999999 * (k : Int) ≤ t ∧ t ≤ 999999999 * (k : Int) ∧ St W w' [blk W.heap.size 82 #[.slice Aq nq cq, .slice As ns cs], blk (W.heap.size + 1) 28 #[.int .i64 0]] ∧
          Hid (t + sumF (p.rq.drop k) = sumF p.rq) ∧ Hid (∀ (j : Nat) (x : RQ) (m : Int), j < k → (rs.map Req.rq)[j]? = some x → p.rq[j]? = some m → ¬ (m < 0 ∧ x.g = false))) (fun i _ _ => nq - (intOf i).toNat)
        case atStart => exact ⟨0, 0, Nat.zero_le _, rfl, rfl, by omega, by omega, HS6.out, by show _ = _; simp, fun j _ _ hj => by omega⟩
        case round =>
          obtain ⟨k, t, hk, rfl, rfl, ht1, ht2, S, HT, HNG⟩ := hrel
          clear HS6
          by_cases hlt : k < nq
          · obtain ⟨b, o, m, hA, hm, hcm⟩ := (HQ.out.below S.bel).int hlt
            cases hA
            have hkn : k < n := by have := HQN.out; omega
            have hkni : (k : Int) < n := by omega
            obtain ⟨b2, o2, x, hA, hx, x0, x1, x2⟩ := (HR.out.1.below S.bel).elem3 (k := k) (fun s : Req => .string s.name) (fun s : Req => .bool s.g) (fun s : Req => .slice s.wa s.wn s.wc) (fun _ => rfl) hkn
            cases hA
            have hmb := HOK2.out.1 m (List.mem_of_getElem? hm)
            have hxq : (rs.map Req.rq)[k]? = some x.rq := by rw [List.getElem?_map, hx]; rfl
            have HG := Lib.hid (sumF_go hm HT.out)
            have HXQ := Lib.hid hxq
            have HMM := Lib.hid hm
            have HSS := Lib.hid S
            have f0 := S.blk_cell (i := 1) rfl 0
            have f1 := S.blk_frozen (i := 1) rfl 0
            have HS5 := Lib.hid (S.blk_set (i := 1) rfl 0 (.int .i64 21))
            clear hm hx hxq x0 x2 S
            have hsum : -9223372036854775808 ≤ t + m ∧ t + m ≤ 9223372036854775807 := by omega
            by_cases hneg : m < 0
            · have hnegb : decide (m < 0) = true := by simpa using hneg
              cases hg : x.g with
              | false =>
                have HF : Hid (checkProof l (rs.map Req.rq) val p = 21) := by show _ = _; rw [HPb.out, prNeg_stop HXQ.out HMM.out ⟨hneg, hg⟩]; rfl
                rw [hg] at x1
                go_wp2
                refine ⟨_, res_cp _ _ (W.heap.size + 1) 21 rfl (HS5.out.blk_cell (i := 1) rfl 0), ?_⟩
                rw [HF.out]
                exact ⟨rfl, HS5.out.bel⟩
              | true =>
                rw [hg] at x1
                have HGG := Lib.hid hg
                clear hg
                go_wp2
                go_roundw
                case rel => exact ⟨k + 1, t + m, by omega, by go_num, rfl, by omega, by omega, HSS.out, HG.out, fun j y mm hj hy hmm h => by
                  by_cases e : j = k
                  · subst e
                    obtain rfl := Option.some.inj (HXQ.out.symm.trans hy)
                    have h2 := h.2
                    rw [show x.rq.g = x.g from rfl, HGG.out] at h2
                    cases h2
                  · exact HNG.out j y mm (by omega) hy hmm h⟩
                case measure => simp [intOf]; omega
            · have hnegb : decide (m < 0) = false := by simpa using hneg
              have HNN := Lib.hid hneg
              clear hneg
              go_wp2
              go_roundw
              case rel => exact ⟨k + 1, t + m, by omega, by go_num, rfl, by omega, by omega, HSS.out, HG.out, fun j y mm hj hy hmm h => by
                by_cases e : j = k
                · subst e
                  obtain rfl := Option.some.inj (HMM.out.symm.trans hmm)
                  exact HNN.out h.1
                · exact HNG.out j y mm (by omega) hy hmm h⟩
              case measure => simp [intOf]; omega
          · have hkb : decide ((k : Int) < nq) = false := by simp; omega
            obtain rfl : k = nq := by omega
            have hT := sumF_end (Nat.le_of_eq HNQ.out) HT.out
            have hP2 := HPb.out
            rw [prNeg_end (fun j x m hx hm => HNG.out j x m (by have h1 := (List.getElem?_eq_some_iff.1 hm).1; have := HNQ.out; omega) hx hm), if_neg (by decide)] at hP2
            have HPc := Lib.hid hP2
            have HTT := Lib.hid hT
            have HSS := Lib.hid S
            have d1 := S.blk_cell (i := 0) rfl 1
            have hk24 : (k : Int) ≤ 24 := by have := HQN.out; omega
            clear HPb hT hP2 HT HNG S
            go_wp2_with fail
            clear d1
            go_loopw [82, 12] (fun i v w' => ∃ (k' : Nat) (t' : Int), k' ≤ ns ∧ i = .int .i64 k' ∧ v = .int .i64 t' ∧ -23999999976 - 7999999992 * (k' : Int) ≤ t' ∧ t' ≤ 23999999976 + 7999999992 * (k' : Int) ∧ St W w' [blk W.heap.size 82 #[.slice Aq k cq, .slice As ns cs], blk (W.heap.size + 1) 28 #[.int .i64 0]] ∧
              Hid (t' + prSum (p.sl.drop k') (l.drop k') = sumF p.rq + prSum p.sl l)) (fun i _ _ => ns - (intOf i).toNat)
            case atStart => exact ⟨0, t, Nat.zero_le _, rfl, rfl, by omega, by omega, HSS.out, by show _ = _; rw [List.drop_zero, List.drop_zero, HTT.out]⟩
            case round =>
              obtain ⟨j, t', hj, rfl, rfl, hu1, hu2, S, HU⟩ := hrel
              clear HSS
              by_cases hjl : j < ns
              · obtain ⟨b, o, m, hA, hm, hcm⟩ := (HS.out.below S.bel).int hjl
                cases hA
                have hjn : j < nl := by have := HSN.out; omega
                have hjni : (j : Int) < nl := by omega
                obtain ⟨b2, o2, x, hA, hx, x0, x1, x2⟩ := (HL.out.below S.bel).elem3 (k := j) (fun s : Slot => .int .i64 s.m) (fun s : Slot => .int .i64 s.h) (fun s : Slot => .int .i64 s.p) (fun _ => rfl) hjn
                cases hA
                have hmb := HOK2.out.2 m (List.mem_of_getElem? hm)
                have hxb := (HOKAY.out.slot x (List.mem_of_getElem? hx)).2.2.2.2
                have HG := Lib.hid (prSum_go hm hx HU.out)
                have hmul : -7999999992 ≤ m * x.p ∧ m * x.p ≤ 7999999992 := by
                  obtain ⟨a1, a2⟩ := hxb
                  rcases Int.le_total 0 m with h | h
                  · have h1 := Int.mul_le_mul hmb.2 a2 (by omega) (by omega)
                    have h2 := Int.mul_nonneg h (show 0 ≤ x.p by omega)
                    omega
                  · have h1 := Int.mul_le_mul (show -m ≤ 999999999 by omega) a2 (by omega) (by omega)
                    have h2 := Int.mul_nonneg (show 0 ≤ -m by omega) (show 0 ≤ x.p by omega)
                    rw [Int.neg_mul] at h1 h2
                    omega
                have HSS := Lib.hid S
                have hmm1 : IntKind.i64.wrap (m * x.p) = m * x.p := IntWalk.i64_in _ (by omega)
                clear hm hx x0 x1 S
                generalize hmx : m * x.p = mx at *
                go_wp2
                go_roundw
                case rel => exact ⟨j + 1, t' + mx, by omega, by go_num, rfl, by omega, by omega, HSS.out, HG.out⟩
                case measure => simp [intOf]; omega
              · have hjb : decide ((j : Int) < ns) = false := by simp; omega
                have hU := prSum_end (ps := p.sl) (l := l) (k := j) (by have := HNS.out; omega) HU.out
                have HUU := Lib.hid hU
                have HSS := Lib.hid S
                have hjj : j = ns := by omega
                clear hU HU S
                go_wp2_with fail
                refine (wishes_any _ _ _ _).mono ?_
                rintro e w7 ⟨rfl, hw7⟩
                have S7 := HSS.out.alloc (.cells #[.slice A n c] 60)
                have hbx : w7.cell? ⟨wr.heap.size, 0, none⟩ = some (.slice A n c) := by
                  rw [hw7]
                  show (wr.alloc (.cells #[.slice A n c] 60)).cell? _ = _
                  simp
                have hw7' : w7 = wr.alloc (.cells #[.slice A n c] 60) := hw7
                rw [← hw7'] at S7
                have hsz : W.heap.size ≤ w7.heap.size := S7.size
                clear hw7 hw7' HSS
                go_wp2
                have HRW : RdReqs w7 (· < W.heap.size) (.slice A n c) n rs := ⟨HR.out.1.below S7.bel, fun r hr => ⟨(HR.out.2 r hr).1.below S7.bel, (HR.out.2 r hr).2⟩⟩
                have HQ7 := Lib.hid HNQ.out
                refine (wpIn_wide (n := 5)).1 ?_
                refine wpIn_rangeFunc_ownH (F := Fence.wide) rfl (by decide) (gf := 136) (lb := #[.pointer (some ⟨wr.heap.size, 0, none⟩)]) rfl trivial (enters Tryz.func136 (by kernel_rfl) rfl)
                  (wishes1_stops 4 (by decide) w7 wr.heap.size W.heap.size n c A rs hbx HRW hsz) belowK_t (belowK_b hsz) (Below.refl _ _) (fun _ => rfl)
                  (fun (pre : List { p : Nat × Wish // IsW rs p }) X => StB W w7.heap.size X [blk W.heap.size 82 #[.slice Aq k cq, .slice As ns cs], blk (W.heap.size + 1) 28 #[.int .i64 0]] ∧ ∀ q ∈ pre, lowW p q.1 = false)
                  (fun cd _ X => cd = .ret ∧ StB W w7.heap.size X [blk W.heap.size 82 #[.slice Aq k cq, .slice As ns cs], blk (W.heap.size + 1) 28 #[.int .i64 21]] ∧ ∃ q : { p : Nat × Wish // IsW rs p }, lowW p q.1 = true)
                  (fun s X Y row hs hg hr => ⟨hs.1.turn hg fun r e => (hr r e).1, hs.2⟩) (fun _ _ _ _ _ hs hg hr => ⟨hs.1, hs.2.1.turn hg fun r e => (hr r e).1, hs.2.2⟩) ⟨S7.toB, fun _ h => by cases h⟩
                  (fun q a' X => RoundP W.heap.size w7.heap.size q.1.1 q.1.2 a' X)
                  (fun q a' _ X Y row hs hg hr => ?hax) ?assign ?body ?done ?stop
                case hax =>
                  obtain ⟨h1, h2, h3, h4, h6, Bx, h7, h8, h9⟩ := hs
                  exact ⟨h1, h2, h3, h4, h6, Bx, h7, h8, (hg.block Bx (Array.getElem?_eq_some_iff.1 h9).1 (fun e => by obtain ⟨_, o, ho, hc⟩ := hr Bx e.symm; rw [h9] at ho; cases ho; cases hc)).trans h9⟩
                case assign =>
                  intro lp pre q X K hi hK
                  gi_wp2
                  exact hK _ _ ((KeepsOthers.alloc _ _).from _) ((Below.refl _ X).alloc hi.1.bel.size _) ⟨hi.1.ext ((Below.refl _ _).alloc (Nat.le_refl _) _), hi.2⟩ ⟨rfl, rfl, rfl, rfl, rfl, X.heap.size, hi.1.hi, rfl, heap_alloc_new X _⟩
                case stop =>
                  intro D cd pre X hD _ hIx hK
                  obtain ⟨rfl, hS, q, hq⟩ := hIx
                  have S8 := hS.push_obj hD hK
                  have hlow : prLow p.sl (rs.map Req.rq) p.rq = true := by
                    obtain ⟨⟨iq, yq⟩, xq, hxq, hyq⟩ := q
                    refine (prLow_iff (by rw [HNQ.out, List.length_map, HQN.out, HN.out])).2 ⟨iq, xq.rq, yq, by rw [List.getElem?_map, hxq]; rfl, hyq, by simpa [lowW] using hq⟩
                  have HF : Hid (checkProof l (rs.map Req.rq) val p = 21) := by show _ = _; rw [HPc.out, if_pos hlow]
                  have HEND := Lib.hid (S8.obj_set (i := 2) rfl (.deferred none))
                  clear hS hq hlow S8
                  gi_wp2
                  refine ⟨by simp, .inl ⟨_, _, rfl, run_takeDeferred hK, ?_⟩⟩
                  refine ⟨_, res_cp _ _ (W.heap.size + 1) 21 rfl (HEND.out.blk_cell (i := 1) rfl 0), ?_⟩
                  rw [HF.out]
                  exact ⟨rfl, HEND.out.bel⟩
                case body =>
                  intro lp pre q a' X hlp hrec hI hA5 hlen5
                  obtain ⟨h1, h2, h3, h4, h6, Bx, h7, h8, h9⟩ := hA5
                  obtain ⟨T, dfs⟩ := a'
                  dsimp only at h1 h2 h3 h4 h6 h8
                  subst h6
                  obtain ⟨f, rfl⟩ := frame125 h1 h2 h3 h4 h8
                  clear h1 h2 h3 h4 h8 hrec
                  obtain ⟨S8, hpre⟩ := hI
                  obtain ⟨⟨i5, y⟩, x, hx, hy⟩ := q
                  dsimp only at hx hy h9 hlen5
                  have hyb := HOKAY.out.wish x.rq (List.mem_of_getElem? (i := i5) (by rw [List.getElem?_map, hx]; rfl)) y hy
                  obtain ⟨ys, yw⟩ := y
                  dsimp only at hyb h9
                  obtain ⟨j5, rfl⟩ : ∃ j5 : Nat, ys = j5 := ⟨ys.toNat, by omega⟩
                  have hjl5 : (j5 : Int) < l.length := hyb.1.2
                  have hj5 : j5 < ns := by have := HSN.out; have := HNL.out; omega
                  have hi5 : i5 < k := by have h1 := (List.getElem?_eq_some_iff.1 hx).1; have := HQN.out; have := HN.out; omega
                  obtain ⟨bq, oq, mq, hAq, hmq, cq0⟩ := (HQ.out.below S8.st.bel).int hi5
                  obtain ⟨bs, os, ms, hAs, hms, cs0⟩ := (HS.out.below S8.st.bel).int hj5
                  subst hAq hAs
                  have hmqb := HOK2.out.1 mq (List.mem_of_getElem? hmq)
                  have hmsb := HOK2.out.2 ms (List.mem_of_getElem? hms)
                  have HLOW : Hid (lowW p (i5, ⟨j5, yw⟩) = decide (mq + ms < yw)) := by
                    show _ = _
                    rw [lowW, List.getD_eq_getElem?_getD, hmq, List.getD_eq_getElem?_getD, Int.toNat_natCast, hms, Option.getD_some, Option.getD_some]
                  have hbx0 : X.cell? ⟨Bx, 0, none⟩ = some (.int .i64 j5) := by rw [cell_of_row X Bx 0 _ _ _ h9]; rfl
                  have hbx1 : X.cell? ⟨Bx, 1, none⟩ = some (.int .i64 yw) := by rw [cell_of_row X Bx 1 _ _ _ h9]; rfl
                  have d0 := S8.st.blk_cell (i := 0) rfl 0
                  have d1 := S8.st.blk_cell (i := 0) rfl 1
                  have l0 := World.block_lt_of_cell? X _ d0
                  have l1 := World.block_lt_of_cell? X _ hbx0
                  have l2 := World.block_lt_of_cell? X _ cq0
                  have l3 := World.block_lt_of_cell? X _ cs0
                  have HS8 := Lib.hid S8
                  have HPRE := Lib.hid hpre
                  have HX5 := Lib.hid hx
                  have HY5 := Lib.hid hy
                  clear hyb hmq hms h9 S8 hpre
                  gi_wp2
                  refine wpIn_cls 14 (fun w' => Below X.heap.size X w') (by kernel_rfl) (by kernel_rfl) (by kernel_rfl) (Below.refl _ _).drew ?_
                  simp only [List.take_succ_cons, List.take_zero, List.drop_succ_cons, List.drop_zero]
                  generalize hK : (fun w' => Below X.heap.size X w') = K
                  intro hne
                  have kb : ∀ y : Wd K, Below X.heap.size X y.w := by subst hK; exact fun y => y.h
                  have k0 : ∀ y : Wd K, y.w.cell? ⟨W.heap.size, 0, none⟩ = _ := fun y => ((kb y).cell (p := ⟨W.heap.size, 0, none⟩) l0).trans d0
                  have k1 : ∀ y : Wd K, y.w.cell? ⟨W.heap.size, 1, none⟩ = _ := fun y => ((kb y).cell (p := ⟨W.heap.size, 1, none⟩) l0).trans d1
                  have k2 : ∀ y : Wd K, y.w.cell? ⟨Bx, 0, none⟩ = _ := fun y => ((kb y).cell (p := ⟨Bx, 0, none⟩) l1).trans hbx0
                  have k3 : ∀ y : Wd K, y.w.cell? ⟨Bx, 1, none⟩ = _ := fun y => ((kb y).cell (p := ⟨Bx, 1, none⟩) l1).trans hbx1
                  have k4 : ∀ y : Wd K, y.w.cell? ⟨bq, oq + i5, none⟩ = _ := fun y => ((kb y).cell (p := ⟨bq, oq + i5, none⟩) l2).trans cq0
                  have k5 : ∀ y : Wd K, y.w.cell? ⟨bs, os + j5, none⟩ = _ := fun y => ((kb y).cell (p := ⟨bs, os + j5, none⟩) l3).trans cs0
                  clear hK d0 d1 hbx0 hbx1 cq0 cs0
                  repeat (go_big_quiet_step (fail))
                  refine wpQuiet_nil ?_
                  intro z
                  have hb := kb z
                  have HS9 := Lib.hid (HS8.out.ext hb)
                  clear k0 k1 k2 k3 k4 k5 kb hne l0 l1 l2 l3
                  generalize z.w = w8 at *
                  by_cases hlow : mq + ms < yw
                  · have hlowb : decide (mq + ms < yw) = true := by simpa using hlow
                    have HLW : Hid (lowW p (i5, ⟨j5, yw⟩) = true) := by show _ = _; rw [HLOW.out, hlowb]
                    have f0 := HS9.out.st.blk_cell (i := 1) rfl 0
                    have f1 := HS9.out.st.blk_frozen (i := 1) rfl 0
                    have HS10 := Lib.hid (HS9.out.blk_set (i := 1) rfl 0 (.int .i64 21))
                    clear hlow
                    gi_wp2
                    exact ⟨(keeps_below hb).trans ((KeepsOthers.setCell _ _ _).from _), rfl, HS10.out, ⟨(i5, ⟨j5, yw⟩), x, HX5.out, HY5.out⟩, HLW.out⟩
                  · have hlowb : decide (mq + ms < yw) = false := by simpa using hlow
                    have HLW : Hid (lowW p (i5, ⟨j5, yw⟩) = false) := by show _ = _; rw [HLOW.out, hlowb]
                    clear hlow
                    gi_wp2
                    refine ⟨keeps_below hb, hb.mono HS8.out.st.bel.size, HS9.out, fun q hq => ?_⟩
                    rcases List.mem_append.1 hq with hq | hq
                    · exact HPRE.out q hq
                    · obtain rfl := List.mem_singleton.1 hq
                      exact HLW.out
                case done =>
                  intro D xs X hD hSS hI hK
                  have S8 := hI.1.push_obj hD hK
                  have hxs : xs.map Subtype.val = wl 0 rs := hSS
                  have hlow : prLow p.sl (rs.map Req.rq) p.rq = false := by
                    rw [Bool.eq_false_iff]
                    intro h
                    obtain ⟨kq, xq, yq, g1, g2, g3⟩ := (prLow_iff (by rw [HNQ.out, List.length_map, HQN.out, HN.out])).1 h
                    rw [List.getElem?_map] at g1
                    cases hkq : rs[kq]? with
                    | none => rw [hkq] at g1; cases g1
                    | some xr =>
                      rw [hkq] at g1
                      obtain rfl := Option.some.inj g1
                      have hmem : (kq, yq) ∈ wl 0 rs := mem_wl.2 ⟨kq, xr, hkq, by simp, g2⟩
                      rw [← hxs] at hmem
                      obtain ⟨q, hq, hqe⟩ := List.mem_map.1 hmem
                      have h5 := hI.2 q hq
                      rw [hqe, lowW] at h5
                      simp only [decide_eq_false_iff_not] at h5
                      exact h5 g3
                  have hP2 := HPc.out
                  rw [hlow, if_neg (by decide), ← HUU.out] at hP2
                  have HPd := Lib.hid hP2
                  have d1 := S8.blk_cell (i := 0) rfl 1
                  have hE2 := enters Tryz.func94 (by kernel_rfl) rfl
                  have HAN := Lib.hid (fun w (hb : Below W.heap.size W w) => anyInt_any w (.slice As ns cs) p.sl 94 hE2 (fun n => decide (n < 0)) (by rw [HNS.out]; exact HS.out.later hb) cp2_any)
                  have HS8 := Lib.hid S8
                  clear hI hSS hxs hlow hP2 hE2 S8 hbx hsz HRW S7
                  generalize (p.sl.any fun n => decide (n < 0)) = an at *
                  have HW : Hid (∀ b : Bool, (decide (t' ≠ val) || an) = b → checkProof l (rs.map Req.rq) val p = whenE b 21) := fun b hb => by rw [HPd.out, hb]
                  cases htv : (t' != val)
                  · have hE : Hid (checkProof l (rs.map Req.rq) val p = whenE an 21) := by
                      show _ = _
                      rw [HW.out an (by rw [show decide (t' ≠ val) = false by simpa using htv, Bool.false_or])]
                    go_wp2_with fail
                    refine (HAN.out _ HS8.out.bel).mono ?_
                    rintro e w8 ⟨rfl, hb8⟩
                    have S9 := HS8.out.ext hb8
                    have hK9 := S9.obj_at (i := 2) rfl
                    have f0 := S9.blk_cell (i := 1) rfl 0
                    have f1 := S9.blk_frozen (i := 1) rfl 0
                    have S10 := S9.blk_set (i := 1) rfl 0 (.int .i64 (whenE an 21))
                    have hK10 := S10.obj_at (i := 2) rfl
                    have HEND := Lib.hid (S10.obj_set (i := 2) rfl (.deferred none))
                    clear S9 S10 hK hK9 hb8
                    go_wp2_with (go_at_call 53; refine (when_any _ _ _).mono ?_; rintro e w' ⟨rfl, rfl⟩)
                    refine ⟨by simp, .inl ⟨_, _, rfl, run_takeDeferred hK10, ?_⟩⟩
                    refine ⟨_, res_cp _ _ (W.heap.size + 1) (whenE an 21) rfl (HEND.out.blk_cell (i := 1) rfl 0), ?_⟩
                    rw [hE.out]
                    exact ⟨rfl, HEND.out.bel⟩
                  · have hE : Hid (checkProof l (rs.map Req.rq) val p = whenE true 21) := by
                      show _ = _
                      rw [HW.out true (by rw [show decide (t' ≠ val) = true by simpa using htv, Bool.true_or])]
                    have f0 := HS8.out.blk_cell (i := 1) rfl 0
                    have f1 := HS8.out.blk_frozen (i := 1) rfl 0
                    have S10 := HS8.out.blk_set (i := 1) rfl 0 (.int .i64 (whenE true 21))
                    have hK10 := S10.obj_at (i := 2) rfl
                    have HEND := Lib.hid (S10.obj_set (i := 2) rfl (.deferred none))
                    clear S10 hK
                    go_wp2_with (go_at_call 53; refine (when_any _ _ _).mono ?_; rintro e w' ⟨rfl, rfl⟩)
                    refine ⟨by simp, .inl ⟨_, _, rfl, run_takeDeferred hK10, ?_⟩⟩
                    refine ⟨_, res_cp _ _ (W.heap.size + 1) (whenE true 21) rfl (HEND.out.blk_cell (i := 1) rfl 0), ?_⟩
                    rw [hE.out]
                    exact ⟨rfl, HEND.out.bel⟩
end Go.Proofs.YtlffgdmljioaoaaGreatDoor
