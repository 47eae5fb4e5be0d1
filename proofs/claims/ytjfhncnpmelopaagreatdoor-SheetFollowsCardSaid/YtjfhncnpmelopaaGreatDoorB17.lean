/- Part 17 of the walks of the golf union's program: WK1, WT2, WT3. -/
import Derived.Test.YtjfhncnpmelopaaGreatDoorB16
import Derived.Outline
import Derived.IntWalk
import Derived.Test.YtjfhncnpmelopaaGreatDoorB14
import Derived.Laws.EntriesVeiled
set_option linter.unusedVariables false
set_option linter.unusedSimpArgs false
set_option linter.unusedSectionVars false
set_option linter.constructorNameAsVariable false
/- Walks: CheckProof. -/
namespace Go.Sheet
theorem prNeg_stop {rs : List RQ} {ps : List Int} {k : Nat} {x : RQ} {n : Int} (hx : rs[k]? = some x) (hn : ps[k]? = some n) (h : n < 0 ∧ x.g = false) : prNeg rs ps = true := by
  induction k generalizing rs ps with
  | zero =>
    match rs, ps, hx, hn with
    | y :: rs, m :: ps, hx, hn =>
      simp at hx hn; subst hx hn
      rw [prNeg]; simp [h.1, h.2]
  | succ k ih =>
    match rs, ps, hx, hn with
    | y :: rs, m :: ps, hx, hn =>
      simp only [List.getElem?_cons_succ] at hx hn
      rw [prNeg, ih hx hn]; simp
theorem prNeg_end {rs : List RQ} {ps : List Int} (h : ∀ (k : Nat) (x : RQ) (n : Int), rs[k]? = some x → ps[k]? = some n → ¬ (n < 0 ∧ x.g = false)) : prNeg rs ps = false := by
  induction rs generalizing ps with
  | nil => rw [prNeg]; intros; contradiction
  | cons x rs ih =>
    match ps with
    | [] => rw [prNeg]; intros; contradiction
    | n :: ps =>
      have h0 := h 0 x n rfl rfl
      rw [prNeg, ih fun k y m hy hm => h (k + 1) y m (by simpa using hy) (by simpa using hm), Bool.or_false, Bool.eq_false_iff]
      intro hh
      simp at hh
      exact h0 hh
theorem prSum_go {ps : List Int} {l : List Slot} {k : Nat} {n s t : Int} {x : Slot} (hn : ps[k]? = some n) (hx : l[k]? = some x) (e : s + prSum (ps.drop k) (l.drop k) = t) : s + n * x.p + prSum (ps.drop (k + 1)) (l.drop (k + 1)) = t := by
  rw [← e, drop_at hn, drop_at hx, prSum]; omega
theorem prSum_end {ps : List Int} {l : List Slot} {k : Nat} {s t : Int} (h : ps.length ≤ k) (e : s + prSum (ps.drop k) (l.drop k) = t) : s = t := by
  rw [← e, List.drop_of_length_le h, prSum]
  · omega
  · intros; contradiction
/-- a wish that the prices do not reach -/
def lowW (p : PR) (w : Nat × Wish) : Bool := decide (p.rq.getD w.1 0 + p.sl.getD w.2.s.toNat 0 < w.2.w)
theorem prLow_iff {sl : List Int} {rs : List RQ} {ps : List Int} (hl : ps.length = rs.length) : prLow sl rs ps = true ↔ ∃ (k : Nat) (x : RQ) (w : Wish), rs[k]? = some x ∧ w ∈ x.ws ∧ ps.getD k 0 + sl.getD w.s.toNat 0 < w.w := by
  induction rs generalizing ps with
  | nil => 
    constructor
    · intro h; rw [prLow] at h
      · cases h
      · intros; contradiction
    · rintro ⟨k, x, w, h, _⟩; simp at h
  | cons y rs ih =>
    match ps, hl with
    | n :: ps, hl =>
      rw [prLow, Bool.or_eq_true, ih (by simpa using hl), wishLow, List.any_eq_true]
      constructor
      · rintro (⟨w, hw, h⟩ | ⟨k, x, w, h1, h2, h3⟩)
        · exact ⟨0, y, w, rfl, hw, by simpa using h⟩
        · exact ⟨k + 1, x, w, by simpa using h1, h2, by simpa using h3⟩
      · rintro ⟨k, x, w, h1, h2, h3⟩
        cases k with
        | zero => simp at h1; subst h1; exact .inl ⟨w, h2, by simpa using h3⟩
        | succ k => exact .inr ⟨k, x, w, by simpa using h1, h2, by simpa using h3⟩
theorem mem_wl {rs : List Req} {p : Nat × Wish} : ∀ {k : Nat}, p ∈ wl k rs ↔ ∃ i x, rs[i]? = some x ∧ p.1 = k + i ∧ p.2 ∈ x.ws := by
  induction rs with
  | nil => intro k; simp [wl]
  | cons y rs ih =>
    intro k
    rw [wl, List.mem_append, List.mem_map, ih]
    constructor
    · rintro (⟨w, hw, rfl⟩ | ⟨i, x, h1, h2, h3⟩)
      · exact ⟨0, y, rfl, rfl, hw⟩
      · exact ⟨i + 1, x, by simpa using h1, by omega, h3⟩
    · rintro ⟨i, x, h1, h2, h3⟩
      cases i with
      | zero => simp at h1; subst h1; exact .inl ⟨p.2, h3, by ext <;> simp [h2]⟩
      | succ i => exact .inr ⟨i, x, by simpa using h1, by omega, h3⟩
theorem proofE1_ok {l : List Slot} {rs : List RQ} {v : Int} {p : PR} (h : proofE1 l rs v p = 0) : checkRequests l rs = 0 ∧ p.rq.length = rs.length ∧ p.sl.length = l.length ∧ -999999999 ≤ v ∧ v ≤ 999999999 := by
  rw [proofE1, fst_zero] at h
  simp only [List.mem_cons, List.not_mem_nil, or_false, forall_eq_or_imp, forall_eq] at h
  obtain ⟨h1, h2, h3⟩ := h
  rw [whenE_zero _ _ (by decide), Bool.or_eq_false_iff, decide_eq_false_iff_not, decide_eq_false_iff_not] at h3
  have := (outE_zero _ _ _).1 h2
  exact ⟨h1, by omega, by omega, this⟩
theorem proofE2_ok {p : PR} (h : proofE2 p = 0) : (∀ x ∈ p.rq, -999999999 ≤ x ∧ x ≤ 999999999) ∧ ∀ x ∈ p.sl, -999999999 ≤ x ∧ x ≤ 999999999 := by
  rw [proofE2, fst_zero] at h
  simp only [List.mem_cons, List.not_mem_nil, or_false, forall_eq_or_imp, forall_eq] at h
  exact ⟨eachF_out h.1, eachF_out h.2⟩
end Go.Sheet
namespace Go.Proofs.YtjfhncnpmelopaaGreatDoor
open Go.RowKit Go.Mem Go.Sheet Go.Shelf
attribute [local go_sem] Oper.semAt_some
theorem anyInt_any (W : World) (v : Value) (l : List Int) (g : Nat) (eg : Enters Tryz.prog g) (p : Int → Bool) (h : Rd W (· < W.heap.size) 1 v l.length (l.map (Value.int .i64)))
    (hC : ∀ (W : World) (n : Int), Calls Tryz.prog g #[.int .i64 n] W fun e w' => e = .returned (.bool (p n)) ∧ W = w') :
    Calls Tryz.prog 104 #[v, .func (.func g) #[] #[]] W fun e w' => e = .returned (.bool (l.any p)) ∧ Below W.heap.size W w' := by
  have HC := Lib.hid (idx_Int W v l.length l g eg #[] (fun w => Below W.heap.size W w) p (fun _ hb => (h.below hb).mono fun _ _ _ => trivial) (Below.refl _ _) (fun k x w _ hb => (hC w x).mono fun e w' ⟨h1, h2⟩ => ⟨h1, h2 ▸ hb⟩))
  have HA := Lib.hid (idxF_any p l 0)
  obtain ⟨A, c, rfl, _, _, _⟩ := h.open_
  clear h
  generalize idxF p 0 l = ix at *
  go_enter Tryz.func104, Tryz.ntmps104
  go_wp2_with fail
  refine HC.out.mono ?_
  rintro e w2 ⟨rfl, hb⟩
  go_wp2
  go_ret
  exact ⟨ret_bool HA.out, hb⟩
theorem res_cp (tmps : Array Value) (w : World) (g : Nat) (v : Int) (hp : tmps.getD 8 undef = .pointer (some ⟨g, 0, none⟩)) (hc : w.cell? ⟨g, 0, none⟩ = some (.int .i64 v)) :
    (results Tryz.f39 tmps).run Tryz.prog w = .ok (.int .i64 v) w := by
  have hp' : tmps[8]?.getD undef = .pointer (some ⟨g, 0, none⟩) := by simpa using hp
  simp [results, Tryz.results39, hp', hc, go_sem]
/-- how CheckProof ends -/
def RetInt (W : World) (v : Int) (e : Ending) (w' : World) : Prop := e = .returned (.int .i64 v) ∧ Below W.heap.size W w'
/-- the frame of a round of CheckProof -/
def RoundP (g B5 : Nat) (i : Nat) (y : Wish) (a : Act) (X : World) : Prop :=
  a.tmps.size = 125 ∧ a.tmps.getD 7 undef = .pointer (some ⟨g, 0, none⟩) ∧ a.tmps.getD 8 undef = .pointer (some ⟨g + 1, 0, none⟩) ∧ a.tmps.getD 17 undef = .int .i64 i ∧ a.defers = [] ∧
    ∃ Bx, B5 ≤ Bx ∧ a.tmps.getD 18 undef = .pointer (some ⟨Bx, 0, none⟩) ∧ X.heap[Bx]? = some (.cells #[.int .i64 y.s, .int .i64 y.w] 51 (0, 0))
set_option maxRecDepth 100000 in
set_option maxHeartbeats 4000000 in
theorem checkProof_any (W : World) (vl pq ps : Value) (nl n c : Nat) (A : Option Addr) (val : Int) (l : List Slot) (rs : List Req) (p : PR) (hl : Rd W (· < W.heap.size) 3 vl nl (l.flatMap Slot.cells)) (h : RdReqs W (· < W.heap.size) (.slice A n c) n rs)
    (hq : Rd W (· < W.heap.size) 1 pq p.rq.length (p.rq.map (Value.int .i64))) (hs : Rd W (· < W.heap.size) 1 ps p.sl.length (p.sl.map (Value.int .i64))) :
    Calls Tryz.prog 39 #[vl, .slice A n c, .int .i64 val, .agg #[pq, ps]] W (RetInt W (checkProof l (rs.map Req.rq) val p)) := by
  have HN := Lib.hid (h.1.count (f := Req.cells) (size := 3) (fun _ => rfl) (by decide))
  have HNL := Lib.hid (hl.count (f := Slot.cells) (size := 3) (fun _ => rfl) (by decide))
  have HL := Lib.hid hl
  have HR := Lib.hid h
  have HQ := Lib.hid hq
  have HS := Lib.hid hs
  have bn := h.1.le
  have bnl := hl.le
  have bq := hq.le
  have bs := hs.le
  obtain ⟨Al, cl, rfl, _, _, _⟩ := hl.open_
  obtain ⟨Aq, cq, rfl, _, _, _⟩ := hq.open_
  obtain ⟨As, cs, rfl, _, _, _⟩ := hs.open_
  have HCR := Lib.hid (fun w (hb : Below W.heap.size W w) => checkRequests_any w _ _ nl n l rs (HL.out.later hb) (reqs_later HR.out hb))
  have HP : Hid (checkProof l (rs.map Req.rq) val p = if proofE1 l (rs.map Req.rq) val p ≠ 0 then proofE1 l (rs.map Req.rq) val p else if proofE2 p ≠ 0 then proofE2 p else if prNeg (rs.map Req.rq) p.rq then 21 else if prLow p.sl (rs.map Req.rq) p.rq then 21 else whenE (decide (sumF p.rq + prSum p.sl l ≠ val) || p.sl.any fun n => decide (n < 0)) 21) := rfl
  have HE1 : Hid (fst [checkRequests l (rs.map Req.rq), outE val (-999999999) 999999999, whenE (((p.rq.length : Int) != n) || ((p.sl.length : Int) != nl)) 2] = proofE1 l (rs.map Req.rq) val p) := by
    show _ = _
    have e1 : ((p.rq.length : Int) != n) = decide (p.rq.length ≠ (rs.map Req.rq).length) := by rw [List.length_map, ← HN.out, Bool.eq_iff_iff]; simp only [bne_iff_ne, decide_eq_true_eq, ne_eq, Int.ofNat_inj]
    have e2 : ((p.sl.length : Int) != nl) = decide (p.sl.length ≠ l.length) := by rw [← HNL.out, Bool.eq_iff_iff]; simp only [bne_iff_ne, decide_eq_true_eq, ne_eq, Int.ofNat_inj]
    rw [proofE1, e1, e2]
  clear hl h hq hs
  generalize HNQ : p.rq.length = nq at *
  generalize HNS : p.sl.length = ns at *
  have S0 : St W ((W.alloc (.cells #[.slice Aq nq cq, .slice As ns cs] 74)).alloc (.cells #[.int .i64 0] 30)) [blk W.heap.size 74 #[.slice Aq nq cq, .slice As ns cs], blk (W.heap.size + 1) 30 #[.int .i64 0]] := by
    have := ((St.refl W).blk_new #[.slice Aq nq cq, .slice As ns cs] 74).blk_new #[.int .i64 0] 30
    simpa using this
  refine (callsIn_wide (n := 6)).1 (callsIn_of_wp_marks Tryz.func39 rfl trivial (wpIn_wide.2 ?_) rfl)
  simp only [Tryz.ntmps39, List.size_toArray, List.length_cons, List.length_nil, Nat.reduceAdd, Nat.reduceSub, Array.replicate_succ, Array.replicate_zero, List.push_toArray, List.append_toArray, List.nil_append, List.cons_append]
  go_wp2_with fail
  generalize hW2 : (W.alloc (.cells #[.slice Aq nq cq, .slice As ns cs] 74)).alloc (.cells #[.int .i64 0] 30) = W2 at *
  clear hW2
  have d0 := S0.blk_cell (i := 0) rfl 0
  have d1 := S0.blk_cell (i := 0) rfl 1
  have hg0 : W.heap.size < W2.heap.size := (S0.blk_at (i := 0) rfl).2.1
  have HB2 := Lib.hid S0.bel
  have HS0 := Lib.hid S0
  clear S0
  generalize checkRequests l (rs.map Req.rq) = CR at *
  have hguard : ((nq : Int) != n) = true ∨ ((nq : Int) != n) = false := by cases ((nq : Int) != n) <;> simp
  refine wp_cls 20 (fun w' => Below W2.heap.size W2 w') (by kernel_rfl) (by kernel_rfl) (Below.refl _ _).drew ?_
  simp only [List.take_succ_cons, List.take_zero, List.drop_succ_cons, List.drop_zero]
  have hK2 : ∀ w w' : World, Below W2.heap.size W2 w → Below w.heap.size w w' → Below W2.heap.size W2 w' := fun w w' h h' => h.trans (h'.mono h.size)
  generalize hK : (fun w' => Below W2.heap.size W2 w') = K
  intro hne
  have kb : ∀ y : Wd K, Below W2.heap.size W2 y.w := by subst hK; exact fun y => y.h
  have hK3 : ∀ w w' : World, K w → Below w.heap.size w w' → K w' := by subst hK; exact hK2
  have k0 : ∀ y : Wd K, y.w.cell? ⟨W.heap.size, 0, none⟩ = some (.slice Aq nq cq) := fun y => ((kb y).cell (p := ⟨W.heap.size, 0, none⟩) hg0).trans d0
  have k1 : ∀ y : Wd K, y.w.cell? ⟨W.heap.size, 1, none⟩ = some (.slice As ns cs) := fun y => ((kb y).cell (p := ⟨W.heap.size, 1, none⟩) hg0).trans d1
  have HC1 : Hid (∀ y : Wd K, Calls Tryz.prog 81 #[.slice Al nl cl, .slice A n c] y.w fun e w' => e = .returned (.int .i64 CR) ∧ Below y.w.heap.size y.w w') := fun y => HCR.out _ (HB2.out.trans ((kb y).mono HB2.out.size))
  clear hK hK2
  rcases hguard with hgd | hgd
  all_goals
    repeat (go_big_quiet_step ((first | (go_at_call 94; exact cls_same (when_any _ _ _)) | (go_at_call 97; exact cls_same (outside_any _ _ _ _)) | (go_at_call 81; exact cls_below hK3 (HC1.out _)))))
    refine wpQuiet_nil ?_
    intro y
    have hb := kb y
    clear k0 k1 kb hK3 hne HC1
    generalize y.w = w3 at *
    have hE1 := HE1.out
    rw [hgd] at hE1
    first | rw [Bool.true_or] at hE1 | rw [Bool.false_or] at hE1
    have HE1 := Lib.hid hE1
    clear hE1
    have S3 := HS0.out.ext hb
    clear hb
    go_wp2_with fail
  · refine (first3 _ _ CR (outE val (-999999999) 999999999) (whenE true 2) (by simp) (by simp) (by simp) (by simp)).mono ?_
    have hne : proofE1 l (rs.map Req.rq) val p ≠ 0 := by
      rw [← HE1.out]
      simp only [fst, whenE, if_true]
      split <;> first | assumption | (split <;> first | assumption | decide)
    rw [HE1.out]
    rintro e w' ⟨rfl, rfl⟩
    have S4 := S3.alloc (.cells #[.int .i64 CR, .int .i64 (outE val (-999999999) 999999999), .int .i64 (whenE true 2)] 30)
    generalize w3.alloc (.cells #[.int .i64 CR, .int .i64 (outE val (-999999999) 999999999), .int .i64 (whenE true 2)] 30) = w4 at *
    have HF : Hid (checkProof l (rs.map Req.rq) val p = proofE1 l (rs.map Req.rq) val p) := by show _ = _; rw [HP.out, if_pos hne]
    have hneb : (proofE1 l (rs.map Req.rq) val p != 0) = true := by simpa using hne
    have f0 := S4.blk_cell (i := 1) rfl 0
    have f1 := S4.blk_frozen (i := 1) rfl 0
    have S5 := S4.blk_set (i := 1) rfl 0 (.int .i64 (proofE1 l (rs.map Req.rq) val p))
    have HS5 := Lib.hid S5
    clear hne S3 S4 S5
    generalize proofE1 l (rs.map Req.rq) val p = E1 at *
    go_wp2
    refine ⟨_, res_cp _ _ (W.heap.size + 1) E1 rfl (HS5.out.blk_cell (i := 1) rfl 0), ?_⟩
    rw [HF.out]
    exact ⟨rfl, HS5.out.bel⟩
  · refine (first3 _ _ CR (outE val (-999999999) 999999999) (whenE ((ns : Int) != nl) 2) (by simp) (by simp) (by simp) (by simp)).mono ?_
    rw [HE1.out]
    rintro e w' ⟨rfl, rfl⟩
    have S4 := S3.alloc (.cells #[.int .i64 CR, .int .i64 (outE val (-999999999) 999999999), .int .i64 (whenE ((ns : Int) != nl) 2)] 30)
    generalize w3.alloc (.cells #[.int .i64 CR, .int .i64 (outE val (-999999999) 999999999), .int .i64 (whenE ((ns : Int) != nl) 2)] 30) = w4 at *
    have HS4 := Lib.hid S4
    clear S3 HE1 S4
    by_cases h0 : proofE1 l (rs.map Req.rq) val p ≠ 0
    · have HF : Hid (checkProof l (rs.map Req.rq) val p = proofE1 l (rs.map Req.rq) val p) := by show _ = _; rw [HP.out, if_pos h0]
      have hneb : (proofE1 l (rs.map Req.rq) val p != 0) = true := by simpa using h0
      have f0 := HS4.out.blk_cell (i := 1) rfl 0
      have f1 := HS4.out.blk_frozen (i := 1) rfl 0
      have HS5 := Lib.hid (HS4.out.blk_set (i := 1) rfl 0 (.int .i64 (proofE1 l (rs.map Req.rq) val p)))
      clear h0
      generalize proofE1 l (rs.map Req.rq) val p = E1 at *
      go_wp2
      refine ⟨_, res_cp _ _ (W.heap.size + 1) E1 rfl (HS5.out.blk_cell (i := 1) rfl 0), ?_⟩
      rw [HF.out]
      exact ⟨rfl, HS5.out.bel⟩
    · have h00 : proofE1 l (rs.map Req.rq) val p = 0 := by omega
      have hok1 := proofE1_ok h00
      have hP2 := HP.out
      rw [if_neg h0] at hP2
      have hneb : (proofE1 l (rs.map Req.rq) val p != 0) = false := by simpa using h00
      have hokay := okay_of hok1.1
      have HPa := Lib.hid hP2
      clear HP
      have hE := enters Tryz.func102 (by kernel_rfl) rfl
      have HQE := Lib.hid (fun w (hb : Below W.heap.size W w) => each_ints w (.slice Aq nq cq) p.rq 102 hE bigE (by rw [HNQ]; exact HQ.out.later hb) cp1_any)
      have HSE := Lib.hid (fun w (hb : Below W.heap.size W w) => each_ints w (.slice As ns cs) p.sl 102 hE bigE (by rw [HNS]; exact HS.out.later hb) cp1_any)
      have HE2 : Hid (fst [eachF (fun _ n => bigE n) 0 p.rq, eachF (fun _ n => bigE n) 0 p.sl] = proofE2 p) := rfl
      have hqn : nq = n := by rw [← HNQ, hok1.2.1, List.length_map, HN.out]
      have hsn : ns = nl := by rw [← HNS, hok1.2.2.1, HNL.out]
      have hn24 : n ≤ 24 := by have := hokay.nr; rw [List.length_map, ← HN.out] at this; exact this
      have hnl24 : nl ≤ 24 := by have := hokay.nl; rw [← HNL.out] at this; exact this
      have HQN := Lib.hid hqn
      have HSN := Lib.hid hsn
      have HOKAY := Lib.hid hokay
      have HNQ := Lib.hid HNQ
      have HNS := Lib.hid HNS
      have hval := hok1.2.2.2
      clear h0 hP2 hE hqn hsn hokay hok1 hgd h00
      generalize proofE1 l (rs.map Req.rq) val p = E1 at *
      generalize eachF (fun _ n => bigE n) 0 p.rq = X1 at *
      generalize eachF (fun _ n => bigE n) 0 p.sl = X2 at *
      go_wp2_with fail
      have d0 := HS4.out.blk_cell (i := 0) rfl 0
      have d1 := HS4.out.blk_cell (i := 0) rfl 1
      have hg0 : W.heap.size < w4.heap.size := (HS4.out.blk_at (i := 0) rfl).2.1
      have HB4 := Lib.hid HS4.out.bel
      refine wp_cls 8 (fun w' => Below w4.heap.size w4 w') (by kernel_rfl) (by kernel_rfl) (Below.refl _ _).drew ?_
      simp only [List.take_succ_cons, List.take_zero, List.drop_succ_cons, List.drop_zero]
      have hK2 : ∀ w w' : World, Below w4.heap.size w4 w → Below w.heap.size w w' → Below w4.heap.size w4 w' := fun w w' h h' => h.trans (h'.mono h.size)
      generalize hK : (fun w' => Below w4.heap.size w4 w') = K
      intro hne
      have kb : ∀ y : Wd K, Below w4.heap.size w4 y.w := by subst hK; exact fun y => y.h
      have hK3 : ∀ w w' : World, K w → Below w.heap.size w w' → K w' := by subst hK; exact hK2
      have k0 : ∀ y : Wd K, y.w.cell? ⟨W.heap.size, 0, none⟩ = some (.slice Aq nq cq) := fun y => ((kb y).cell (p := ⟨W.heap.size, 0, none⟩) hg0).trans d0
      have k1 : ∀ y : Wd K, y.w.cell? ⟨W.heap.size, 1, none⟩ = some (.slice As ns cs) := fun y => ((kb y).cell (p := ⟨W.heap.size, 1, none⟩) hg0).trans d1
      have HC1 : Hid (∀ y : Wd K, Calls Tryz.prog 95 #[.slice Aq nq cq, .func (.func 102) #[] #[]] y.w fun e w' => e = .returned (.int .i64 X1) ∧ Below y.w.heap.size y.w w') := fun y => HQE.out _ (HB4.out.trans ((kb y).mono HB4.out.size))
      have HC2 : Hid (∀ y : Wd K, Calls Tryz.prog 95 #[.slice As ns cs, .func (.func 102) #[] #[]] y.w fun e w' => e = .returned (.int .i64 X2) ∧ Below y.w.heap.size y.w w') := fun y => HSE.out _ (HB4.out.trans ((kb y).mono HB4.out.size))
      clear hK hK2 d0 d1
      repeat (go_big_quiet_step ((first | (go_at_call 95; with_reducible exact cls_below hK3 (HC1.out _)) | (go_at_call 95; with_reducible exact cls_below hK3 (HC2.out _)))))
      refine wpQuiet_nil ?_
      intro y
      have S5 := HS4.out.ext (kb y)
      clear k0 k1 kb hK3 hne HC1 HC2 HS4 HB4 hg0
      generalize y.w = w5 at *
      go_wp2_with fail
      refine (first2 _ _ X1 X2 (by simp) (by simp) (by simp)).mono ?_
      rw [HE2.out]
      rintro e w' ⟨rfl, rfl⟩
      have S6 := S5.alloc (.cells #[.int .i64 X1, .int .i64 X2] 30)
      generalize w5.alloc (.cells #[.int .i64 X1, .int .i64 X2] 30) = w6 at *
      have HS6 := Lib.hid S6
      clear S5 S6 HE2 HQE HSE
      by_cases h2 : proofE2 p ≠ 0
      · have HF : Hid (checkProof l (rs.map Req.rq) val p = proofE2 p) := by show _ = _; rw [HPa.out, if_pos h2]
        have hneb2 : (proofE2 p != 0) = true := by simpa using h2
        have f0 := HS6.out.blk_cell (i := 1) rfl 0
        have f1 := HS6.out.blk_frozen (i := 1) rfl 0
        have HS5 := Lib.hid (HS6.out.blk_set (i := 1) rfl 0 (.int .i64 (proofE2 p)))
        clear h2
        generalize proofE2 p = E2 at *
        go_wp2
        refine ⟨_, res_cp _ _ (W.heap.size + 1) E2 rfl (HS5.out.blk_cell (i := 1) rfl 0), ?_⟩
        rw [HF.out]
        exact ⟨rfl, HS5.out.bel⟩
      · have h22 : proofE2 p = 0 := by omega
        have hok2 := proofE2_ok h22
        have hP2 := HPa.out
        rw [if_neg h2] at hP2
        have hneb2 : (proofE2 p != 0) = false := by simpa using h22
        have HPb := Lib.hid hP2
        clear HPa
        have HOK2 := Lib.hid hok2
        clear h2 hP2 hok2 h22
        generalize proofE2 p = E2 at *
        have d0 := HS6.out.blk_cell (i := 0) rfl 0
        go_wp2_with fail
        clear d0
        go_loopw [60, 12] (fun i v w' => ∃ (k : Nat) (t : Int), k ≤ nq ∧ i = .int .i64 k ∧ v = .int .i64 t ∧ -999999999 * (k : Int) ≤ t ∧ t ≤ 999999999 * (k : Int) ∧ St W w' [blk W.heap.size 74 #[.slice Aq nq cq, .slice As ns cs], blk (W.heap.size + 1) 30 #[.int .i64 0]] ∧
          Hid (t + sumF (p.rq.drop k) = sumF p.rq) ∧ Hid (∀ (j : Nat) (x : RQ) (m : Int), j < k → (rs.map Req.rq)[j]? = some x → p.rq[j]? = some m → ¬ (m < 0 ∧ x.g = false))) (fun i _ _ => nq - (intOf i).toNat)
        case atStart => exact ⟨0, 0, Nat.zero_le _, rfl, rfl, by omega, by omega, HS6.out, by show _ = _; simp, fun j _ _ hj => by omega⟩
        case round =>
          obtain ⟨k, t, hk, rfl, rfl, ht1, ht2, S, HT, HNG⟩ := hrel
          clear HS6
          by_cases hlt : k < nq
          · obtain ⟨b, o, m, hA, hm, hcm⟩ := (HQ.out.below S.bel).int hlt
            cases hA
            have hkn : k < n := by have := HQN.out; omega
            have hkni : (k : Int) < n := by omega
            obtain ⟨b2, o2, x, hA, hx, x0, x1, x2⟩ := (HR.out.1.below S.bel).elem3 (k := k) (fun s : Req => .string s.name) (fun s : Req => .bool s.g) (fun s : Req => .slice s.wa s.wn s.wc) (fun _ => rfl) hkn
            cases hA
            have hmb := HOK2.out.1 m (List.mem_of_getElem? hm)
            have hxq : (rs.map Req.rq)[k]? = some x.rq := by rw [List.getElem?_map, hx]; rfl
            have HG := Lib.hid (sumF_go hm HT.out)
            have HXQ := Lib.hid hxq
            have HMM := Lib.hid hm
            have HSS := Lib.hid S
            have f0 := S.blk_cell (i := 1) rfl 0
            have f1 := S.blk_frozen (i := 1) rfl 0
            have HS5 := Lib.hid (S.blk_set (i := 1) rfl 0 (.int .i64 21))
            clear hm hx hxq x0 x2 S
            have hsum : -9223372036854775808 ≤ t + m ∧ t + m ≤ 9223372036854775807 := by omega
            by_cases hneg : m < 0
            · have hnegb : decide (m < 0) = true := by simpa using hneg
              cases hg : x.g with
              | false =>
                have HF : Hid (checkProof l (rs.map Req.rq) val p = 21) := by show _ = _; rw [HPb.out, prNeg_stop HXQ.out HMM.out ⟨hneg, hg⟩]; rfl
                rw [hg] at x1
                go_wp2
                refine ⟨_, res_cp _ _ (W.heap.size + 1) 21 rfl (HS5.out.blk_cell (i := 1) rfl 0), ?_⟩
                rw [HF.out]
                exact ⟨rfl, HS5.out.bel⟩
              | true =>
                rw [hg] at x1
                have HGG := Lib.hid hg
                clear hg
                go_wp2
                go_roundw
                case rel => exact ⟨k + 1, t + m, by omega, by go_num, rfl, by omega, by omega, HSS.out, HG.out, fun j y mm hj hy hmm h => by
                  by_cases e : j = k
                  · subst e
                    obtain rfl := Option.some.inj (HXQ.out.symm.trans hy)
                    have h2 := h.2
                    rw [show x.rq.g = x.g from rfl, HGG.out] at h2
                    cases h2
                  · exact HNG.out j y mm (by omega) hy hmm h⟩
                case measure => simp [intOf]; omega
            · have hnegb : decide (m < 0) = false := by simpa using hneg
              have HNN := Lib.hid hneg
              clear hneg
              go_wp2
              go_roundw
              case rel => exact ⟨k + 1, t + m, by omega, by go_num, rfl, by omega, by omega, HSS.out, HG.out, fun j y mm hj hy hmm h => by
                by_cases e : j = k
                · subst e
                  obtain rfl := Option.some.inj (HMM.out.symm.trans hmm)
                  exact HNN.out h.1
                · exact HNG.out j y mm (by omega) hy hmm h⟩
              case measure => simp [intOf]; omega
          · have hkb : decide ((k : Int) < nq) = false := by simp; omega
            obtain rfl : k = nq := by omega
            have hT := sumF_end (Nat.le_of_eq HNQ.out) HT.out
            have hP2 := HPb.out
            rw [prNeg_end (fun j x m hx hm => HNG.out j x m (by have h1 := (List.getElem?_eq_some_iff.1 hm).1; have := HNQ.out; omega) hx hm), if_neg (by decide)] at hP2
            have HPc := Lib.hid hP2
            have HTT := Lib.hid hT
            have HSS := Lib.hid S
            have d1 := S.blk_cell (i := 0) rfl 1
            have hk24 : (k : Int) ≤ 24 := by have := HQN.out; omega
            clear HPb hT hP2 HT HNG S
            go_wp2_with fail
            clear d1
            go_loopw [82, 12] (fun i v w' => ∃ (k' : Nat) (t' : Int), k' ≤ ns ∧ i = .int .i64 k' ∧ v = .int .i64 t' ∧ -23999999976 - 7999999992 * (k' : Int) ≤ t' ∧ t' ≤ 23999999976 + 7999999992 * (k' : Int) ∧ St W w' [blk W.heap.size 74 #[.slice Aq k cq, .slice As ns cs], blk (W.heap.size + 1) 30 #[.int .i64 0]] ∧
              Hid (t' + prSum (p.sl.drop k') (l.drop k') = sumF p.rq + prSum p.sl l)) (fun i _ _ => ns - (intOf i).toNat)
            case atStart => exact ⟨0, t, Nat.zero_le _, rfl, rfl, by omega, by omega, HSS.out, by show _ = _; rw [List.drop_zero, List.drop_zero, HTT.out]⟩
            case round =>
              obtain ⟨j, t', hj, rfl, rfl, hu1, hu2, S, HU⟩ := hrel
              clear HSS
              by_cases hjl : j < ns
              · obtain ⟨b, o, m, hA, hm, hcm⟩ := (HS.out.below S.bel).int hjl
                cases hA
                have hjn : j < nl := by have := HSN.out; omega
                have hjni : (j : Int) < nl := by omega
                obtain ⟨b2, o2, x, hA, hx, x0, x1, x2⟩ := (HL.out.below S.bel).elem3 (k := j) (fun s : Slot => .int .i64 s.m) (fun s : Slot => .int .i64 s.h) (fun s : Slot => .int .i64 s.p) (fun _ => rfl) hjn
                cases hA
                have hmb := HOK2.out.2 m (List.mem_of_getElem? hm)
                have hxb := (HOKAY.out.slot x (List.mem_of_getElem? hx)).2.2.2.2
                have HG := Lib.hid (prSum_go hm hx HU.out)
                have hmul : -7999999992 ≤ m * x.p ∧ m * x.p ≤ 7999999992 := by
                  obtain ⟨a1, a2⟩ := hxb
                  rcases Int.le_total 0 m with h | h
                  · have h1 := Int.mul_le_mul hmb.2 a2 (by omega) (by omega)
                    have h2 := Int.mul_nonneg h (show 0 ≤ x.p by omega)
                    omega
                  · have h1 := Int.mul_le_mul (show -m ≤ 999999999 by omega) a2 (by omega) (by omega)
                    have h2 := Int.mul_nonneg (show 0 ≤ -m by omega) (show 0 ≤ x.p by omega)
                    rw [Int.neg_mul] at h1 h2
                    omega
                have HSS := Lib.hid S
                have hmm1 : IntKind.i64.wrap (m * x.p) = m * x.p := IntWalk.i64_in _ (by omega)
                clear hm hx x0 x1 S
                generalize hmx : m * x.p = mx at *
                go_wp2
                go_roundw
                case rel => exact ⟨j + 1, t' + mx, by omega, by go_num, rfl, by omega, by omega, HSS.out, HG.out⟩
                case measure => simp [intOf]; omega
              · have hjb : decide ((j : Int) < ns) = false := by simp; omega
                have hU := prSum_end (ps := p.sl) (l := l) (k := j) (by have := HNS.out; omega) HU.out
                have HUU := Lib.hid hU
                have HSS := Lib.hid S
                have hjj : j = ns := by omega
                clear hU HU S
                go_wp2_with fail
                refine (wishes_any _ _ _ _).mono ?_
                rintro e w7 ⟨rfl, hw7⟩
                have S7 := HSS.out.alloc (.cells #[.slice A n c] 23)
                have hbx : w7.cell? ⟨wr.heap.size, 0, none⟩ = some (.slice A n c) := by
                  rw [hw7]
                  show (wr.alloc (.cells #[.slice A n c] 23)).cell? _ = _
                  simp
                have hw7' : w7 = wr.alloc (.cells #[.slice A n c] 23) := hw7
                rw [← hw7'] at S7
                have hsz : W.heap.size ≤ w7.heap.size := S7.size
                clear hw7 hw7' HSS
                go_wp2
                have HRW : RdReqs w7 (· < W.heap.size) (.slice A n c) n rs := ⟨HR.out.1.below S7.bel, fun r hr => ⟨(HR.out.2 r hr).1.below S7.bel, (HR.out.2 r hr).2⟩⟩
                have HQ7 := Lib.hid HNQ.out
                refine (wpIn_wide (n := 5)).1 ?_
                refine wpIn_rangeFunc_ownH (F := Fence.wide) rfl (by decide) (gf := 152) (lb := #[.pointer (some ⟨wr.heap.size, 0, none⟩)]) rfl trivial (enters Tryz.func152 (by kernel_rfl) rfl)
                  (wishes1_stops 4 (by decide) w7 wr.heap.size W.heap.size n c A rs hbx HRW hsz) belowK_t (belowK_b hsz) (Below.refl _ _) (fun _ => rfl)
                  (fun (pre : List { p : Nat × Wish // IsW rs p }) X => StB W w7.heap.size X [blk W.heap.size 74 #[.slice Aq k cq, .slice As ns cs], blk (W.heap.size + 1) 30 #[.int .i64 0]] ∧ ∀ q ∈ pre, lowW p q.1 = false)
                  (fun cd _ X => cd = .ret ∧ StB W w7.heap.size X [blk W.heap.size 74 #[.slice Aq k cq, .slice As ns cs], blk (W.heap.size + 1) 30 #[.int .i64 21]] ∧ ∃ q : { p : Nat × Wish // IsW rs p }, lowW p q.1 = true)
                  (fun s X Y row hs hg hr => ⟨hs.1.turn hg fun r e => (hr r e).1, hs.2⟩) (fun _ _ _ _ _ hs hg hr => ⟨hs.1, hs.2.1.turn hg fun r e => (hr r e).1, hs.2.2⟩) ⟨S7.toB, fun _ h => by cases h⟩
                  (fun q a' X => RoundP W.heap.size w7.heap.size q.1.1 q.1.2 a' X)
                  (fun q a' _ X Y row hs hg hr => ?hax) ?assign ?body ?done ?stop
                case hax =>
                  obtain ⟨h1, h2, h3, h4, h6, Bx, h7, h8, h9⟩ := hs
                  exact ⟨h1, h2, h3, h4, h6, Bx, h7, h8, (hg.block Bx (Array.getElem?_eq_some_iff.1 h9).1 (fun e => by obtain ⟨_, o, ho, hc⟩ := hr Bx e.symm; rw [h9] at ho; cases ho; cases hc)).trans h9⟩
                case assign =>
                  intro lp pre q X K hi hK
                  gi_wp2
                  exact hK _ _ ((KeepsOthers.alloc _ _).from _) ((Below.refl _ X).alloc hi.1.bel.size _) ⟨hi.1.ext ((Below.refl _ _).alloc (Nat.le_refl _) _), hi.2⟩ ⟨rfl, rfl, rfl, rfl, rfl, X.heap.size, hi.1.hi, rfl, heap_alloc_new X _⟩
                case stop =>
                  intro D cd pre X hD _ hIx hK
                  obtain ⟨rfl, hS, q, hq⟩ := hIx
                  have S8 := hS.push_obj hD hK
                  have hlow : prLow p.sl (rs.map Req.rq) p.rq = true := by
                    obtain ⟨⟨iq, yq⟩, xq, hxq, hyq⟩ := q
                    refine (prLow_iff (by rw [HNQ.out, List.length_map, HQN.out, HN.out])).2 ⟨iq, xq.rq, yq, by rw [List.getElem?_map, hxq]; rfl, hyq, by simpa [lowW] using hq⟩
                  have HF : Hid (checkProof l (rs.map Req.rq) val p = 21) := by show _ = _; rw [HPc.out, if_pos hlow]
                  have HEND := Lib.hid (S8.obj_set (i := 2) rfl (.deferred none))
                  clear hS hq hlow S8
                  gi_wp2
                  refine ⟨by simp, .inl ⟨_, _, rfl, run_takeDeferred hK, ?_⟩⟩
                  refine ⟨_, res_cp _ _ (W.heap.size + 1) 21 rfl (HEND.out.blk_cell (i := 1) rfl 0), ?_⟩
                  rw [HF.out]
                  exact ⟨rfl, HEND.out.bel⟩
                case body =>
                  intro lp pre q a' X hlp hrec hI hA5 hlen5
                  obtain ⟨h1, h2, h3, h4, h6, Bx, h7, h8, h9⟩ := hA5
                  obtain ⟨T, dfs⟩ := a'
                  dsimp only at h1 h2 h3 h4 h6 h8
                  subst h6
                  obtain ⟨f, rfl⟩ := frame125 h1 h2 h3 h4 h8
                  clear h1 h2 h3 h4 h8 hrec
                  obtain ⟨S8, hpre⟩ := hI
                  obtain ⟨⟨i5, y⟩, x, hx, hy⟩ := q
                  dsimp only at hx hy h9 hlen5
                  have hyb := HOKAY.out.wish x.rq (List.mem_of_getElem? (i := i5) (by rw [List.getElem?_map, hx]; rfl)) y hy
                  obtain ⟨ys, yw⟩ := y
                  dsimp only at hyb h9
                  obtain ⟨j5, rfl⟩ : ∃ j5 : Nat, ys = j5 := ⟨ys.toNat, by omega⟩
                  have hjl5 : (j5 : Int) < l.length := hyb.1.2
                  have hj5 : j5 < ns := by have := HSN.out; have := HNL.out; omega
                  have hi5 : i5 < k := by have h1 := (List.getElem?_eq_some_iff.1 hx).1; have := HQN.out; have := HN.out; omega
                  obtain ⟨bq, oq, mq, hAq, hmq, cq0⟩ := (HQ.out.below S8.st.bel).int hi5
                  obtain ⟨bs, os, ms, hAs, hms, cs0⟩ := (HS.out.below S8.st.bel).int hj5
                  subst hAq hAs
                  have hmqb := HOK2.out.1 mq (List.mem_of_getElem? hmq)
                  have hmsb := HOK2.out.2 ms (List.mem_of_getElem? hms)
                  have HLOW : Hid (lowW p (i5, ⟨j5, yw⟩) = decide (mq + ms < yw)) := by
                    show _ = _
                    rw [lowW, List.getD_eq_getElem?_getD, hmq, List.getD_eq_getElem?_getD, Int.toNat_natCast, hms, Option.getD_some, Option.getD_some]
                  have hbx0 : X.cell? ⟨Bx, 0, none⟩ = some (.int .i64 j5) := by rw [cell_of_row X Bx 0 _ _ _ h9]; rfl
                  have hbx1 : X.cell? ⟨Bx, 1, none⟩ = some (.int .i64 yw) := by rw [cell_of_row X Bx 1 _ _ _ h9]; rfl
                  have d0 := S8.st.blk_cell (i := 0) rfl 0
                  have d1 := S8.st.blk_cell (i := 0) rfl 1
                  have l0 := World.block_lt_of_cell? X _ d0
                  have l1 := World.block_lt_of_cell? X _ hbx0
                  have l2 := World.block_lt_of_cell? X _ cq0
                  have l3 := World.block_lt_of_cell? X _ cs0
                  have HS8 := Lib.hid S8
                  have HPRE := Lib.hid hpre
                  have HX5 := Lib.hid hx
                  have HY5 := Lib.hid hy
                  clear hyb hmq hms h9 S8 hpre
                  gi_wp2
                  refine wpIn_cls 14 (fun w' => Below X.heap.size X w') (by kernel_rfl) (by kernel_rfl) (by kernel_rfl) (Below.refl _ _).drew ?_
                  simp only [List.take_succ_cons, List.take_zero, List.drop_succ_cons, List.drop_zero]
                  generalize hK : (fun w' => Below X.heap.size X w') = K
                  intro hne
                  have kb : ∀ y : Wd K, Below X.heap.size X y.w := by subst hK; exact fun y => y.h
                  have k0 : ∀ y : Wd K, y.w.cell? ⟨W.heap.size, 0, none⟩ = _ := fun y => ((kb y).cell (p := ⟨W.heap.size, 0, none⟩) l0).trans d0
                  have k1 : ∀ y : Wd K, y.w.cell? ⟨W.heap.size, 1, none⟩ = _ := fun y => ((kb y).cell (p := ⟨W.heap.size, 1, none⟩) l0).trans d1
                  have k2 : ∀ y : Wd K, y.w.cell? ⟨Bx, 0, none⟩ = _ := fun y => ((kb y).cell (p := ⟨Bx, 0, none⟩) l1).trans hbx0
                  have k3 : ∀ y : Wd K, y.w.cell? ⟨Bx, 1, none⟩ = _ := fun y => ((kb y).cell (p := ⟨Bx, 1, none⟩) l1).trans hbx1
                  have k4 : ∀ y : Wd K, y.w.cell? ⟨bq, oq + i5, none⟩ = _ := fun y => ((kb y).cell (p := ⟨bq, oq + i5, none⟩) l2).trans cq0
                  have k5 : ∀ y : Wd K, y.w.cell? ⟨bs, os + j5, none⟩ = _ := fun y => ((kb y).cell (p := ⟨bs, os + j5, none⟩) l3).trans cs0
                  clear hK d0 d1 hbx0 hbx1 cq0 cs0
                  repeat (go_big_quiet_step (fail))
                  refine wpQuiet_nil ?_
                  intro z
                  have hb := kb z
                  have HS9 := Lib.hid (HS8.out.ext hb)
                  clear k0 k1 k2 k3 k4 k5 kb hne l0 l1 l2 l3
                  generalize z.w = w8 at *
                  by_cases hlow : mq + ms < yw
                  · have hlowb : decide (mq + ms < yw) = true := by simpa using hlow
                    have HLW : Hid (lowW p (i5, ⟨j5, yw⟩) = true) := by show _ = _; rw [HLOW.out, hlowb]
                    have f0 := HS9.out.st.blk_cell (i := 1) rfl 0
                    have f1 := HS9.out.st.blk_frozen (i := 1) rfl 0
                    have HS10 := Lib.hid (HS9.out.blk_set (i := 1) rfl 0 (.int .i64 21))
                    clear hlow
                    gi_wp2
                    exact ⟨(keeps_below hb).trans ((KeepsOthers.setCell _ _ _).from _), rfl, HS10.out, ⟨(i5, ⟨j5, yw⟩), x, HX5.out, HY5.out⟩, HLW.out⟩
                  · have hlowb : decide (mq + ms < yw) = false := by simpa using hlow
                    have HLW : Hid (lowW p (i5, ⟨j5, yw⟩) = false) := by show _ = _; rw [HLOW.out, hlowb]
                    clear hlow
                    gi_wp2
                    refine ⟨keeps_below hb, hb.mono HS8.out.st.bel.size, HS9.out, fun q hq => ?_⟩
                    rcases List.mem_append.1 hq with hq | hq
                    · exact HPRE.out q hq
                    · obtain rfl := List.mem_singleton.1 hq
                      exact HLW.out
                case done =>
                  intro D xs X hD hSS hI hK
                  have S8 := hI.1.push_obj hD hK
                  have hxs : xs.map Subtype.val = wl 0 rs := hSS
                  have hlow : prLow p.sl (rs.map Req.rq) p.rq = false := by
                    rw [Bool.eq_false_iff]
                    intro h
                    obtain ⟨kq, xq, yq, g1, g2, g3⟩ := (prLow_iff (by rw [HNQ.out, List.length_map, HQN.out, HN.out])).1 h
                    rw [List.getElem?_map] at g1
                    cases hkq : rs[kq]? with
                    | none => rw [hkq] at g1; cases g1
                    | some xr =>
                      rw [hkq] at g1
                      obtain rfl := Option.some.inj g1
                      have hmem : (kq, yq) ∈ wl 0 rs := mem_wl.2 ⟨kq, xr, hkq, by simp, g2⟩
                      rw [← hxs] at hmem
                      obtain ⟨q, hq, hqe⟩ := List.mem_map.1 hmem
                      have h5 := hI.2 q hq
                      rw [hqe, lowW] at h5
                      simp only [decide_eq_false_iff_not] at h5
                      exact h5 g3
                  have hP2 := HPc.out
                  rw [hlow, if_neg (by decide), ← HUU.out] at hP2
                  have HPd := Lib.hid hP2
                  have d1 := S8.blk_cell (i := 0) rfl 1
                  have hE2 := enters Tryz.func105 (by kernel_rfl) rfl
                  have HAN := Lib.hid (fun w (hb : Below W.heap.size W w) => anyInt_any w (.slice As ns cs) p.sl 105 hE2 (fun n => decide (n < 0)) (by rw [HNS.out]; exact HS.out.later hb) cp2_any)
                  have HS8 := Lib.hid S8
                  clear hI hSS hxs hlow hP2 hE2 S8 hbx hsz HRW S7
                  generalize (p.sl.any fun n => decide (n < 0)) = an at *
                  have HW : Hid (∀ b : Bool, (decide (t' ≠ val) || an) = b → checkProof l (rs.map Req.rq) val p = whenE b 21) := fun b hb => by rw [HPd.out, hb]
                  cases htv : (t' != val)
                  · have hE : Hid (checkProof l (rs.map Req.rq) val p = whenE an 21) := by
                      show _ = _
                      rw [HW.out an (by rw [show decide (t' ≠ val) = false by simpa using htv, Bool.false_or])]
                    go_wp2_with fail
                    refine (HAN.out _ HS8.out.bel).mono ?_
                    rintro e w8 ⟨rfl, hb8⟩
                    have S9 := HS8.out.ext hb8
                    have hK9 := S9.obj_at (i := 2) rfl
                    have f0 := S9.blk_cell (i := 1) rfl 0
                    have f1 := S9.blk_frozen (i := 1) rfl 0
                    have S10 := S9.blk_set (i := 1) rfl 0 (.int .i64 (whenE an 21))
                    have hK10 := S10.obj_at (i := 2) rfl
                    have HEND := Lib.hid (S10.obj_set (i := 2) rfl (.deferred none))
                    clear S9 S10 hK hK9 hb8
                    go_wp2_with (go_at_call 94; refine (when_any _ _ _).mono ?_; rintro e w' ⟨rfl, rfl⟩)
                    refine ⟨by simp, .inl ⟨_, _, rfl, run_takeDeferred hK10, ?_⟩⟩
                    refine ⟨_, res_cp _ _ (W.heap.size + 1) (whenE an 21) rfl (HEND.out.blk_cell (i := 1) rfl 0), ?_⟩
                    rw [hE.out]
                    exact ⟨rfl, HEND.out.bel⟩
                  · have hE : Hid (checkProof l (rs.map Req.rq) val p = whenE true 21) := by
                      show _ = _
                      rw [HW.out true (by rw [show decide (t' ≠ val) = true by simpa using htv, Bool.true_or])]
                    have f0 := HS8.out.blk_cell (i := 1) rfl 0
                    have f1 := HS8.out.blk_frozen (i := 1) rfl 0
                    have S10 := HS8.out.blk_set (i := 1) rfl 0 (.int .i64 (whenE true 21))
                    have hK10 := S10.obj_at (i := 2) rfl
                    have HEND := Lib.hid (S10.obj_set (i := 2) rfl (.deferred none))
                    clear S10 hK
                    go_wp2_with (go_at_call 94; refine (when_any _ _ _).mono ?_; rintro e w' ⟨rfl, rfl⟩)
                    refine ⟨by simp, .inl ⟨_, _, rfl, run_takeDeferred hK10, ?_⟩⟩
                    refine ⟨_, res_cp _ _ (W.heap.size + 1) (whenE true 21) rfl (HEND.out.blk_cell (i := 1) rfl 0), ?_⟩
                    rw [hE.out]
                    exact ⟨rfl, HEND.out.bel⟩
end Go.Proofs.YtjfhncnpmelopaaGreatDoor
/- Walks: outer, inside, plus, times. -/
namespace Go.Sheet
open Go.RowKit Go.Mem
theorem outer_take {l : List Int} {k : Nat} {x : Int} (h : l[k]? = some x) : (l.take (k + 1)).map outerX = (l.take k).map outerX ++ [outerX x] ∧ (l.take (k + 1)).any outerBad = ((l.take k).any outerBad || outerBad x) := by
  rw [take_at h]; simp
theorem any_at {α : Type} {p : α → Bool} {l : List α} {k : Nat} {x : α} (h : l[k]? = some x) (hx : p x = true) : l.any p = true := List.any_eq_true.2 ⟨x, List.mem_of_getElem? h, hx⟩
end Go.Sheet
namespace Go.Proofs.YtjfhncnpmelopaaGreatDoor
open Go.RowKit Go.Mem Go.Sheet
set_option maxRecDepth 100000 in
set_option maxHeartbeats 400000 in
theorem outer_any (W : World) (v : Value) (l : List Int) (h : Rd W (· < W.heap.size) 1 v l.length (l.map (Value.int .i64))) (hl : l.length ≤ 1000000000) :
    Calls Tryz.prog 124 #[v] W (RetInts W (outerL l)) := by
  generalize HN : l.length = n at *
  obtain ⟨A, c, rfl, _, _, _⟩ := h.open_
  have HH := Lib.hid h
  have HNN := Lib.hid HN
  have HO : Hid (outerL l = if l.any outerBad then ([], 4) else (l.map outerX, 0)) := rfl
  clear h HN
  have S0 := (St.refl W).row_nil 3 1
  go_enter Tryz.func124, Tryz.ntmps124
  go_wp2
  go_loopw [9, 4] (fun i v w' => ∃ (k : Nat), k ≤ n ∧ i = .int .i64 k ∧ St W w' [row 3 1 v k (ints ((l.take k).map outerX))] ∧ Hid ((l.take k).any outerBad = false)) (fun i _ _ => n - (intOf i).toNat)
  case atStart => exact ⟨0, Nat.zero_le _, rfl, S0, rfl⟩
  case round =>
    obtain ⟨k, hk, rfl, S, HB⟩ := hrel
    clear S0
    by_cases hlt : k < n
    · obtain ⟨b, o, x, rfl, hx, hc⟩ := (HH.out.below S.bel).int hlt
      have HG := Lib.hid (outer_take hx)
      have HX := Lib.hid hx
      have HOB : Hid (outerBad x = (!(x == -1125899906842624) && (decide (x < -999999999) || decide (999999999 < x)))) := rfl
      have HOX : Hid (outerX x = if x = -1125899906842624 then -1000000000 else x) := rfl
      clear hx
      by_cases h0 : x = -1125899906842624
      · have HXX : Hid (outerX x = -1000000000) := by show _ = _; rw [HOX.out, if_pos h0]
        have HBB : Hid (outerBad x = false) := by show _ = _; rw [HOB.out, h0]; rfl
        have hxb : (x == -1125899906842624) = true := by simpa using h0
        clear h0 HOX HOB
        go_wp2_with (at_builtin; refine wpList_append_st eltI rfl _ _ rfl rfl (S.alloc _) (k := 0) rfl rfl (rd_one (by simp)) (one_int _ _) (by omega) (by omega) ?_; intro v' w' S' _)
        go_roundw
        case rel => exact ⟨k + 1, by omega, by go_num, by rw [HG.out.1, HXX.out]; simpa [ints] using S', by show _ = _; rw [HG.out.2, HB.out, HBB.out]; rfl⟩
        case measure => simp [intOf]; omega
      · have HXX : Hid (outerX x = x) := by show _ = _; rw [HOX.out, if_neg h0]
        have hxb : (x == -1125899906842624) = false := by simpa using h0
        clear h0 HOX
        by_cases h1 : x < -999999999
        · have HBB : Hid (outerBad x = true) := by show _ = _; rw [HOB.out, hxb]; simp [h1]
          have HF : Hid (outerL l = ([], 4)) := by show _ = _; rw [HO.out, if_pos (any_at HX.out HBB.out)]
          have hb := S.bel
          go_wp2
          go_ret2
          rw [HF.out]
          exact RetInts.err hb
        · by_cases h2 : 999999999 < x
          · have HBB : Hid (outerBad x = true) := by show _ = _; rw [HOB.out, hxb]; simp [h2]
            have HF : Hid (outerL l = ([], 4)) := by show _ = _; rw [HO.out, if_pos (any_at HX.out HBB.out)]
            have hb := S.bel
            go_wp2
            go_ret2
            rw [HF.out]
            exact RetInts.err hb
          · have HBB : Hid (outerBad x = false) := by show _ = _; rw [HOB.out, hxb]; simp [h1, h2]
            go_wp2_with (at_builtin; refine wpList_append_st eltI rfl _ _ rfl rfl (S.alloc _) (k := 0) rfl rfl (rd_one (by simp)) (one_int _ _) (by omega) (by omega) ?_; intro v' w' S' _)
            go_roundw
            case rel => exact ⟨k + 1, by omega, by go_num, by rw [HG.out.1, HXX.out]; simpa [ints] using S', by show _ = _; rw [HG.out.2, HB.out, HBB.out]; rfl⟩
            case measure => simp [intOf]; omega
    · have hkb : decide ((k : Int) < n) = false := by simp; omega
      obtain rfl : k = n := by omega
      have hB := HB.out
      rw [List.take_of_length_le (Nat.le_of_eq HNN.out)] at S hB
      have HF : Hid (outerL l = (l.map outerX, 0)) := by show _ = _; rw [HO.out, if_neg (by rw [hB]; decide)]
      have HS := Lib.hid S
      clear S hB
      go_wp2
      go_ret2
      rw [HF.out]
      exact ⟨_, rfl, by simpa [HNN.out, ints] using HS.out⟩
theorem plus1_any (W : World) (a b : Int) : Calls Tryz.prog 156 #[.int .i64 a, .int .i64 b] W fun e w' => e = .returned (.int .i64 (max a b)) ∧ w' = W := by
  go_enter Tryz.func156, Tryz.ntmps156
  by_cases h : a < b
  · have H : Hid (max a b = b) := by show _ = _; omega
    go_wp2
    go_ret
    exact ⟨ret_i64 H.out.symm, rfl⟩
  · have H : Hid (max a b = a) := by show _ = _; omega
    go_wp2
    go_ret
    exact ⟨ret_i64 H.out.symm, rfl⟩
theorem plus2_any (W : World) (a b : Int) (ha : -1125899906842624 ≤ a ∧ a ≤ 1125899906842624) (hb : -1125899906842624 ≤ b ∧ b ≤ 1125899906842624) : Calls Tryz.prog 157 #[.int .i64 a, .int .i64 b] W fun e w' => e = .returned (.int .i64 (prodX a b)) ∧ w' = W := by
  go_enter Tryz.func157, Tryz.ntmps157
  have HX : Hid (prodX a b = if a = -1125899906842624 ∨ b = -1125899906842624 then -1125899906842624 else a + b) := rfl
  by_cases h1 : a = -1125899906842624
  · have H : Hid (prodX a b = -1125899906842624) := by show _ = _; rw [HX.out, if_pos (.inl h1)]
    have h1b : (a == -1125899906842624) = true := by simpa using h1
    clear h1 HX
    go_wp2
    go_ret
    exact ⟨ret_i64 H.out.symm, rfl⟩
  · have h1b : (a == -1125899906842624) = false := by simpa using h1
    by_cases h2 : b = -1125899906842624
    · have H : Hid (prodX a b = -1125899906842624) := by show _ = _; rw [HX.out, if_pos (.inr h2)]
      have h2b : (b == -1125899906842624) = true := by simpa using h2
      clear h1 h2 HX
      go_wp2
      go_ret
      exact ⟨ret_i64 H.out.symm, rfl⟩
    · have H : Hid (prodX a b = a + b) := by show _ = _; rw [HX.out, if_neg (fun h => h.elim h1 h2)]
      have h2b : (b == -1125899906842624) = false := by simpa using h2
      clear h1 h2 HX
      go_wp2
      go_ret
      exact ⟨ret_i64 H.out.symm, rfl⟩
@[reducible] def plusV : Value := .agg #[.func (.func 156) #[] #[], .func (.func 157) #[] #[], .int .i64 (-1125899906842624)]
theorem plus_any (W : World) : Calls Tryz.prog 110 #[] W fun e w' => e = .returned plusV ∧ Below W.heap.size W w' := by
  go_enter Tryz.func110, Tryz.ntmps110
  go_wp2

  refine bodyPost_ret (v := plusV) ?_ rfl ⟨rfl, (Below.refl _ _).alloc (Nat.le_refl _) _⟩
  simp [results, Tryz.results110, go_sem]
end Go.Proofs.YtjfhncnpmelopaaGreatDoor
/- Walks: times, inside. -/
namespace Go.Proofs.YtjfhncnpmelopaaGreatDoor
open Go.RowKit Go.Mem Go.Sheet
set_option maxRecDepth 100000 in
set_option maxHeartbeats 1000000 in
theorem times_any (W : World) (F F' : Nat → Prop) (vr vx : Value) (r x : List Int) (A B : Int) (hr : Rd W F 1 vr r.length (r.map (Value.int .i64))) (hx : Rd W F' 1 vx x.length (x.map (Value.int .i64)))
    (hlen : r.length ≤ x.length) (hA : ∀ y ∈ r, XB A y) (hB : ∀ y ∈ x, XB B y) (h0 : 0 ≤ A) (h1 : 0 ≤ B) (hAB : A + B ≤ 1125899906842624) :
    Calls Tryz.prog 111 #[plusV, vr, vx] W fun e w' => e = .returned (.int .i64 (timesR r x)) ∧ Below W.heap.size W w' := by
  have hE1 := enters Tryz.func156 (by kernel_rfl) rfl
  have hE2 := enters Tryz.func157 (by kernel_rfl) rfl
  unfold Enters at hE1 hE2
  have HA := Lib.hid hA
  have HB := Lib.hid hB
  have hb1 := (Below.refl W.heap.size W).alloc (Nat.le_refl _) (.cells #[.func (.func 156) #[] #[], .func (.func 157) #[] #[], .int .i64 (-1125899906842624)] 179)
  have hr1 := hr.mono (S' := fun _ => True) fun _ _ _ => trivial
  have hx1 := hx.mono (S' := fun _ => True) fun _ _ _ => trivial
  have hr1 := Rd.later (hr.now) hb1
  have hx1 := Rd.later (hx.now) hb1
  have hrl := hr.le
  have hxl := hx.le
  generalize HRL : r.length = n at *
  generalize HXL : x.length = m at *
  obtain ⟨Ar, cr, rfl, _, _, _⟩ := hr.open_
  obtain ⟨Ax, cx, rfl, _, _, _⟩ := hx.open_
  have HR := Lib.hid hr1
  have HX := Lib.hid hx1
  have HRL := Lib.hid HRL
  clear hr hx hr1 hx1 hA hB
  go_enter Tryz.func111, Tryz.ntmps111
  go_wp2_with fail
  have c0 : (W.alloc (.cells #[.func (.func 156) #[] #[], .func (.func 157) #[] #[], .int .i64 (-1125899906842624)] 179)).cell? ⟨W.heap.size, 0, none⟩ = some (.func (.func 156) #[] #[]) := by simp
  have c1 : (W.alloc (.cells #[.func (.func 156) #[] #[], .func (.func 157) #[] #[], .int .i64 (-1125899906842624)] 179)).cell? ⟨W.heap.size, 1, none⟩ = some (.func (.func 157) #[] #[]) := by simp
  generalize hW1 : W.alloc (.cells #[.func (.func 156) #[] #[], .func (.func 157) #[] #[], .int .i64 (-1125899906842624)] 179) = W1 at *
  have HB1 := Lib.hid hb1
  have hg0 : W.heap.size < W1.heap.size := World.block_lt_of_cell? W1 _ c0
  clear hW1 hb1
  go_loopw [13, 7] (fun i s w' => ∃ (k : Nat) (a : Int), k ≤ n ∧ i = .int .i64 k ∧ s = .int .i64 a ∧ Below W1.heap.size W1 w' ∧ Hid (XB (A + B) a) ∧ Hid (timesF a (r.drop k) (x.drop k) = timesR r x)) (fun i _ _ => n - (intOf i).toNat)
  case atStart => exact ⟨0, _, Nat.zero_le _, rfl, rfl, Below.refl _ _, .inl rfl, rfl⟩
  case round =>
    obtain ⟨k, a, hk, rfl, rfl, hbw, HXB, he⟩ := hrel
    have e0 := (hbw.cell (p := ⟨W.heap.size, 0, none⟩) hg0).trans c0
    have e1 := (hbw.cell (p := ⟨W.heap.size, 1, none⟩) hg0).trans c1
    by_cases hlt : k < n
    · obtain ⟨b, o, y, rfl, hy, k1⟩ := (HR.out.below hbw).int hlt
      obtain ⟨b2, o2, z, rfl, hz, k2⟩ := (HX.out.below hbw).int (k := k) (by omega)
      have hkm : k < m := by omega
      have hya := HA.out y (List.mem_of_getElem? hy)
      have hzb := HB.out z (List.mem_of_getElem? hz)
      have HG := Lib.hid (timesF_go hy hz he.out)
      have HXB2 := Lib.hid (max_bd hAB HXB.out (prodX_bd hya hzb))
      have hyb : -1125899906842624 ≤ y ∧ y ≤ 1125899906842624 := by unfold XB noth at hya; omega
      have hzb' : -1125899906842624 ≤ z ∧ z ≤ 1125899906842624 := by unfold XB noth at hzb; omega
      have HP := Lib.hid (fun w => plus2_any w y z hyb hzb')
      clear hy hz hya hzb
      generalize prodX y z = p at *
      have HM := Lib.hid (fun w => plus1_any w a p)
      generalize max a p = mx at *
      go_wp2_with fail
      go_quiet ((first | (go_at_call 157; exact Calls.quiet_of_same (HP.out _)) | (go_at_call 156; exact Calls.quiet_of_same (HM.out _))))
      go_wp2
      go_roundw
      case rel => exact ⟨k + 1, mx, by omega, by go_num, rfl, below_drewN hbw _, HXB2.out, HG.out⟩
      case measure => simp [intOf]; omega
    · have hkb : decide ((k : Int) < n) = false := by simp; omega
      have HE := Lib.hid (timesF_end (k := k) (by have := HRL.out; omega) he.out)
      go_wp2
      go_ret
      exact ⟨ret_i64 HE.out, HB1.out.trans (hbw.mono HB1.out.size)⟩
theorem insideM_snoc {m : IMat} {k : Nat} {r : List Int} (h : m[k]? = some r) : insideM (m.take (k + 1)) = insideM (m.take k) ++ [innerL r] := by
  rw [take_at h, insideM, List.map_append]; rfl
theorem insideM_len (m : IMat) : (insideM m).length = m.length := by simp [insideM]
theorem innerL_len (l : List Int) : (innerL l).length = l.length := by simp [innerL]
set_option maxRecDepth 100000 in
set_option maxHeartbeats 1000000 in
theorem inside_any (W : World) (v : Value) (m : IMat) (h : RdRows W (· < W.heap.size) v m) (hl : m.length ≤ 1000000000) (hl2 : ∀ r ∈ m, r.length ≤ 1000000000) :
    Calls Tryz.prog 109 #[v] W fun e w' => ∃ v' vs, e = .returned v' ∧ vs.length = m.length ∧ St W w' ([row 33 1 v' m.length vs] ++ ownT 3 vs (insideM m)) := by
  obtain ⟨vs0, h1, h2⟩ := h
  have hvl : vs0.length = m.length := by simpa using h1.len
  generalize HN : m.length = n at *
  obtain ⟨A, c, rfl, _, _, _⟩ := h1.open_
  have HH := Lib.hid h1
  have H2 : Hid (∀ (i : Nat) (x : Value) (r : List Int), vs0[i]? = some x → m[i]? = some r → Rd W (· < W.heap.size) 1 x r.length (ints r)) := h2
  have HL2 := Lib.hid hl2
  have HNN := Lib.hid HN
  clear h1 h2 hvl HN hl2
  have S0 := (St.refl W).row_nil 33 1
  go_enter Tryz.func109, Tryz.ntmps109
  go_wp2
  go_loopw [8, 3] (fun i v w' => ∃ (k : Nat) (vs : List Value), k ≤ n ∧ i = .int .i64 k ∧ Hid (vs.length = k) ∧ St W w' ([row 33 1 v k vs] ++ ownT 3 vs (insideM (m.take k)))) (fun i _ _ => n - (intOf i).toNat)
  case atStart => exact ⟨0, [], Nat.zero_le _, rfl, rfl, S0⟩
  case round =>
    obtain ⟨k, vs, hk, rfl, HV, S⟩ := hrel
    clear S0
    by_cases hlt : k < n
    · obtain ⟨b, o, x, rfl, hx, hc⟩ := (HH.out.below S.bel).val hlt
      have hkm : k < m.length := by rw [HNN.out]; exact hlt
      have hr : m[k]? = some m[k] := List.getElem?_eq_getElem hkm
      have HG := Lib.hid (insideM_snoc hr)
      have hin := fun w (hb : Below W.heap.size W w) => inner_any w x m[k] ((H2.out k x _ hx hr).later hb) (HL2.out _ (List.getElem_mem hkm))
      have HIN := Lib.hid hin
      generalize m[k] = r at *
      have HS := Lib.hid S
      have hbw := S.bel
      clear hx hr hkm hin S
      go_wp2_with fail
      refine (HIN.out _ hbw).mono ?_
      rintro e w3 ⟨v3, rfl, S3⟩
      have S4 := HS.out.call S3
      obtain ⟨A3, c3, rfl, _, _, _⟩ := (S3.row_rd (i := 0) rfl).open_
      clear S3 hc hbw
      go_wp2_with (at_builtin; refine wpList_append_st eltL rfl _ _ rfl rfl (S4.alloc _) (k := 0) rfl rfl (rd_one (by simp)) one_slice (by omega) (by omega) ?_; intro v' w' S' _)
      go_roundw
      case rel =>
        refine ⟨k + 1, vs ++ [.slice A3 r.length c3], by omega, by go_num, by show _ = _; simp [HV.out], ?_⟩
        rw [HG.out, ownT_snoc (by rw [HV.out, insideM_len, List.length_take]; have := HNN.out; omega), innerL_len]
        simpa using S'
      case measure => simp [intOf]; omega
    · have hkb : decide ((k : Int) < n) = false := by simp; omega
      obtain rfl : k = n := by omega
      rw [List.take_of_length_le (Nat.le_of_eq HNN.out)] at S
      have HS := Lib.hid S
      clear S
      go_wp2
      go_ret
      exact ⟨_, vs, rfl, HV.out, HS.out⟩
end Go.Proofs.YtjfhncnpmelopaaGreatDoor
