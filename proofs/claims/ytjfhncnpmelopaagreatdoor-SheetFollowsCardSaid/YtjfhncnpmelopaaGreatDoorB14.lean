/- Part 14 of the walks of the golf union's program: S8g, WP4, TailP, WP5, WP6, S8f, WT1. -/
import Derived.Test.YtjfhncnpmelopaaGreatDoorB11
import Derived.Test.YtjfhncnpmelopaaGreatDoorB13
import Derived.Test.YtjfhncnpmelopaaGreatDoorB09
set_option linter.unusedVariables false
set_option linter.unusedSimpArgs false
set_option linter.unusedSectionVars false
set_option linter.constructorNameAsVariable false
/- Bounds of what played gives. -/
namespace Go.Sheet
structure TabOk (n k : Nat) (T : Tab) : Prop where
  lc : T.c.length = k
  lb : T.b.length = k
  le : T.e.length = k
  c : TOk n T.c (10000 + 360000 * k)
  b : TOk n T.b (10000 + 360000 * k)
  e : TOk n T.e (10000 + 360000 * k)
theorem playG_ok {n : Nat} {mi : List (List Int)} {ho : List Int} (hn : ho.length = n) (h36 : n ≤ 36) (hmi : ∀ r ∈ mi, ∀ x ∈ r, 0 ≤ x ∧ x ≤ 10000) :
    ∀ (rds : List Int) (k : Nat) (T : Tab), (∀ x ∈ rds, 0 ≤ x ∧ x ≤ 10000) → TabOk n k T → TabOk n (k + rds.length) (playG mi ho k rds T)
  | [], k, T, _, h => h
  | rd :: rds, k, T, hr, h => by
    have hrb := hr rd (List.mem_cons_self ..)
    have hm : ∀ x ∈ mi.getD k [], 0 ≤ x ∧ x ≤ 10000 := fun x hx => by
      rw [List.getD_eq_getElem?_getD] at hx
      cases hk : mi[k]? with
      | none => rw [hk] at hx; cases hx
      | some r => rw [hk] at hx; exact hmi r (List.mem_of_getElem? hk) x hx
    have hbd := playH_bd (g := k) h.b h.e (by omega) hm ho 0 rd hrb.1 (by omega)
    have hl : (playH k T.b T.e (mi.getD k []) 0 ho rd).length = n := by rw [playH_len, hn]
    rw [playG]
    have := playG_ok hn h36 hmi rds (k + 1) ⟨T.c ++ [(playH k T.b T.e (mi.getD k []) 0 ho rd).map (·.1)], T.b ++ [(playH k T.b T.e (mi.getD k []) 0 ho rd).map (·.2.1)], T.e ++ [(playH k T.b T.e (mi.getD k []) 0 ho rd).map (·.2.2)]⟩ (fun x hx => hr x (List.mem_cons_of_mem _ hx))
      ⟨by simp [h.lc], by simp [h.lb], by simp [h.le],
       (h.c.mono (by omega)).snoc (by rw [List.length_map, hl]) fun y hy => by obtain ⟨z, hz, rfl⟩ := List.mem_map.1 hy; have := (hbd z hz).1; omega,
       (h.b.mono (by omega)).snoc (by rw [List.length_map, hl]) fun y hy => by obtain ⟨z, hz, rfl⟩ := List.mem_map.1 hy; have := (hbd z hz).2.1; omega,
       (h.e.mono (by omega)).snoc (by rw [List.length_map, hl]) fun y hy => by obtain ⟨z, hz, rfl⟩ := List.mem_map.1 hy; have := (hbd z hz).2.2; omega⟩
    rw [List.length_cons, show k + (rds.length + 1) = k + 1 + rds.length by omega]
    exact this
theorem played_ok {p : PC} (h : POk p) : TabOk p.ho.length p.rd.length (played p) := by
  have := playG_ok (n := p.ho.length) (mi := p.mi) (ho := p.ho) rfl h.ho36 (fun r hr x hx => by have := (h.mib r hr).2 x hx; omega) p.rd 0 ⟨[], [], []⟩ h.rdb
    ⟨rfl, rfl, rfl, TOk.nil _ _, TOk.nil _ _, TOk.nil _ _⟩
  rwa [Nat.zero_add] at this
end Go.Sheet
/- Walks: Begins, Ends, Delays. -/
namespace Go.Sheet
def retE {α : Type} (e : Int) (z x : α) : α × Int := if e ≠ 0 then (z, e) else (x, 0)
def begins (p : PC) : List (List Int) × Int := retE (checkPace p) [] (played p).b
def ends (p : PC) : List (List Int) × Int := retE (checkPace p) [] (played p).e
def delays (p : PC) : List Int × Int := retE (checkPace p) [] (delayL p 0 (played p).e)
end Go.Sheet
namespace Go.Proofs.YtjfhncnpmelopaaGreatDoor
open Go.RowKit Go.Mem Go.Sheet
/-- a table and an error -/
def RetRows (W : World) (res : List (List Int) × Int) (e : Ending) (w' : World) : Prop :=
  ∃ v', e = .returned (.tuple #[v', .int .i64 res.2]) ∧ Below W.heap.size W w' ∧ RdRows w' (· < w'.heap.size) v' res.1
theorem RdRows.nil (w : World) : RdRows w (· < w.heap.size) (.slice none 0 0) [] := ⟨[], Rd.nil _ _ _, fun i x r h => by simp at h⟩
set_option maxRecDepth 100000 in
set_option maxHeartbeats 400000 in
theorem begins_any (W : World) (vr vm vh : Value) (p : PC) (h : RdPace W (· < W.heap.size) vr vm vh p) :
    Calls Tryz.prog 28 #[.agg #[vr, vm, vh]] W (RetRows W (begins p)) := by
  have hb1 := (Below.refl W.heap.size W).alloc (Nat.le_refl _) (.cells #[vr, vm, vh] 55)
  have HC := Lib.hid (played_any _ _ _ _ p (h.later hb1))
  obtain ⟨Ar, cr, rfl, _, _, _⟩ := h.rd.open_
  obtain ⟨Ah, ch, rfl, _, _, _⟩ := h.ho.open_
  obtain ⟨vs, hm1, hm2⟩ := h.mi
  obtain ⟨Am, cm, rfl, _, _, _⟩ := hm1.open_
  generalize p.rd.length = rn at *
  generalize p.ho.length = hn at *
  generalize p.mi.length = mn at *
  clear h hm1 hm2
  go_enter Tryz.func28, Tryz.ntmps28
  go_wp2_with fail
  refine HC.out.mono ?_
  clear HC
  generalize hW1 : W.alloc (.cells #[.slice Ar rn cr, .slice Am mn cm, .slice Ah hn ch] 55) = W1 at *
  clear hW1
  rintro e w2 (⟨hne, rfl, hb⟩ | ⟨h0, g, A, B, C, rfl, hb, c0, c1, c2, r0, r1, r2⟩)
  · have H : Hid (begins p = ([], checkPace p)) := by show _ = _; rw [begins, retE, if_pos hne]
    have hE : (checkPace p != 0) = true := by simpa using hne
    clear hne
    go_wp2
    go_ret2
    rw [H.out]
    exact ⟨_, rfl, hb1.trans (hb.mono hb1.size), RdRows.nil _⟩
  · have H : Hid (begins p = ((played p).b, 0)) := by show _ = _; rw [begins, retE, if_neg (by simpa using h0)]
    clear h0
    go_wp2
    go_ret2
    rw [H.out]
    exact ⟨_, rfl, hb1.trans (hb.mono hb1.size), r1⟩
set_option maxRecDepth 100000 in
set_option maxHeartbeats 400000 in
theorem ends_any (W : World) (vr vm vh : Value) (p : PC) (h : RdPace W (· < W.heap.size) vr vm vh p) :
    Calls Tryz.prog 29 #[.agg #[vr, vm, vh]] W (RetRows W (ends p)) := by
  have hb1 := (Below.refl W.heap.size W).alloc (Nat.le_refl _) (.cells #[vr, vm, vh] 55)
  have HC := Lib.hid (played_any _ _ _ _ p (h.later hb1))
  obtain ⟨Ar, cr, rfl, _, _, _⟩ := h.rd.open_
  obtain ⟨Ah, ch, rfl, _, _, _⟩ := h.ho.open_
  obtain ⟨vs, hm1, hm2⟩ := h.mi
  obtain ⟨Am, cm, rfl, _, _, _⟩ := hm1.open_
  generalize p.rd.length = rn at *
  generalize p.ho.length = hn at *
  generalize p.mi.length = mn at *
  clear h hm1 hm2
  go_enter Tryz.func29, Tryz.ntmps29
  go_wp2_with fail
  refine HC.out.mono ?_
  clear HC
  generalize hW1 : W.alloc (.cells #[.slice Ar rn cr, .slice Am mn cm, .slice Ah hn ch] 55) = W1 at *
  clear hW1
  rintro e w2 (⟨hne, rfl, hb⟩ | ⟨h0, g, A, B, C, rfl, hb, c0, c1, c2, r0, r1, r2⟩)
  · have H : Hid (ends p = ([], checkPace p)) := by show _ = _; rw [ends, retE, if_pos hne]
    have hE : (checkPace p != 0) = true := by simpa using hne
    clear hne
    go_wp2
    go_ret2
    rw [H.out]
    exact ⟨_, rfl, hb1.trans (hb.mono hb1.size), RdRows.nil _⟩
  · have H : Hid (ends p = ((played p).e, 0)) := by show _ = _; rw [ends, retE, if_neg (by simpa using h0)]
    clear h0
    go_wp2
    go_ret2
    rw [H.out]
    exact ⟨_, rfl, hb1.trans (hb.mono hb1.size), r2⟩
end Go.Proofs.YtjfhncnpmelopaaGreatDoor
/- A drawn region: first m operations that have one value in whatever world; then operations that have one value in every world of a class (calls among them); then a forced tail. -/
namespace Go.Mem
open Go Go.RowKit
variable {P : Program} {ops : Array Oper} {md : Region.Mode} {C : World → Prop}
section
variable {m n i : Nat} {oi : Oper} {v : Value} {L : Array Bool → Act → Prop}
theorem headAnyM_first (hi : ops[i]? = some oi) (hsel : ∀ (j : Nat) (o : Oper) cs b, ops[j]? = some o → o.op ≠ .select cs b) (hs : sinkFrom md ops m n = true) (hc : Region.chainB md ops n = true)
    (hn : n < ops.size) (hin : i < n) (hend : ∀ ls a, L ls a → ∀ j ∈ Region.ready md ops ls, n ≤ j) (k : Nat) :
    ∀ (ls : Array Bool) (a : Act), HeadInv md ops n ls → (∀ i < m, ls.getD i true = true) →
      (∀ j oj, ops[j]? = some oj → j ≠ i → ls.getD j true = false → (∀ e ∈ oj.after, Region.binds md e = true → e.on ≠ i) → oi.apart ops oj = true) →
      i ∈ Region.ready md ops ls → YieldsIn P ops C oi v a → headAny P md ops C n L k (ls.setIfInBounds i true) (a.put oi.dst v) → headAny P md ops C n L (k + 1) ls a := by
  have inHead : ∀ (ls : Array Bool), HeadInv md ops n ls → (∀ i < m, ls.getD i true = true) → i ∈ Region.ready md ops ls → ∀ j ∈ Region.ready md ops ls, j < n := by
    intro ls inv hm hr j hj
    rcases Nat.lt_or_ge j n with h | h
    · exact h
    · have hun := (mem_ready.1 hr).1
      have hmi : m ≤ i := by
        rcases Nat.lt_or_ge i m with h' | h'
        · rw [hm i h'] at hun; cases hun
        · exact h'
      exact absurd hj (tail_waits' hs hc hn inv _ i rfl hmi hin hun j h)
  induction k with
  | zero =>
    intro ls a inv hm _ hr hy H
    refine ⟨fun h => (by rw [h] at hr; cases hr), fun j hj => ⟨inHead ls inv hm hr j hj, ?_⟩⟩
    by_cases e : j = i
    · subst e; exact hy.qOp hi H
    · have h1 := hend _ _ H j (ready_mono hj e)
      have h2 := inHead ls inv hm hr j hj
      omega
  | succ k ih =>
    intro ls a inv hm hfree hr hy H
    refine ⟨fun h => (by rw [h] at hr; cases hr), fun j hj => ⟨inHead ls inv hm hr j hj, ?_⟩⟩
    by_cases e : j = i
    · subst e; exact hy.qOp hi H
    · obtain ⟨hju, oj, hoj, hall⟩ := mem_ready.1 hj
      have hnot : ∀ d ∈ oj.after, Region.binds md d = true → d.on ≠ i := fun d hd hb hq => by
        have h1 := hall d hd hb
        rw [hq, getD_both (mem_ready.1 hr).1] at h1
        cases h1
      have h1 := qOp_put hoj (hfree j oj hoj e hju hnot) (fun cs b => hsel i oi cs b hi) (fun cs b => hsel j oj cs b hoj) hy (H.2 j (ready_mono hj e)).2
      refine qOp_mono (fun a' h2 => ?_) h1
      refine ih (ls.setIfInBounds j true) a' (inv.set hj (inHead ls inv hm hr j hj)) (fun x hx => setAll_true [j] ls x (hm x hx)) (fun m om hm hmi hmu hno => ?_) (ready_mono hr (Ne.symm e)) h2.1 ?_
      · refine hfree m om hm hmi ?_ hno
        by_cases hjm : j = m
        · subst hjm; exact hju
        · rw [getD_set_ne true hjm] at hmu; exact hmu
      · rw [Array.setIfInBounds_comm _ _ e]
        exact h2.2
end
theorem headAnyM_lex {m n g : Nat} {R : Act → Prop} (hsel : Region.noSelect ops = true) (hs : sinkFrom md ops m n = true) (hc : Region.chainB md ops n = true) (hn : n < ops.size) (l : List Oper) :
    ∀ (k : Nat) (ls : Array Bool) (a : Act), (∀ j, j < l.length → l[j]? = ops[k + j]?) → k + l.length = n → HeadInv md ops n ls → (∀ i < m, ls.getD i true = true) → Region.lexHead md ops g l.length k ls = true → wpQuiet P ops C R l a →
      headAny P md ops C n (fun ls' a' => Region.seqB md ops g n ls' = true ∧ R a') l.length ls a := by
  induction l with
  | nil =>
    intro k ls a _ hk _ _ hB h
    obtain rfl : k = n := by simpa using hk
    exact ⟨by simpa [Region.lexHead] using hB, h⟩
  | cons o l ih =>
    intro k ls a hl hk inv hm hB h
    have h0 : ops[k]? = some o := by simpa using (hl 0 (by simp)).symm
    simp only [List.length_cons] at hk
    simp only [List.length_cons, Region.lexHead, Bool.and_eq_true] at hB
    have hkn : k < n := by omega
    have hr : k ∈ Region.ready md ops ls := by simpa using hB.1.1
    have hq : qOp P ops C k (wpQuiet P ops C R l) a := by unfold qOp; simp only [h0]; exact h
    obtain ⟨v, hy, hK⟩ := yieldsIn_of_qOp h0 hq
    refine headAnyM_first h0 (Region.noSelect_spec hsel) hs hc hn hkn (fun ls' a' hL => seqB_ready hL.1) l.length ls a inv hm (Region.free_spec h0 hB.1.2) hr hy ?_
    refine ih (k + 1) _ _ (fun j hj => ?_) (by omega) (inv.set hr hkn) (fun x hx => setAll_true [k] ls x (hm x hx)) hB.2 hK
    have := hl (j + 1) (by simp only [List.length_cons]; omega)
    simpa [Nat.add_assoc, Nat.add_comm 1 j] using this
/-- what the numbers of a region must be -/
def preTailB (ops : Array Oper) (m n : Nat) : Bool :=
  let l0 := Array.replicate ops.size false
  let l1 := setAll (List.range m) l0
  Region.noSelect ops && decide (n < ops.size) && decide (m ≤ n) && sinkFrom .any ops m n && Region.chainB .any ops n && lexIs .any ops (List.range m) l0 && Region.lexHead .any ops (ops.size - n) (n - m) m l1
/-- the law -/
theorem wp_pre_tail {id : Nat} {Q : Exit → Act → World → Prop} {a : Act} {w : World} {l : List Oper} (m n : Nat) (K : World → Prop) (hm : P.follows .mixedOrders = true) (hB : preTailB l.toArray m n = true) (hC : K w.drew)
    (h : Nonempty (Wd K) → wpQuiet P l.toArray (fun _ => True) (fun a1 => wpQuiet P l.toArray (fun w' => ∃ x : Wd K, w' = x.w) (fun a' => ∀ x : Wd K, wpList P l.toArray (NoPanic Q) (l.drop n) a' x.w) ((l.drop m).take (n - m)) a1) (l.take m) a) : (Code.region id l.toArray true).wp P Q a w := by
  simp only [preTailB, Bool.and_eq_true, decide_eq_true_eq] at hB
  obtain ⟨⟨⟨⟨⟨⟨hsel, hn⟩, hmn⟩, hs⟩, hc⟩, hpre⟩, hlex⟩ := hB
  have hQ : ∀ c a a' w, NoPanic Q (.panic c) a' w → NoPanic Q (.panic c) a w := fun _ _ _ _ h => (h : False).elim
  have inv0 : HeadInv .any l.toArray n (Array.replicate l.toArray.size false) :=
    ⟨by simp, fun j oj _ hl => (by rw [getD_replicate_false] at hl; cases hl), fun t _ ht => getD_in (by simpa using ht) (getD_replicate_false _ _)⟩
  have inv1 := HeadInv.setAll (List.range m) _ inv0 hpre fun i hi => by have := List.mem_range.1 hi; omega
  refine wp_region_noPanic (wp_region_any hm ?_)
  have hn' : n < l.length := by simpa using hn
  have hdl : (l.drop n).length = l.toArray.size - n := by simp
  have hml : ((l.drop m).take (n - m)).length = n - m := by simp; omega
  have hpk : pick l.toArray (List.range m) = l.take m := by
    refine List.ext_getElem? fun i => ?_
    have key : ∀ k, k ≤ l.length → pick l.toArray (List.range k) = l.take k := by
      intro k
      induction k with
      | zero => intro _; rfl
      | succ k ih =>
        intro hk
        rw [List.range_succ, pick, List.filterMap_append]
        have := ih (by omega)
        rw [pick] at this
        rw [this, List.take_succ_eq_append_getElem (by omega)]
        simp [show k < l.length by omega]
    rw [key m (by omega)]
  have e : (fun w' => ∃ x : Wd K, w' = x.w) = K := by
    funext w'
    exact propext ⟨fun ⟨y, hy⟩ => hy ▸ y.h, fun h => ⟨⟨w', h⟩, rfl⟩⟩
  have h1 := h ⟨⟨_, hC⟩⟩
  rw [e] at h1
  have hsz : l.toArray.size = (List.range m).length + (((l.drop m).take (n - m)).length + (l.toArray.size - n)) := by rw [List.length_range, hml]; omega
  have hfu : wpAny P .any l.toArray (NoPanic Q) ((List.range m).length + (((l.drop m).take (n - m)).length + (l.toArray.size - n))) (Array.replicate l.toArray.size false) a w.drew := by
    refine wpAny_pre hsel hQ (List.range m) _ _ hpre ?_
    rw [hpk]
    refine wpQuiet_mono' (fun a1 h3 => ?_) h1
    have H := headAnyM_lex (md := .any) (g := l.toArray.size - n) hsel hs hc hn ((l.drop m).take (n - m)) m _ a1 (fun j hj => by
      rw [hml] at hj
      rw [List.getElem?_take_of_lt hj, List.getElem?_drop]
      simp) (by rw [hml]; omega) inv1 (fun i hi => setAll_mem _ _ i (List.mem_range.2 hi)) (by rw [hml]; exact hlex) h3
    refine headAny_sound (fun ls a' w' hw' hL => ?_) _ _ _ _ hC H
    have := wpAny_of_seq (P := P) (md := .any) (Q' := NoPanic Q) (l.drop n) n ls a' w' (fun j => by simp [List.getElem?_drop]) (by rw [hdl]; exact hL.1) (hL.2 ⟨w', hw'⟩)
    rwa [hdl] at this
  rw [← hsz] at hfu
  exact hfu
end Go.Mem
/- Walks: Delays. -/
namespace Go.Sheet
theorem delayL_go {p : PC} {E : List (List Int)} {k : Nat} {r L t : List Int} {m x s : Int} (h : E[k]? = some r) (hm : r.getD (r.length - 1) 0 = m) (hx : p.rd.getD k 0 = x) (hs : sumF (p.mi.getD k []) = s) (e : L ++ delayL p k (E.drop k) = t) :
    (L ++ [m - x - s]) ++ delayL p (k + 1) (E.drop (k + 1)) = t := by
  rw [← e, drop_at h, delayL, hm, hx, hs]; simp
theorem delayL_end {p : PC} {E : List (List Int)} {k : Nat} {L t : List Int} (h : E.length ≤ k) (e : L ++ delayL p k (E.drop k) = t) : L = t := by
  rw [← e, List.drop_of_length_le h, delayL]; simp
theorem sumF_bd {l : List Int} (h : ∀ x ∈ l, 1 ≤ x ∧ x ≤ 10000) : 0 ≤ sumF l ∧ sumF l ≤ 10000 * (l.length : Int) := by
  induction l with
  | nil => simp [sumF]
  | cons x l ih =>
    have h1 := h x (List.mem_cons_self ..)
    have h2 := ih fun y hy => h y (List.mem_cons_of_mem _ hy)
    simp only [sumF, List.length_cons, Int.natCast_add, Int.natCast_one]
    omega
end Go.Sheet
namespace Go.Proofs.YtjfhncnpmelopaaGreatDoor
open Go.RowKit Go.Mem Go.Sheet
theorem natsI (l : List Int) : ∀ u ∈ l.map (Value.int .i64), u.oneCell' = true := ints_one _ _
set_option maxRecDepth 100000 in
set_option maxHeartbeats 1000000 in
theorem delays_any (W : World) (vr vm vh : Value) (p : PC) (h : RdPace W (· < W.heap.size) vr vm vh p) :
    Calls Tryz.prog 30 #[.agg #[vr, vm, vh]] W (RetInts W (delays p)) := by
  have hb1 := (Below.refl W.heap.size W).alloc (Nat.le_refl _) (.cells #[vr, vm, vh] 55)
  have HC := Lib.hid (played_any _ _ _ _ p (h.later hb1))
  have HP := Lib.hid h
  obtain ⟨Ar, cr, rfl, _, _, _⟩ := h.rd.open_
  obtain ⟨Ah, ch, rfl, _, _, _⟩ := h.ho.open_
  obtain ⟨vs, hm1, hm2⟩ := h.mi
  obtain ⟨Am, cm, rfl, _, _, _⟩ := hm1.open_
  generalize HRN : p.rd.length = rn at *
  generalize HHN : p.ho.length = hn at *
  generalize HMN : p.mi.length = mn at *
  clear h hm1 hm2
  go_enter Tryz.func30, Tryz.ntmps30
  go_wp2_with fail
  refine HC.out.mono ?_
  clear HC
  have e0 : (W.alloc (.cells #[.slice Ar rn cr, .slice Am mn cm, .slice Ah hn ch] 55)).cell? ⟨W.heap.size, 0, none⟩ = some (.slice Ar rn cr) := by simp
  have e1 : (W.alloc (.cells #[.slice Ar rn cr, .slice Am mn cm, .slice Ah hn ch] 55)).cell? ⟨W.heap.size, 1, none⟩ = some (.slice Am mn cm) := by simp
  generalize hW1 : W.alloc (.cells #[.slice Ar rn cr, .slice Am mn cm, .slice Ah hn ch] 55) = W1 at *
  have hg0 : W.heap.size < W1.heap.size := World.block_lt_of_cell? W1 _ e0
  clear hW1
  rintro e w2 (⟨hne, rfl, hb⟩ | ⟨h0, g, A, B, C, rfl, hb, c0, c1, c2, r0, r1, r2⟩)
  · have H : Hid (delays p = ([], checkPace p)) := by show _ = _; rw [delays, retE, if_pos hne]
    have hE : (checkPace p != 0) = true := by simpa using hne
    clear hne
    go_wp2
    go_ret2
    rw [H.out]
    exact RetInts.err (hb1.trans (hb.mono hb1.size))
  · have hok := pok_of h0
    have htok := played_ok hok
    have H : Hid (delays p = (delayL p 0 (played p).e, 0)) := by show _ = _; rw [delays, retE, if_neg (by simpa using h0)]
    have HB := Lib.hid (hb1.trans (hb.mono hb1.size))
    have HPP := Lib.hid (HP.out.later HB.out)
    have d0 := (hb.cell (p := ⟨W.heap.size, 0, none⟩) hg0).trans e0
    have d1 := (hb.cell (p := ⟨W.heap.size, 1, none⟩) hg0).trans e1
    have hg2 : W.heap.size < w2.heap.size := World.block_lt_of_cell? w2 _ d0
    have HOK := Lib.hid hok
    have hel := htok.le
    have HTE := Lib.hid htok.e
    rw [HRN] at hel
    have hrn : rn ≤ 24 := HRN ▸ hok.rd24
    have hhn : hn ≤ 36 := HHN ▸ hok.ho36
    have hh0 : 0 < hn := HHN ▸ hok.ho0
    generalize (played p).e = E at *
    have HR := Lib.hid r2
    obtain ⟨vs2, q1, q2⟩ := r2
    rw [hel] at q1
    obtain ⟨Ae, ce, rfl, _, _, _⟩ := q1.open_
    have HEL := Lib.hid hel
    clear h0 hok htok r0 r1 c0 c1 e0 e1 hb hb1 q1 q2 hel
    have S0 := (St.refl w2).row_nil 3 1
    go_wp2_with fail
    go_loopw [22, 6] (fun i v w' => ∃ (k : Nat) (L : List Int), k ≤ rn ∧ L.length = k ∧ i = .int .i64 k ∧ St w2 w' [row 3 1 v L.length (L.map (Value.int .i64))] ∧ Hid (L ++ delayL p k (E.drop k) = delayL p 0 E)) (fun i _ _ => rn - (intOf i).toNat)
    case atStart => exact ⟨0, [], Nat.zero_le _, rfl, rfl, S0, rfl⟩
    case round =>
      obtain ⟨k, L, hk, hLk, rfl, S, he⟩ := hrel
      have HLK := Lib.hid hLk
      have hLk' : L.length ≤ k := Nat.le_of_eq hLk
      clear S0 hLk
      by_cases hlt : k < rn
      · have hbw := S.bel
        have hkE : k < E.length := by rw [HEL.out]; exact hlt
        have hr : E[k]? = some E[k] := List.getElem?_eq_getElem hkE
        have hrl : E[k].length = hn := (HTE.out.len _ (List.getElem_mem hkE)).trans HHN
        have hrb := HTE.out.bd _ (List.getElem_mem hkE)
        obtain ⟨j, hj⟩ : ∃ j : Nat, (hn : Int) - 1 = j := ⟨hn - 1, by omega⟩
        obtain ⟨b, o, b', o', c', m, hA, k1, hc', hm, k2⟩ := rows_at (HR.out.later hbw) hr hrl (j := j) (by omega)
        cases hA
        obtain ⟨br, or_, x, hA, hx, k3⟩ := (HPP.out.rd.later hbw).int (k := k) (by rw [HRN]; exact hlt)
        cases hA
        have hkm : k < p.mi.length := by rw [HOK.out.mil, HRN]; exact hlt
        have hmr : p.mi[k]? = some (p.mi.getD k []) := by rw [List.getD_eq_getElem?_getD, List.getElem?_eq_getElem hkm, Option.getD_some]
        have hml := ((HOK.out.mib _ (List.mem_of_getElem? hmr)).1).trans HHN
        obtain ⟨vsm, n1, n2⟩ := HPP.out.mi.later hbw
        obtain ⟨bm, om, xm, hA, hxm, k4⟩ := n1.val (k := k) hkm
        cases hA
        have hrm := n2 k xm _ hxm hmr
        rw [hml] at hrm
        obtain ⟨Ax, cx, rfl, _, _, _⟩ := hrm.open_
        have k5 := (hbw.cell (p := ⟨W.heap.size, 0, none⟩) hg2).trans d0
        have k6 := (hbw.cell (p := ⟨W.heap.size, 1, none⟩) hg2).trans d1
        have hxb := HOK.out.rdb x (List.mem_of_getElem? hx)
        have hmb := hrb m (List.mem_of_getElem? hm)
        have hsb := sumF_bd (HOK.out.mib _ (List.mem_of_getElem? hmr)).2
        rw [hml] at hsb
        have hT : ∀ (w : World), Below wr.heap.size wr w → Calls Tryz.prog 90 #[.slice Ax hn cx] w fun e w' => e = .returned (.int .i64 (sumF (p.mi.getD k []))) ∧ w = w' := fun w hw =>
          total_any w _ _ (p.mi.getD k []) (by rw [hml]; exact hrm.later hw) (fun y hy => by have := (HOK.out.mib _ (List.mem_of_getElem? hmr)).2 y hy; omega) (by omega)
        have HG := Lib.hid (delayL_go hr (p := p) (L := L) (t := delayL p 0 E) (by rw [hrl, show hn - 1 = j by omega, List.getD_eq_getElem?_getD, hm, Option.getD_some]) (by rw [List.getD_eq_getElem?_getD, hx, Option.getD_some]) rfl he.out)
        generalize sumF (p.mi.getD k []) = s at *
        have HT := Lib.hid hT
        have hz : wr.heap.size = wr.heap.size := rfl
        have z1 : b < wr.heap.size := World.block_lt_of_cell? wr _ k1
        have z2 : b' < wr.heap.size := World.block_lt_of_cell? wr _ k2
        have z3 : br < wr.heap.size := World.block_lt_of_cell? wr _ k3
        have z4 : bm < wr.heap.size := World.block_lt_of_cell? wr _ k4
        have z5 : W.heap.size < wr.heap.size := World.block_lt_of_cell? wr _ k5
        have HS := Lib.hid S
        clear hr hrl hm hx hmr hml n1 n2 hrm hT hz hkE hkm hrb hxm he S
        go_wp2_with fail
        refine wp_pre_tail 1 20 (fun w' => Below wr.heap.size wr w') (by kernel_rfl) (by kernel_rfl) (Below.refl _ _).drew ?_
        simp only [List.take_succ_cons, List.take_zero, List.drop_succ_cons, List.drop_zero, Nat.reduceSub]
        generalize hK : (fun w' => Below wr.heap.size wr w') = K
        intro hne
        have kb : ∀ y : Wd K, Below wr.heap.size wr y.w := by subst hK; exact fun y => y.h
        have y1 : ∀ y : Wd K, y.w.cell? ⟨b, o + k, none⟩ = some (.slice (some ⟨b', o', none⟩) hn c') := fun y => ((kb y).cell (p := ⟨b, o + k, none⟩) z1).trans k1
        have y2 : ∀ y : Wd K, y.w.cell? ⟨b', o' + j, none⟩ = some (.int .i64 m) := fun y => ((kb y).cell (p := ⟨b', o' + j, none⟩) z2).trans k2
        have y3 : ∀ y : Wd K, y.w.cell? ⟨br, or_ + k, none⟩ = some (.int .i64 x) := fun y => ((kb y).cell (p := ⟨br, or_ + k, none⟩) z3).trans k3
        have y4 : ∀ y : Wd K, y.w.cell? ⟨bm, om + k, none⟩ = some (.slice Ax hn cx) := fun y => ((kb y).cell (p := ⟨bm, om + k, none⟩) z4).trans k4
        have y5 : ∀ y : Wd K, y.w.cell? ⟨W.heap.size, 0, none⟩ = some (.slice (some ⟨br, or_, none⟩) rn cr) := fun y => ((kb y).cell (p := ⟨W.heap.size, 0, none⟩) z5).trans k5
        have y6 : ∀ y : Wd K, y.w.cell? ⟨W.heap.size, 1, none⟩ = some (.slice (some ⟨bm, om, none⟩) mn cm) := fun y => ((kb y).cell (p := ⟨W.heap.size, 1, none⟩) z5).trans k6
        clear hK k1 k2 k3 k4 k5 k6 z1 z2 z3 z4 z5
        have hmn : k < mn := by rw [← HMN, HOK.out.mil, HRN]; exact hlt
        change wpQuiet _ _ _ _ (_ :: []) _
        go_big_quiet_step ((fail))
        refine wpQuiet_nil ?_
        repeat (go_big_quiet_step ((go_at_call 90; exact cls_same (HT.out _ (kb _)))))
        refine wpQuiet_nil ?_
        intro y
        have S1 := HS.out.ext (kb y)
        clear y1 y2 y3 y4 y5 y6 kb
        generalize y.w = w3 at *
        go_wp2_with (at_builtin; refine wpList_append_st eltI rfl _ _ rfl rfl (S1.alloc _) (k := 0) rfl rfl (rd_one (by simp)) (one_int _ _) (by omega) (by omega) ?_; intro v' w' S' _)
        refine NoPanic.normal ?_
        go_wp2
        go_roundw
        case rel => exact ⟨k + 1, L ++ [m - x - s], by omega, by simp [HLK.out], by go_num, by simpa using S', HG.out⟩
        case measure => simp [intOf]; omega
      · have hkr : decide ((k : Int) < rn) = false := by simp; omega
        have HF := Lib.hid (delayL_end (k := k) (by rw [HEL.out]; omega) he.out)
        have HSS := Lib.hid S
        clear S
        go_wp2
        go_ret2
        rw [H.out, ← HF.out]
        exact ⟨_, rfl, (St.of_below HB.out).call HSS.out⟩
end Go.Proofs.YtjfhncnpmelopaaGreatDoor
/- Walks: Bottleneck. -/
namespace Go.Sheet
theorem waitH_succ (C B : List (List Int)) (n h : Nat) : waitH C B (n + 1) h = waitH C B n h + (at2 B n h - at2 C n h) := by
  rw [waitH, waitH, List.range_succ, List.map_append, sumF_append]; simp [sumF]
theorem waitH_bd {C B : List (List Int)} {M : Int} {l : Nat} (hC : TOk l C M) (hB : TOk l B M) (h0 : 0 ≤ M) (h : Nat) : ∀ n : Nat, -M * n ≤ waitH C B n h ∧ waitH C B n h ≤ M * n := by
  intro n
  induction n with
  | zero => simp [waitH, sumF]
  | succ n ih =>
    rw [waitH_succ]
    have := hC.at_ h0 n h
    have := hB.at_ h0 n h
    rw [Int.natCast_add, Int.natCast_one, Int.mul_add, Int.mul_add, Int.neg_mul] at *
    omega
/-- the waits when g groups are counted, and of the next one the first h holes -/
def waitL (C B : List (List Int)) (n g h : Nat) : List Int := (List.range n).map fun i => waitH C B (if i < h then g + 1 else g) i
theorem waitL_at {C B : List (List Int)} {n g h i : Nat} (hi : i < n) (hh : h ≤ i) : (waitL C B n g h)[i]? = some (waitH C B g i) := by
  rw [waitL, List.getElem?_map, List.getElem?_range hi, Option.map_some, if_neg (by omega)]
theorem waitL_len (C B : List (List Int)) (n g h : Nat) : (waitL C B n g h).length = n := by simp [waitL]
theorem waitL_set {C B : List (List Int)} {n g h : Nat} (hh : h < n) : (waitL C B n g h).set h (waitH C B (g + 1) h) = waitL C B n g (h + 1) := by
  refine List.ext_getElem? fun i => ?_
  by_cases e : h = i
  · subst e
    rw [List.getElem?_set_self (by rw [waitL_len]; exact hh), waitL, List.getElem?_map, List.getElem?_range hh, Option.map_some, if_pos (by omega)]
  · rw [List.getElem?_set_ne e]
    by_cases hi : i < n
    · simp only [waitL, List.getElem?_map, List.getElem?_range hi, Option.map_some]
      by_cases h1 : i < h
      · rw [if_pos h1, if_pos (by omega)]
      · rw [if_neg h1, if_neg (by omega)]
    · rw [List.getElem?_eq_none (by rw [waitL_len]; omega), List.getElem?_eq_none (by rw [waitL_len]; omega)]
theorem waitL_end (C B : List (List Int)) (n g : Nat) : waitL C B n g n = waitL C B n (g + 1) 0 := by
  refine List.map_congr_left fun i hi => ?_
  have := List.mem_range.1 hi
  rw [if_pos this, if_neg (by omega)]
theorem waitL_zero (C B : List (List Int)) (n : Nat) : waitL C B n 0 0 = List.replicate n 0 := by
  rw [waitL, List.map_congr_left (g := fun _ => (0 : Int)) (fun i _ => by simp [waitH, sumF]), List.map_const', List.length_range]
theorem waitL_waits (p : PC) : waitL (played p).c (played p).b p.ho.length p.rd.length 0 = waits p := by
  rw [waitL, waits]; exact List.map_congr_left fun i _ => by simp
def bottleneck (p : PC) : (Int × Int) × Int := retE (checkPace p) (0, 0) (idxF (fun x => maxL (waits p) == x) 0 (waits p), maxL (waits p))
end Go.Sheet
namespace Go.Proofs.YtjfhncnpmelopaaGreatDoor
open Go.RowKit Go.Mem Go.Sheet
set_option maxRecDepth 100000 in
set_option maxHeartbeats 2000000 in
theorem bottleneck_any (W : World) (vr vm vh : Value) (p : PC) (h : RdPace W (· < W.heap.size) vr vm vh p) :
    Calls Tryz.prog 31 #[.agg #[vr, vm, vh]] W fun e w' => e = .returned (.tuple #[.int .i64 (bottleneck p).1.1, .int .i64 (bottleneck p).1.2, .int .i64 (bottleneck p).2]) ∧ Below W.heap.size W w' := by
  have hb1 := (Below.refl W.heap.size W).alloc (Nat.le_refl _) (.cells #[vr, vm, vh] 55)
  have HC := Lib.hid (played_any _ _ _ _ p (h.later hb1))
  have HP := Lib.hid h
  obtain ⟨Ar, cr, rfl, _, _, _⟩ := h.rd.open_
  obtain ⟨Ah, ch, rfl, _, _, _⟩ := h.ho.open_
  obtain ⟨vs, hm1, hm2⟩ := h.mi
  obtain ⟨Am, cm, rfl, _, _, _⟩ := hm1.open_
  generalize HRN : p.rd.length = rn at *
  generalize HHN : p.ho.length = hn at *
  generalize HMN : p.mi.length = mn at *
  clear h hm1 hm2
  go_enter Tryz.func31, Tryz.ntmps31
  go_wp2_with fail
  refine HC.out.mono ?_
  clear HC
  have e0 : (W.alloc (.cells #[.slice Ar rn cr, .slice Am mn cm, .slice Ah hn ch] 55)).cell? ⟨W.heap.size, 0, none⟩ = some (.slice Ar rn cr) := by simp
  have e1 : (W.alloc (.cells #[.slice Ar rn cr, .slice Am mn cm, .slice Ah hn ch] 55)).cell? ⟨W.heap.size, 2, none⟩ = some (.slice Ah hn ch) := by simp
  generalize hW1 : W.alloc (.cells #[.slice Ar rn cr, .slice Am mn cm, .slice Ah hn ch] 55) = W1 at *
  have hg0 : W.heap.size < W1.heap.size := World.block_lt_of_cell? W1 _ e0
  clear hW1
  rintro e w2 (⟨hne, rfl, hb⟩ | ⟨h0, g, A, B, C, rfl, hb, c0, c1, c2, r0, r1, r2⟩)
  · have H : Hid (bottleneck p = ((0, 0), checkPace p)) := by show _ = _; rw [bottleneck, retE, if_pos hne]
    have hE : (checkPace p != 0) = true := by simpa using hne
    clear hne
    go_wp2
    go_ret3
    rw [H.out]
    exact ⟨rfl, hb1.trans (hb.mono hb1.size)⟩
  · have hok := pok_of h0
    have htok := played_ok hok
    have H : Hid (bottleneck p = ((idxF (fun x => maxL (waits p) == x) 0 (waits p), maxL (waits p)), 0)) := by show _ = _; rw [bottleneck, retE, if_neg (by simpa using h0)]
    have HW := Lib.hid (waitL_waits p)
    have HB := Lib.hid (hb1.trans (hb.mono hb1.size))
    have d0 := (hb.cell (p := ⟨W.heap.size, 0, none⟩) hg0).trans e0
    have d2 := (hb.cell (p := ⟨W.heap.size, 2, none⟩) hg0).trans e1
    have hg2 : W.heap.size < w2.heap.size := World.block_lt_of_cell? w2 _ d0
    have hgg : g < w2.heap.size := World.block_lt_of_cell? w2 _ c0
    have hcl := htok.lc
    have hbl := htok.lb
    have HTC := Lib.hid htok.c
    have HTB := Lib.hid htok.b
    rw [HRN] at hcl hbl HTC HTB
    rw [HHN] at HTC HTB
    rw [HRN, HHN] at HW
    have hrn : rn ≤ 24 := HRN ▸ hok.rd24
    have hhn : hn ≤ 36 := HHN ▸ hok.ho36
    have hh0 : 0 < hn := HHN ▸ hok.ho0
    generalize (played p).b = TB at *
    generalize (played p).c = TC at *
    have HR0 := Lib.hid r0
    have HR1 := Lib.hid r1
    obtain ⟨vsc, q1, q2⟩ := r0
    obtain ⟨vsb, q3, q4⟩ := r1
    rw [hcl] at q1
    rw [hbl] at q3
    obtain ⟨Ac, cc, rfl, _, _, _⟩ := q1.open_
    obtain ⟨Ab, cb, rfl, _, _, _⟩ := q3.open_
    have HCL := Lib.hid hcl
    have HBL := Lib.hid hbl
    have hWB := fun i g => waitH_bd HTC.out HTB.out (by omega) i g
    have HWB := Lib.hid hWB
    clear h0 hok htok r2 e0 e1 hb hb1 q1 q2 q3 q4 hcl hbl hWB
    have S0 := St.refl w2
    go_wp2_with (refine wpList_make_st eltI rfl _ _ rfl (n := hn) rfl rfl S0 (by omega) (by omega) ?_; intro w3 gw S1 _ _; have g1 := (S1.bel.cell (p := ⟨W.heap.size, 0, none⟩) hg2).trans d0)
    have hz : (madeCells (Value.int .i64 0).cells (hn * 1)).toList = (waitL TC TB hn 0 0).map (Value.int .i64) := by
      show (madeCells #[.int .i64 0] (hn * 1)).toList = _
      rw [waitL_zero, toList_madeCells_one]; simp
    rw [hz] at S1
    clear hz g1 S0
    go_loopw [26] (fun i w' => ∃ (k : Nat), k ≤ rn ∧ i = .int .i64 k ∧ St w2 w' [row 3 1 (.slice (some ⟨gw, 0, none⟩) hn hn) hn ((waitL TC TB hn k 0).map (Value.int .i64))]) (fun i _ => rn - (intOf i).toNat)
    case atStart => exact ⟨0, Nat.zero_le _, rfl, S1⟩
    case round =>
      obtain ⟨k, hk, rfl, S⟩ := hrel
      clear S1
      by_cases hlt : k < rn
      · have HS := Lib.hid S
        clear S
        go_wp2
        go_loopw [31] (fun i w' => ∃ (j : Nat), j ≤ hn ∧ i = .int .i64 j ∧ St w2 w' [row 3 1 (.slice (some ⟨gw, 0, none⟩) hn hn) hn ((waitL TC TB hn k j).map (Value.int .i64))]) (fun i _ => hn - (intOf i).toNat)
        case atStart => exact ⟨0, Nat.zero_le _, rfl, HS.out⟩
        case round =>
          obtain ⟨j, hj, rfl, S⟩ := hrel
          by_cases hjl : j < hn
          · have hbw := S.bel
            have hkC : k < TC.length := by rw [HCL.out]; exact hlt
            have hkB : k < TB.length := by rw [HBL.out]; exact hlt
            obtain ⟨b, o, b', o', c', m, hA, k1, hc', hm, k2⟩ := rows_at (HR0.out.later hbw) (List.getElem?_eq_getElem hkC) (HTC.out.len _ (List.getElem_mem hkC)) hjl
            cases hA
            obtain ⟨bb, ob, bb', ob', cb', mb, hA, k3, hcb', hmb, k4⟩ := rows_at (HR1.out.later hbw) (List.getElem?_eq_getElem hkB) (HTB.out.len _ (List.getElem_mem hkB)) hjl
            cases hA
            have hmB := HTC.out.bd _ (List.getElem_mem hkC) m (List.mem_of_getElem? hm)
            have hmbB := HTB.out.bd _ (List.getElem_mem hkB) mb (List.mem_of_getElem? hmb)
            have k5 := (hbw.cell (p := ⟨g, 0, none⟩) hgg).trans c0
            have k6 := (hbw.cell (p := ⟨g, 1, none⟩) hgg).trans c1
            obtain ⟨gw', cap', hv, _, _, _, hcell, hfz⟩ := S.row_form (i := 0) rfl (by omega)
            cases hv
            have k7 := hcell j (by omega)
            rw [List.getElem?_map, waitL_at hjl (Nat.le_refl _)] at k7
            have k8 := hfz j
            simp only [Option.map_some] at k7
            have hwb := HWB.out j k
            have HE : Hid (waitH TC TB (k + 1) j = waitH TC TB k j + (mb - m)) := by
              show _ = _
              rw [waitH_succ, at2, at2, show TB.getD k [] = TB[k] by rw [List.getD_eq_getElem?_getD, List.getElem?_eq_getElem hkB, Option.getD_some], show TC.getD k [] = TC[k] by rw [List.getD_eq_getElem?_getD, List.getElem?_eq_getElem hkC, Option.getD_some],
                List.getD_eq_getElem?_getD, List.getD_eq_getElem?_getD, hm, hmb, Option.getD_some, Option.getD_some]
            have HST := Lib.hid (waitL_set (C := TC) (B := TB) (g := k) hjl)
            have hw1 : -206400000 ≤ waitH TC TB k j ∧ waitH TC TB k j ≤ 207600000 := by
              have e1 : (10000 + 360000 * (rn : Int)) * k ≤ 8650000 * k := Int.mul_le_mul_of_nonneg_right (by omega) (by omega)
              rw [Int.neg_mul] at hwb
              omega
            have hw2 : -8650000 ≤ mb - m ∧ mb - m ≤ 8650000 := by omega
            generalize waitH TC TB k j = wh at *
            have HS := Lib.hid S
            clear hm hmb hcell hfz hbw hkC hkB hwb hmB hmbB S
            go_wp2_with fail
            refine wp_cls 27 (fun w' => ∃ n, w' = wr.drewN n) (by kernel_rfl) (by kernel_rfl) ⟨1, rfl⟩ ?_
            simp only [List.take_succ_cons, List.take_zero, List.drop_succ_cons, List.drop_zero]
            generalize hK : (fun w' => ∃ n, w' = wr.drewN n) = K
            intro hne
            have kw : ∀ y : Wd K, ∃ n, y.w = wr.drewN n := by subst hK; exact fun y => y.h
            have y1 : ∀ y : Wd K, y.w.cell? ⟨b, o + k, none⟩ = some (.slice (some ⟨b', o', none⟩) hn c') := fun y => by obtain ⟨n, e⟩ := kw y; rw [e]; exact k1
            have y2 : ∀ y : Wd K, y.w.cell? ⟨b', o' + j, none⟩ = some (.int .i64 m) := fun y => by obtain ⟨n, e⟩ := kw y; rw [e]; exact k2
            have y3 : ∀ y : Wd K, y.w.cell? ⟨bb, ob + k, none⟩ = some (.slice (some ⟨bb', ob', none⟩) hn cb') := fun y => by obtain ⟨n, e⟩ := kw y; rw [e]; exact k3
            have y4 : ∀ y : Wd K, y.w.cell? ⟨bb', ob' + j, none⟩ = some (.int .i64 mb) := fun y => by obtain ⟨n, e⟩ := kw y; rw [e]; exact k4
            have y5 : ∀ y : Wd K, y.w.cell? ⟨g, 0, none⟩ = some (.slice (some ⟨b, o, none⟩) rn cc) := fun y => by obtain ⟨n, e⟩ := kw y; rw [e]; exact k5
            have y6 : ∀ y : Wd K, y.w.cell? ⟨g, 1, none⟩ = some (.slice (some ⟨bb, ob, none⟩) rn cb) := fun y => by obtain ⟨n, e⟩ := kw y; rw [e]; exact k6
            have y7 : ∀ y : Wd K, y.w.cell? ⟨gw, j, none⟩ = some (.int .i64 wh) := fun y => by obtain ⟨n, e⟩ := kw y; rw [e]; exact k7
            clear hK k1 k2 k3 k4 k5 k6
            repeat (go_big_quiet_step ((fail)))
            refine wpQuiet_nil ?_
            intro y
            obtain ⟨nn, hyn⟩ := kw y
            have hc1 := y7 y
            have hf1 : y.w.frozen? ⟨gw, j, none⟩ = false := by rw [hyn]; exact k8
            have S1 : St w2 y.w [row 3 1 (.slice (some ⟨gw, 0, none⟩) hn hn) hn ((waitL TC TB hn k j).map (Value.int .i64))] := by rw [hyn]; exact HS.out.drewN nn
            clear y1 y2 y3 y4 y5 y6 y7 kw hyn k7 k8
            generalize y.w = w4 at *
            have S2 := S1.row_set (i := 0) rfl j (.int .i64 (wh + (mb - m)))
            simp only [List.set_cons_zero] at S2
            rw [← List.map_set, show (waitL TC TB hn k j).set j (wh + (mb - m)) = waitL TC TB hn k (j + 1) from by rw [← HE.out, HST.out]] at S2
            have HS2 := Lib.hid S2
            clear S1 S2
            go_wp2
            go_roundw
            case rel => exact ⟨j + 1, by omega, by go_num, HS2.out⟩
            case measure => simp [intOf]; omega
          · have hjb : decide ((j : Int) < hn) = false := by simp; omega
            obtain rfl : j = hn := by omega
            rw [waitL_end] at S
            have HS := Lib.hid S
            clear S
            go_wp2
            go_roundw
            case rel => exact ⟨k + 1, by omega, by go_num, HS.out⟩
            case measure => simp [intOf]; omega
      · have hkb : decide ((k : Int) < rn) = false := by simp; omega
        obtain rfl : k = rn := by omega
        rw [HW.out] at S
        have hwl : (waits p).length = hn := by rw [waits, List.length_map, List.length_range, HHN]
        have hrd := (S.row_rd (i := 0) rfl).mono (S' := fun _ => True) fun _ _ _ => trivial
        rw [← hwl] at hrd
        have HM := Lib.hid (max_any _ _ _ _ hrd (by omega))
        have HI := Lib.hid (index_any _ _ _ _ (maxL (waits p)) hrd)
        rw [hwl] at HM HI
        have HBW := Lib.hid (HB.out.trans (S.bel.mono HB.out.size))
        generalize idxF (fun x => maxL (waits p) == x) 0 (waits p) = ix at *
        generalize maxL (waits p) = mx at *
        clear S hrd hwl
        go_wp2_with (first | (go_at_call 91; refine HM.out.mono ?_; rintro e w' ⟨rfl, rfl⟩) | (go_at_call 92; refine HI.out.mono ?_; rintro e w' ⟨rfl, rfl⟩))
        go_ret3
        rw [H.out]
        exact ⟨rfl, HBW.out⟩
end Go.Proofs.YtjfhncnpmelopaaGreatDoor
/- Matrices of max-plus as plain functions. -/
namespace Go.Sheet
abbrev IMat := List (List Int)
def NONE : Int := -1000000000
def noth : Int := -1125899906842624
def entryE (n : Int) : Int := if n = NONE then 0 else outE n (-999999999) 999999999
def matRowE (n : Nat) (row : List Int) : Int := fst [whenE (decide (row.length ≠ n)) 2, eachF (fun _ x => entryE x) 0 row]
def matE (m : IMat) : Int := if 24 < m.length then 5 else eachF (fun _ row => matRowE m.length row) 0 m
def innerX (n : Int) : Int := if n = NONE then noth else n
def innerL (l : List Int) : List Int := l.map innerX
def outerBad (n : Int) : Bool := !(n == noth) && (decide (n < -999999999) || decide (999999999 < n))
def outerX (n : Int) : Int := if n = noth then NONE else n
def outerL (l : List Int) : List Int × Int := if l.any outerBad then ([], 4) else (l.map outerX, 0)
def insideM (m : IMat) : IMat := m.map innerL
def prodX (a b : Int) : Int := if a = noth ∨ b = noth then noth else a + b
def timesF : Int → List Int → List Int → Int
  | acc, r :: rs, x :: xs => timesF (max acc (prodX r x)) rs xs
  | acc, _, _ => acc
def timesR (r x : List Int) : Int := timesF noth r x
def col (b : IMat) (k : Nat) : List Int := b.map fun r => r.getD k 0
def matMul (a b : IMat) : IMat := a.map fun r => (List.range b.length).map fun k => timesR r (col b k)
def resultM (m : IMat) : IMat × Int := if m.any (fun r => r.any outerBad) then ([], 4) else (m.map fun r => r.map outerX, 0)
def product (a b : IMat) : IMat × Int :=
  if fst [matE a, matE b, whenE (decide (a.length ≠ b.length)) 2] ≠ 0 then ([], fst [matE a, matE b, whenE (decide (a.length ≠ b.length)) 2])
  else resultM (matMul (insideM a) (insideM b))
def unitM (n : Nat) : IMat := (List.range n).map fun i => (List.replicate n noth).set i 0
def powM (own : IMat) : Nat → IMat
  | 0 => unitM own.length
  | n + 1 => matMul (powM own n) own
def power (m : IMat) (n : Int) : IMat × Int :=
  if fst [matE m, outE n 0 64] ≠ 0 then ([], fst [matE m, outE n 0 64]) else resultM (powM (insideM m) n.toNat)
def applyE (m : IMat) (x : List Int) : Int := fst [matE m, whenE (decide (x.length ≠ m.length)) 2, eachF (fun _ n => entryE n) 0 x]
def applyM (m : IMat) (x : List Int) : List Int × Int :=
  if applyE m x ≠ 0 then ([], applyE m x) else outerL ((insideM m).map fun r => timesR r (innerL x))
def holesE (l : List Int) : Int := fst [whenE (decide (l.length = 0)) 12, whenE (decide (24 < l.length)) 5, eachF (fun _ n => outE n 1 10000) 0 l]
def holesRow (l : List Int) (i : Nat) : List Int := (List.range l.length).map fun k => if k ≤ i then sumF ((l.take (i + 1)).drop k) else NONE
def holes (l : List Int) : IMat × Int := if holesE l ≠ 0 then ([], holesE l) else ((List.range l.length).map (holesRow l), 0)
/-- a matrix of rows of n numbers, each nothing or between -b and b -/
def XB (b x : Int) : Prop := x = noth ∨ -b ≤ x ∧ x ≤ b
structure XOk (n : Nat) (b : Int) (m : IMat) : Prop where
  len : ∀ r ∈ m, r.length = n
  bd : ∀ r ∈ m, ∀ x ∈ r, XB b x
theorem prodX_bd {a b x y : Int} (hx : XB a x) (hy : XB b y) : XB (a + b) (prodX x y) := by
  unfold prodX XB at *
  split
  · exact .inl rfl
  · rename_i h
    rcases hx with hx | hx
    · exact absurd (.inl hx) h
    · rcases hy with hy | hy
      · exact absurd (.inr hy) h
      · right; omega
theorem max_bd {b x y : Int} (hb : b ≤ 1125899906842624) (hx : XB b x) (hy : XB b y) : XB b (max x y) := by
  unfold XB noth at *
  rcases hx with hx | hx <;> rcases hy with hy | hy
  · left; omega
  · right; omega
  · right; omega
  · right; omega
theorem timesF_bd {a b : Int} (hab : a + b ≤ 1125899906842624) : ∀ (r x : List Int) (acc : Int), XB (a + b) acc → (∀ y ∈ r, XB a y) → (∀ y ∈ x, XB b y) → XB (a + b) (timesF acc r x)
  | [], _, _, h, _, _ => by rw [timesF]; exact h; intros; contradiction
  | _ :: _, [], _, h, _, _ => by rw [timesF]; exact h; intros; contradiction
  | r :: rs, x :: xs, acc, h, hr, hx => by
    rw [timesF]
    exact timesF_bd hab rs xs _ (max_bd hab h (prodX_bd (hr _ (List.mem_cons_self ..)) (hx _ (List.mem_cons_self ..)))) (fun y hy => hr y (List.mem_cons_of_mem _ hy)) (fun y hy => hx y (List.mem_cons_of_mem _ hy))
theorem innerX_bd {x : Int} (h : entryE x = 0) : XB 999999999 (innerX x) := by
  unfold entryE at h
  unfold innerX XB
  split
  · exact .inl rfl
  · rename_i hn
    rw [if_neg hn] at h
    have := (outE_zero _ _ _).1 h
    exact .inr this
end Go.Sheet
/- Walks: checkEntry, CheckMatrix, inner, outer, inside, plus, times. -/
namespace Go.Sheet
open Go.RowKit Go.Mem
theorem timesF_go {a y z t : Int} {r x : List Int} {k : Nat} (hy : r[k]? = some y) (hz : x[k]? = some z) (e : timesF a (r.drop k) (x.drop k) = t) : timesF (max a (prodX y z)) (r.drop (k + 1)) (x.drop (k + 1)) = t := by
  rw [← e, drop_at hy, drop_at hz, timesF]
theorem timesF_end {a t : Int} {r x : List Int} {k : Nat} (h : r.length ≤ k) (e : timesF a (r.drop k) (x.drop k) = t) : a = t := by
  rw [← e, List.drop_of_length_le h, timesF]; intros; contradiction
/-- owned rows -/
def ownT (e : TypeId) (vs : List Value) (M : IMat) : List Asr := (vs.zip M).map fun p => row e 1 p.1 p.2.length (ints p.2)
theorem ownT_at {e : TypeId} {vs : List Value} {M : IMat} {i : Nat} {x : Value} {r : List Int} (hx : vs[i]? = some x) (hr : M[i]? = some r) : (ownT e vs M)[i]? = some (row e 1 x r.length (ints r)) := by
  rw [ownT, List.getElem?_map, show (vs.zip M)[i]? = some (x, r) from List.getElem?_zip_eq_some.2 ⟨hx, hr⟩]; rfl
theorem ownT_snoc {e : TypeId} {vs : List Value} {M : IMat} {x : Value} {r : List Int} (h : vs.length = M.length) : ownT e (vs ++ [x]) (M ++ [r]) = ownT e vs M ++ [row e 1 x r.length (ints r)] := by
  rw [ownT, List.zip_append h, List.map_append]; rfl
theorem ownT_rows {e t : TypeId} {W w : World} {L : List Asr} {v : Value} {n : Nat} {vs : List Value} {M : IMat} {k : Nat} (h : St W w (L ++ ownT e vs M)) (hk : L[k]? = some (row t 1 v n vs)) (hl : vs.length = M.length) : RdRows w (· < w.heap.size) v M := by
  have hn : (L ++ ownT e vs M)[k]? = some (row t 1 v n vs) := by rw [List.getElem?_append_left (List.getElem?_eq_some_iff.1 hk).1]; exact hk
  have h1 := h.row_rd hn
  have hnl : n = M.length := by rw [← hl]; have := h1.len; omega
  refine ⟨vs, by rw [List.map_id, ← hnl]; exact h1.mono fun b hb _ => hb, fun i x r hx hr => ?_⟩
  have hi : (L ++ ownT e vs M)[L.length + i]? = some (row e 1 x r.length (ints r)) := by
    rw [List.getElem?_append_right (by omega), Nat.add_sub_cancel_left]; exact ownT_at hx hr
  exact (h.row_rd hi).mono fun b hb _ => hb
end Go.Sheet
namespace Go.Proofs.YtjfhncnpmelopaaGreatDoor
open Go.RowKit Go.Mem Go.Sheet
theorem entry_any (W : World) (k n : Int) : Calls Tryz.prog 120 #[.int .i64 k, .int .i64 n] W fun e w' => e = .returned (.int .i64 (entryE n)) ∧ Below W.heap.size W w' := by
  go_enter Tryz.func120, Tryz.ntmps120
  by_cases h : n = -1000000000
  · have H : Hid (entryE n = 0) := by show _ = _; rw [entryE, NONE, if_pos h]
    subst h
    go_wp2
    go_ret
    exact ⟨ret_i64 H.out.symm, Below.refl _ _⟩
  · have H : Hid (entryE n = outE n (-999999999) 999999999) := by show _ = _; rw [entryE, NONE, if_neg h]
    have hb : (n == -1000000000) = false := by simpa using h
    clear h
    go_wp2_with (go_at_call 97; refine (outside_any _ _ _ _).mono ?_; rintro e w' ⟨rfl, rfl⟩)
    go_ret
    exact ⟨ret_i64 H.out.symm, Below.refl _ _⟩
set_option maxRecDepth 100000 in
set_option maxHeartbeats 400000 in
theorem matRow_any (W : World) (k : Int) (x : Value) (r : List Int) (n c g : Nat) (A : Option Addr) (hx : Rd W (· < W.heap.size) 1 x r.length (r.map (Value.int .i64))) (hn : n ≤ 9223372036854775807)
    (c0 : W.cell? ⟨g, 0, none⟩ = some (.slice A n c)) :
    Calls Tryz.prog 119 #[.int .i64 k, x, .pointer (some ⟨g, 0, none⟩)] W fun e w' => e = .returned (.int .i64 (matRowE n r)) ∧ Below W.heap.size W w' := by
  have hE := enters Tryz.func120 (by kernel_rfl) rfl
  have HC := Lib.hid (each_ints W x r 120 hE entryE hx entry_any)
  have hrl := hx.le
  have HE : Hid (fst [whenE ((r.length : Int) != (n : Int)) 2, eachF (fun _ x => entryE x) 0 r] = matRowE n r) := by
    show _ = _
    have e : ((r.length : Int) != (n : Int)) = decide (r.length ≠ n) := by rw [Bool.eq_iff_iff]; simp only [bne_iff_ne, decide_eq_true_eq, ne_eq, Int.ofNat_inj]
    rw [matRowE, e]
  obtain ⟨Ax, cx, rfl, _, _, _⟩ := hx.open_
  clear hx hE
  generalize r.length = rl at *
  generalize eachF (fun _ x => entryE x) 0 r = E at *
  go_enter Tryz.func119, Tryz.ntmps119
  go_wp2_with (first | (go_at_call 94; refine (when_any _ _ _).mono ?_; rintro e w' ⟨rfl, rfl⟩) | (go_at_call 95; refine HC.out.mono ?_; rintro e w' ⟨rfl, hb⟩) | (go_at_call 93; refine (first2 _ _ (whenE ((rl : Int) != (n : Int)) 2) E (by simp) (by simp) (by simp)).mono ?_; rw [HE.out]; rintro e w' ⟨rfl, rfl⟩))
  go_ret
  exact ⟨rfl, hb.alloc hb.size _⟩
set_option maxRecDepth 100000 in
set_option maxHeartbeats 400000 in
theorem checkMatrix_any (W : World) (v : Value) (m : IMat) (h : RdRows W (· < W.heap.size) v m) :
    Calls Tryz.prog 56 #[v] W fun e w' => e = .returned (.int .i64 (matE m)) ∧ Below W.heap.size W w' := by
  obtain ⟨vs, h1, h2⟩ := h
  have hE := enters Tryz.func119 (by kernel_rfl) rfl
  have hl := h1.le
  have hvl : vs.length = m.length := by simpa using h1.len
  obtain ⟨A, c, rfl, _, _, _⟩ := h1.open_
  have H5 : Hid (24 < (m.length : Int) → matE m = 5) := fun h => by rw [matE, if_pos (by omega)]
  have H0 : Hid (¬ 24 < (m.length : Int) → matE m = eachF (fun _ row => matRowE m.length row) 0 m) := fun h => by rw [matE, if_neg (by omega)]
  generalize HN : m.length = n at *
  have hb1 := (Below.refl W.heap.size W).alloc (Nat.le_refl _) (.cells #[.slice A n c] 53)
  have c0 : (W.alloc (.cells #[.slice A n c] 53)).cell? ⟨W.heap.size, 0, none⟩ = some (.slice A n c) := by simp
  have h1' := h1.later hb1
  have h2' : ∀ (i : Nat) (x : Value) (r : List Int), vs[i]? = some x → m[i]? = some r → Rd _ _ 1 x r.length (ints r) := fun i x r hx hr => (h2 i x r hx hr).later hb1
  clear h1 h2
  go_enter Tryz.func56, Tryz.ntmps56
  by_cases h24 : 24 < n
  · have hb24 : decide (24 < (n : Int)) = true := by simp; omega
    go_wp2_with fail
    go_ret
    exact ⟨ret_i64 (H5.out (by omega)).symm, hb1⟩
  · have hb24 : decide (24 < (n : Int)) = false := by simp; omega
    have HM := Lib.hid (H0.out (by omega))
    clear H0 H5 h24
    go_wp2_with fail
    generalize W.alloc (.cells #[.slice A n c] 53) = W1 at *
    have hg0 : W.heap.size < W1.heap.size := World.block_lt_of_cell? W1 _ c0
    have hC : ∀ k x w, vs[k]? = some x → Below W1.heap.size W1 w → Calls Tryz.prog 119 (#[.int .i64 k, x] ++ #[.pointer (some ⟨W.heap.size, 0, none⟩)]) w fun e w' => e = .returned (.int .i64 ((fun k _ => matRowE n (m.getD k [])) k x)) ∧ Below w.heap.size w w' := by
      intro k x w hx hbw
      have hk : k < m.length := by rw [HN, ← hvl]; exact (List.getElem?_eq_some_iff.1 hx).1
      have hr : m[k]? = some (m.getD k []) := by rw [List.getD_eq_getElem?_getD, List.getElem?_eq_getElem hk, Option.getD_some]
      exact matRow_any w k x (m.getD k []) n c W.heap.size A ((h2' k x _ hx hr).later hbw) hl ((hbw.cell (p := ⟨W.heap.size, 0, none⟩) hg0).trans c0)
    refine (each_Row_pure W1 (.slice A n c) n vs 119 hE #[.pointer (some ⟨W.heap.size, 0, none⟩)] (fun k _ => matRowE n (m.getD k [])) h1' hC).mono ?_
    have HL := Lib.hid hvl
    have HNN := Lib.hid HN
    clear hC h1' h2' hvl HN
    rintro e w6 ⟨rfl, hb6⟩
    go_wp2
    go_ret
    refine ⟨ret_i64 ?_, hb1.trans (hb6.mono hb1.size)⟩
    rw [HM.out]
    refine eachF_two _ _ vs m 0 (by rw [HL.out, HNN.out]) fun i a b _ hb => ?_
    rw [Nat.zero_add, hb, Option.getD_some]
theorem innerL_snoc {l : List Int} {k : Nat} {x : Int} (h : l[k]? = some x) : innerL (l.take (k + 1)) = innerL (l.take k) ++ [innerX x] := by
  rw [take_at h, innerL, List.map_append]; rfl
set_option maxRecDepth 100000 in
set_option maxHeartbeats 400000 in
theorem inner_any (W : World) (v : Value) (l : List Int) (h : Rd W (· < W.heap.size) 1 v l.length (l.map (Value.int .i64))) (hl : l.length ≤ 1000000000) :
    Calls Tryz.prog 123 #[v] W fun e w' => ∃ v', e = .returned v' ∧ St W w' [row 3 1 v' l.length (ints (innerL l))] := by
  generalize HN : l.length = n at *
  obtain ⟨A, c, rfl, _, _, _⟩ := h.open_
  have HH := Lib.hid h
  have HNN := Lib.hid HN
  clear h HN
  have S0 := (St.refl W).row_nil 3 1
  go_enter Tryz.func123, Tryz.ntmps123
  go_wp2
  go_loopw [8, 3] (fun i v w' => ∃ (k : Nat), k ≤ n ∧ i = .int .i64 k ∧ St W w' [row 3 1 v k (ints (innerL (l.take k)))]) (fun i _ _ => n - (intOf i).toNat)
  case atStart => exact ⟨0, Nat.zero_le _, rfl, S0⟩
  case round =>
    obtain ⟨k, hk, rfl, S⟩ := hrel
    clear S0
    by_cases hlt : k < n
    · obtain ⟨b, o, x, rfl, hx, hc⟩ := (HH.out.below S.bel).int hlt
      have HG := Lib.hid (innerL_snoc hx)
      have HX : Hid (innerX x = if x = -1000000000 then -1125899906842624 else x) := rfl
      clear hx
      by_cases h0 : x = -1000000000
      · have HXX : Hid (innerX x = -1125899906842624) := by show _ = _; rw [HX.out, if_pos h0]
        have HXE := Lib.hid h0
        have hxb : (x == -1000000000) = true := by simpa using h0
        clear h0 HX
        go_wp2_with (at_builtin; refine wpList_append_st eltI rfl _ _ rfl rfl (S.alloc _) (k := 0) rfl rfl (rd_one (by simp)) (one_int _ _) (by omega) (by omega) ?_; intro v' w' S' _)
        go_roundw
        case rel => exact ⟨k + 1, by omega, by go_num, by rw [HG.out, HXX.out]; simpa [ints] using S'⟩
        case measure => simp [intOf]; omega
      · have HXX : Hid (innerX x = x) := by show _ = _; rw [HX.out, if_neg h0]
        have hxb : (x == -1000000000) = false := by simpa using h0
        clear h0 HX
        go_wp2_with (at_builtin; refine wpList_append_st eltI rfl _ _ rfl rfl (S.alloc _) (k := 0) rfl rfl (rd_one (by simp)) (one_int _ _) (by omega) (by omega) ?_; intro v' w' S' _)
        go_roundw
        case rel => exact ⟨k + 1, by omega, by go_num, by rw [HG.out, HXX.out]; simpa [ints] using S'⟩
        case measure => simp [intOf]; omega
    · have hkb : decide ((k : Int) < n) = false := by simp; omega
      obtain rfl : k = n := by omega
      rw [List.take_of_length_le (Nat.le_of_eq HNN.out)] at S
      have HS := Lib.hid S
      clear S
      go_wp2
      go_ret
      exact ⟨_, rfl, HS.out⟩
end Go.Proofs.YtjfhncnpmelopaaGreatDoor
