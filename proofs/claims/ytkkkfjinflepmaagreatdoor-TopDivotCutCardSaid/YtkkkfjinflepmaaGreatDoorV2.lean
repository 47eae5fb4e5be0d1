/- Chapter 7: Qualify. -/
import Derived.Test.YtkkkfjinflepmaaGreatDoorV1
import Derived.Test.YtkkkfjinflepmaaGreatDoorB34
import Derived.Test.YtkkkfjinflepmaaGreatDoorB18
import Derived.Test.YtkkkfjinflepmaaGreatDoorB37
import Derived.Test.YtkkkfjinflepmaaGreatDoorB41
set_option linter.unusedVariables false
set_option linter.unusedSimpArgs false
set_option linter.unusedSectionVars false
set_option linter.constructorNameAsVariable false
namespace Go.Proofs.YtkkkfjinflepmaaGreatDoor
open Go.RowKit Go.Mem Go.Sheet Go.Adj
theorem ord_uniq {f Y Y' : Nat → Int} {n a : Nat} (h1 : Ord0 Y n) (h2 : Ord0 Y' n) (c1 : Cnt0 f Y n) (c2 : Cnt0 f Y' n) (ha : a < n) : Y a = Y' a := by
  have key : ∀ x, Y a < x ↔ Y' a < x := fun x => by rw [ord_lt h1 ha, ord_lt h2 ha, c1 x, c2 x]
  have a1 := key (Y' a)
  have a2 := key (Y a)
  omega
/-- those of the first k that are meant -/
def selF (P : Nat → Bool) (k : Nat) : List Nat := (List.range k).filter P
theorem selF_snoc (P : Nat → Bool) (k : Nat) : selF P (k + 1) = selF P k ++ (if P k then [k] else []) := by
  unfold selF
  rw [List.range_succ, List.filter_append]
  cases h : P k <;> simp [h]
theorem selF_len (P : Nat → Bool) : ∀ k, (selF P k).length = cN P k
  | 0 => rfl
  | k + 1 => by
    rw [selF_snoc, List.length_append, selF_len P k]
    show _ = cN P k + (if P k then 1 else 0)
    cases P k <;> rfl
theorem selF_mem {P : Nat → Bool} {k i : Nat} : i ∈ selF P k ↔ i < k ∧ P i = true := by unfold selF; rw [List.mem_filter, List.mem_range]
theorem selF_congr {P Q : Nat → Bool} {k : Nat} (h : ∀ i, i < k → P i = Q i) : selF P k = selF Q k := List.filter_congr fun i hi => h i (List.mem_range.1 hi)
theorem selF_all (k : Nat) : selF (fun _ => true) k = List.range k := by unfold selF; rw [List.filter_eq_self]; exact fun _ _ => rfl
theorem selF_none (k : Nat) : selF (fun _ => false) k = [] := by unfold selF; rw [List.filter_eq_nil_iff]; exact fun _ _ h => by cases h
theorem qfar_any (x : Int) (w : World) : Calls Tryz.prog 73 #[.int .i64 x] w fun e w' => e = .returned (.bool (decide (x < -999999999) || decide (999999999 < x))) ∧ w = w' := by
  go_enter Tryz.func73, Tryz.ntmps73
  go_wp2
  all_goals
    go_ret
    simp_all
theorem results_tmp4 {fn : Func} {t u v x : Tmp} (h : fn.results = #[.tmp t, .tmp u, .tmp v, .tmp x]) (tmps : Array Value) (P : Program) (w : World) :
    (results fn tmps).run P w = .ok (.tuple #[tmps.getD t undef, tmps.getD u undef, tmps.getD v undef, tmps.getD x undef]) w := by
  simp [results, h]
theorem natV_range (q : Nat) : natV (List.range q) = intsI (gl (fun i => (i : Int)) q) := by
  unfold natV intsI gl
  rw [List.map_map]; rfl
set_option maxRecDepth 100000 in
set_option maxHeartbeats 4000000 in
theorem numbers_any (W : World) (q : Nat) (hq : 1 ≤ q ∧ q ≤ 200) : Calls Tryz.prog 74 #[.int .i64 q] W fun e w' => ∃ v', e = .returned v' ∧ St W w' [row 3 1 v' q (natV (List.range q))] := by
  have HS0 := Lib.hid (St.refl W)
  have HZ := Lib.hid (zeros_gl q)
  rw [natV_range]
  go_enter Tryz.func74, Tryz.ntmps74
  go_wp2_with (at_make; refine wpList_make_st eltI rfl _ _ rfl (n := q) rfl rfl HS0.out (by omega) (by omega) ?_; intro wc g S1 _ _; rw [HZ.out] at S1; simp only [List.nil_append] at S1; have HS1 := Lib.hid S1; clear S1 HS0)
  have HS2 : Hid (St W wc [row 3 1 (.slice (some ⟨g, 0, none⟩) q q) q (intsI (gl (fun i => if i < 0 then (i : Int) else 0) q))]) := by
    have h3 : gl (fun i : Nat => if i < 0 then (i : Int) else 0) q = gl (fun _ => 0) q := by simp
    show St _ _ _
    rw [h3]; exact HS1.out
  clear HS1
  go_loopw [9] (fun i w' => ∃ k : Nat, k ≤ q ∧ i = .int .i64 k ∧ St W w' [row 3 1 (.slice (some ⟨g, 0, none⟩) q q) q (intsI (gl (fun i => if i < k then (i : Int) else 0) q))]) (fun i _ => q - (intOf i).toNat)
  case atStart => exact ⟨0, Nat.zero_le _, rfl, HS2.out⟩
  case round =>
    obtain ⟨k, hk, rfl, S⟩ := hrel
    clear HS2
    by_cases hlt : k < q
    · obtain ⟨c0, f0⟩ := row_int5 S (i := 0) rfl hlt
      have S4 := S.row_set (i := 0) rfl k (.int .i64 (k : Int))
      simp only [List.set_cons_zero] at S4
      rw [gl_set5 (f' := fun i => if i < k + 1 then (i : Int) else 0) (by simp) (fun i hi => by by_cases h : i < k <;> simp [h] <;> omega)] at S4
      have HS4 := Lib.hid S4
      clear S S4
      go_wp2_with fail
      go_roundw
      case rel => exact ⟨k + 1, by omega, by go_num, HS4.out⟩
      case measure => simp [intOf]; omega
    · obtain rfl : q = k := by omega
      have e : gl (fun i => if i < q then (i : Int) else 0) q = gl (fun i => (i : Int)) q := by
        unfold gl
        exact List.map_congr_left fun i hi => by rw [if_pos (List.mem_range.1 hi)]
      rw [e] at S
      have HS4 := Lib.hid S
      clear S e
      go_wp2_with fail
      go_ret
      exact ⟨_, rfl, HS4.out⟩
set_option maxRecDepth 100000 in
set_option maxHeartbeats 4000000 in
theorem qualify_ok (W : World) (v : Value) (q k : Nat) (f Y : Nat → Int) (hq : 1 ≤ q ∧ q ≤ 12) (hk : 1 ≤ k ∧ k ≤ 200) (hf : ∀ i, i < q → -9999 ≤ f i ∧ f i ≤ 9999) (ho : Ord0 Y q) (hc : Cnt0 f Y q) (h : Rd W (· < W.heap.size) 1 v q (intsI (gl f q))) :
    Calls Tryz.prog 28 #[v, .int .i64 k] W fun e w' => ∃ vi vt, e = .returned (.tuple #[vi, vt, .int .i64 (leftQ f Y q k : Nat), .int .i64 0]) ∧
      St W w' [row 3 1 vi (selF (inQ f Y q k) q).length (natV (selF (inQ f Y q k) q)), row 3 1 vt (selF (tiQ f Y q k) q).length (natV (selF (tiQ f Y q k) q))] := by
  have h1 := anyI5 W _ v q (gl f q) 73 (enters Tryz.func73 (by kernel_rfl) rfl) _ h (fun x w _ => qfar_any x w)
  have e1 : (gl f q).any (fun x => decide (x < -999999999) || decide (999999999 < x)) = false := by
    rw [List.any_eq_false]
    intro x hx
    unfold gl at hx
    obtain ⟨i, hi, rfl⟩ := List.mem_map.1 hx
    have := hf i (List.mem_range.1 hi)
    rw [decide_eq_false (by omega), decide_eq_false (by omega)]; simp
  rw [e1] at h1
  have H1 := Lib.hid h1
  have H := Lib.hid h
  obtain ⟨A, c, rfl, _, _, _⟩ := h.open_
  have HO := Lib.hid ho
  have HC := Lib.hid hc
  have t2 : decide ((200 : Int) < (q : Int)) = false := decide_eq_false (by omega)
  have t2' : decide (200 < q) = false := decide_eq_false (by omega)
  have hw : (0 : Int) ≤ (k : Int) ∧ (k : Int) ≤ 200 := by omega
  have hq1 : 1 ≤ q := hq.1
  have hq2 : q ≤ 12 := hq.2
  have hk1 : 1 ≤ k := hk.1
  have hk2 : k ≤ 200 := hk.2
  clear h h1 e1 hf ho hc hq hk
  go_enter Tryz.func28, Tryz.ntmps28
  go_wp2_with fail
  go_at_call 72
  refine H1.out.mono ?_
  rintro e w1 ⟨rfl, rfl⟩
  have HSA : Hid (St W (W.alloc (.cells #[.int .i64 0, .int .i64 0, .int .i64 0] 48)) []) := (St.refl W).alloc _
  by_cases hqk : q ≤ k
  · have t3 : decide ((q : Int) ≤ (k : Int)) = true := decide_eq_true (by omega)
    have t3' : decide (q ≤ k) = true := decide_eq_true hqk
    have e1 : selF (inQ f Y q k) q = List.range q := by
      rw [selF_congr (Q := fun _ => true) (fun i _ => by unfold inQ; rw [if_pos hqk]), selF_all]
    have e2 : selF (tiQ f Y q k) q = [] := by
      rw [selF_congr (Q := fun _ => false) (fun i _ => by unfold tiQ; rw [if_pos hqk]), selF_none]
    have e3 : leftQ f Y q k = 0 := by unfold leftQ; rw [if_pos hqk]
    have E1 := Lib.hid e1
    have E2 := Lib.hid e2
    have E3 := Lib.hid e3
    clear e1 e2 e3 hqk
    go_wp2_with (first
      | (go_at_call 59; refine (eventWithin_ok _ _ _ hw _).mono ?_; rintro e w' ⟨rfl, rfl⟩)
      | (go_at_call 52; refine (eventNo _ _).mono ?_; rintro e w' ⟨rfl, rfl⟩)
      | (go_at_call 37; refine (eventOk3 _ _ (by simp) (by simp) (by simp) (by simp)).mono ?_; rintro e w' ⟨rfl, rfl⟩)
      | (go_at_call 74; refine (numbers_any _ q ⟨hq1, by omega⟩).mono ?_; rintro e w2 ⟨v', rfl, S2⟩; have HS2 := Lib.hid ((HSA.out.call S2).row_nil 3 1); clear S2))
    (try simp only [Exit.inBlock, Exit.then])
    refine bodyPost_ret (results_tmp4 rfl _ _ _) rfl ?_
    exact ⟨_, _, by rw [E3.out]; rfl, by rw [E1.out, E2.out, List.length_range]; exact HS2.out⟩
  have t3 : decide ((q : Int) ≤ (k : Int)) = false := decide_eq_false (by omega)
  have t3' : decide (q ≤ k) = false := decide_eq_false hqk
  go_wp2_with (first
    | (go_at_call 59; refine (eventWithin_ok _ _ _ hw _).mono ?_; rintro e w' ⟨rfl, rfl⟩)
    | (go_at_call 52; refine (eventNo _ _).mono ?_; rintro e w' ⟨rfl, rfl⟩)
    | (go_at_call 37; refine (eventOk3 _ _ (by simp) (by simp) (by simp) (by simp)).mono ?_; rintro e w' ⟨rfl, rfl⟩))
  generalize W.alloc (.cells #[.int .i64 0, .int .i64 0, .int .i64 0] 48) = w0 at *
  go_at_call 76
  refine (values_any _ _ _ _).mono ?_
  rintro e w2 ⟨rfl, rfl⟩
  have hb2 := HSA.out.bel.alloc HSA.out.bel.size (.cells #[.slice A q c] 43)
  have HSO := Lib.hid (sorted_any (w0.alloc (.cells #[.slice A q c] 43)) w0.heap.size q _ f ⟨hq1, hq2⟩ (by simp) (by simp) (H.out.later hb2))
  have HB2 := Lib.hid hb2
  clear hb2
  generalize w0.alloc (.cells #[.slice A q c] 43) = w2 at *
  generalize w0.heap.size = g0 at *
  go_wp2_with fail
  go_at_call 75
  refine HSO.out.mono ?_
  rintro e w3 ⟨v', Y', rfl, hc', ho', S3⟩
  obtain ⟨gs, cs, rfl⟩ := row_some S3 (i := 0) rfl (by omega)
  have hc3 := (row_int5 S3 (i := 0) rfl (show k < q by omega)).1
  rw [← ord_uniq HO.out ho' HC.out hc' (show k < q by omega)] at hc3
  have S4 := ((St.of_below HB2.out).call S3).sub (L' := []) (List.nil_sublist _)
  obtain ⟨ln, hln⟩ : ∃ z, z = Y k := ⟨_, rfl⟩
  rw [← hln] at hc3
  have HLN := Lib.hid hln
  have S5 := (S4.row_nil 3 1).row_nil 3 1
  simp only [List.nil_append, List.cons_append] at S5
  have HS5 : Hid (St W w3 [row 3 1 (.slice none 0 0) (selF (fun i => decide (f i < ln)) 0).length (natV (selF (fun i => decide (f i < ln)) 0)), row 3 1 (.slice none 0 0) (selF (fun i => f i == ln) 0).length (natV (selF (fun i => f i == ln) 0))]) := S5
  have u1 : decide ((q : Int) ≤ (k : Int)) = false := t3
  have u3 : k < q := by omega
  clear S3 S4 S5 hln hc' ho' HSO
  go_wp2_with fail
  have HCE : Hid (∀ j, j < q → ∀ w, Below W.heap.size W w → ∃ b o, A = some ⟨b, o, none⟩ ∧ w.cell? ⟨b, o + j, none⟩ = some (.int .i64 (f j))) := fun j hj w hw => by
    obtain ⟨b, o, y, hA, hy, hc⟩ := Rd.int (q := .i64) (H.out.later hw) hj
    rw [gl_at _ hj] at hy
    cases hy
    exact ⟨b, o, hA, hc⟩
  go_loopw [45, 11, 12] (fun i iv tv w' => ∃ t : Nat, t ≤ q ∧ i = .int .i64 t ∧ St W w' [row 3 1 iv (selF (fun i => decide (f i < ln)) t).length (natV (selF (fun i => decide (f i < ln)) t)), row 3 1 tv (selF (fun i => f i == ln) t).length (natV (selF (fun i => f i == ln) t))]) (fun i _ _ _ => q - (intOf i).toNat)
  case atStart => exact ⟨0, Nat.zero_le _, rfl, HS5.out⟩
  case round =>
    obtain ⟨t, ht, rfl, S⟩ := hrel
    clear HS5
    by_cases htq : t < q
    · obtain ⟨b, o, hA, c0⟩ := HCE.out t htq _ S.bel
      subst hA
      have a1 := selF_snoc (fun i => decide (f i < ln)) t
      have a2 := selF_snoc (fun i => f i == ln) t
      have l1 := selF_len (fun i => decide (f i < ln)) t
      have l2 := selF_len (fun i => f i == ln) t
      have l3 := cN_le (fun i => decide (f i < ln)) t
      have l4 := cN_le (fun i => f i == ln) t
      have HA1 := Lib.hid a1
      have HA2 := Lib.hid a2
      have m1 : (selF (fun i => decide (f i < ln)) t).length ≤ 12 := by omega
      have m2 : (selF (fun i => f i == ln) t).length ≤ 12 := by omega
      generalize hs1 : selF (fun i => decide (f i < ln)) t = s1 at *
      generalize hs2 : selF (fun i => f i == ln) t = s2 at *
      clear a1 a2 l1 l2 l3 l4 hs1 hs2
      have HS := Lib.hid S
      have HSL := Lib.hid (S.alloc (.cells #[.int .i64 (t : Int)] 3))
      clear S
      by_cases hlo : f t < ln
      · have y1 : decide (f t < ln) = true := decide_eq_true hlo
        have y2 : (f t == ln) = false := by rw [Bool.eq_false_iff]; intro e; have := eq_of_beq e; omega
        have HN1 : Hid (selF (fun i => decide (f i < ln)) (t + 1) = s1 ++ [t]) := by show _ = _; rw [HA1.out, if_pos y1]
        have HN2 : Hid (selF (fun i => f i == ln) (t + 1) = s2) := by show _ = _; rw [HA2.out, if_neg (by rw [y2]; simp), List.append_nil]
        generalize f t = ft at *
        clear hlo
        go_wp2_with (at_builtin; refine wpList_append_st eltI rfl _ _ rfl rfl HSL.out (k := 0) rfl rfl (rd_one (by simp)) (one_int _ _) (by omega) (by omega) ?_; intro v1' w8 S8 _; simp only [List.set_cons_zero] at S8; have HS8 := Lib.hid S8; clear S8)
        go_roundw
        case rel =>
          refine ⟨t + 1, by omega, by go_num, ?_⟩
          rw [HN1.out, HN2.out, natV_snoc, List.length_append]
          exact HS8.out
        case measure => simp [intOf]; omega
      · have y1 : decide (f t < ln) = false := decide_eq_false hlo
        have HN1 : Hid (selF (fun i => decide (f i < ln)) (t + 1) = s1) := by show _ = _; rw [HA1.out, if_neg (by rw [y1]; simp), List.append_nil]
        by_cases heq : f t = ln
        · have y2 : (f t == ln) = true := by simp [heq]
          have HN2 : Hid (selF (fun i => f i == ln) (t + 1) = s2 ++ [t]) := by show _ = _; rw [HA2.out, if_pos y2]
          generalize f t = ft at *
          clear hlo heq
          go_wp2_with (at_builtin; refine wpList_append_st eltI rfl _ _ rfl rfl HSL.out (k := 1) rfl rfl (rd_one (by simp)) (one_int _ _) (by omega) (by omega) ?_; intro v1' w8 S8 _; simp only [List.set_cons_zero, List.set_cons_succ] at S8; have HS8 := Lib.hid S8; clear S8)
          go_roundw
          case rel =>
            refine ⟨t + 1, by omega, by go_num, ?_⟩
            rw [HN1.out, HN2.out, natV_snoc, List.length_append]
            exact HS8.out
          case measure => simp [intOf]; omega
        · have y2 : (f t == ln) = false := by simp [heq]
          have HN2 : Hid (selF (fun i => f i == ln) (t + 1) = s2) := by show _ = _; rw [HA2.out, if_neg (by rw [y2]; simp), List.append_nil]
          generalize f t = ft at *
          clear hlo heq
          go_wp2_with fail
          go_roundw
          case rel => exact ⟨t + 1, by omega, by go_num, by rw [HN1.out, HN2.out]; exact HS.out⟩
          case measure => simp [intOf]; omega
    · obtain rfl : q = t := by omega
      have l1 := selF_len (fun i => decide (f i < ln)) q
      have hcq : cQ f Y q k = cN (fun i => decide (f i < ln)) q := by unfold cQ; rw [HLN.out]
      have hcl := cQ_le HO.out HC.out u3
      have e1 : selF (inQ f Y q k) q = selF (fun i => decide (f i < ln)) q := selF_congr fun i _ => by unfold inQ; rw [if_neg hqk, HLN.out]
      obtain ⟨Ai, ci, rfl, _, _, _⟩ := (S.row_rd (i := 0) rfl).open_
      have E1 := Lib.hid e1
      rw [hcq, ← l1] at hcl
      by_cases hck : (selF (fun i => decide (f i < ln)) q).length = k
      · have e2 : selF (tiQ f Y q k) q = [] := by
          rw [selF_congr (Q := fun _ => false) (fun i _ => by unfold tiQ; rw [if_neg hqk, if_pos (by rw [hcq, ← l1]; exact hck)]), selF_none]
        have e3 : leftQ f Y q k = 0 := by unfold leftQ; rw [if_neg hqk, if_pos (by rw [hcq, ← l1]; exact hck)]
        have E2 := Lib.hid e2
        have E3 := Lib.hid e3
        have HS6 := Lib.hid ((S.sub (L' := [_]) (.cons_cons _ (List.nil_sublist _))).row_nil 3 1)
        generalize selF (fun i => decide (f i < ln)) q = si at *
        have y3 : ((si.length : Int) == (k : Int)) = true := by simp [hck]
        have y4 : (si.length == k) = true := by simp [hck]
        clear hck l1 hcq e1 e2 e3 S
        go_wp2_with fail
        (try simp only [Exit.inBlock, Exit.then])
        refine bodyPost_ret (results_tmp4 rfl _ _ _) rfl ?_
        exact ⟨_, _, by rw [E3.out]; rfl, by rw [E1.out, E2.out]; exact HS6.out⟩
      · have e2 : selF (tiQ f Y q k) q = selF (fun i => f i == ln) q := selF_congr fun i _ => by unfold tiQ; rw [if_neg hqk, if_neg (by rw [hcq, ← l1]; exact hck), HLN.out]
        have e3 : leftQ f Y q k = k - (selF (fun i => decide (f i < ln)) q).length := by unfold leftQ; rw [if_neg hqk, if_neg (by rw [hcq, ← l1]; exact hck), hcq, ← l1]
        have E2 := Lib.hid e2
        have E3 := Lib.hid e3
        have HS6 := Lib.hid S
        generalize selF (fun i => decide (f i < ln)) q = si at *
        have y3 : ((si.length : Int) == (k : Int)) = false := by rw [Bool.eq_false_iff]; intro e; have := eq_of_beq e; omega
        have y4 : (si.length == k) = false := by simp [hck]
        have y5 : (((k - si.length : Nat)) : Int) = (k : Int) - (si.length : Int) := by omega
        have y6 : IntKind.i64.wrap ((k : Int) - (si.length : Int)) = (k : Int) - (si.length : Int) := IntWalk.i64_in _ (by omega)
        have Y5 := Lib.hid y5
        clear hck l1 hcq e1 e2 e3 S y5
        go_wp2_with fail
        (try simp only [Exit.inBlock, Exit.then])
        refine bodyPost_ret (results_tmp4 rfl _ _ _) rfl ?_
        exact ⟨_, _, by rw [E3.out, Y5.out]; rfl, by rw [E1.out, E2.out]; exact HS6.out⟩
end Go.Proofs.YtkkkfjinflepmaaGreatDoor
/- Chapter 7: the cut line, Cut. -/
namespace Go.Proofs.YtkkkfjinflepmaaGreatDoor
open Go.RowKit Go.Mem Go.Sheet Go.Adj
set_option maxRecDepth 100000 in
set_option maxHeartbeats 4000000 in
theorem line_ok (W : World) (v : Value) (q k : Nat) (f : Nat → Int) (hq : 1 ≤ q ∧ q ≤ 12) (hk : 1 ≤ k ∧ k ≤ 200) (h : Rd W (· < W.heap.size) 1 v q (intsI (gl f q))) :
    Calls Tryz.prog 105 #[.agg #[.int .i64 1, .int .i64 k, .int .i64 (-1)], v] W fun e w' => ∃ Y : Nat → Int, e = .returned (.int .i64 (Y (min k q - 1))) ∧ Cnt0 f Y q ∧ Ord0 Y q ∧ Below W.heap.size W w' := by
  obtain ⟨A, c, rfl, _, _, _⟩ := h.open_
  have H := Lib.hid h
  have S0 := (St.refl W).blk_new #[.int .i64 1, .int .i64 k, .int .i64 (-1)] 76
  simp only [List.nil_append] at S0
  have HS0 := Lib.hid S0
  have hq1 : 1 ≤ q := hq.1
  have hq2 : q ≤ 12 := hq.2
  obtain ⟨gr, hgr⟩ : ∃ g, g = W.heap.size := ⟨_, rfl⟩
  rw [← hgr] at HS0
  obtain ⟨mn, hmn⟩ : ∃ z : Nat, z = min k q := ⟨_, rfl⟩
  rw [← hmn]
  have hm1 : 1 ≤ mn ∧ mn ≤ q := by omega
  obtain ⟨m1, hm1e⟩ : ∃ z : Nat, z = mn - 1 := ⟨_, rfl⟩
  rw [← hm1e]
  have HM1 := Lib.hid hm1e
  clear hm1e
  have hcs : (decide ((q : Int) < (k : Int)) = true ∧ decide (q < k) = true ∧ (if (q : Int) < (k : Int) then (q : Int) else (k : Int)) = (mn : Int) ∧ (if q < k then (q : Int) else (k : Int)) = (mn : Int) ∧ True) ∨ (decide ((q : Int) < (k : Int)) = false ∧ decide (q < k) = false ∧ (if (q : Int) < (k : Int) then (q : Int) else (k : Int)) = (mn : Int) ∧ (if q < k then (q : Int) else (k : Int)) = (mn : Int) ∧ True) := by
    by_cases h : q < k
    · exact .inl ⟨decide_eq_true (by omega), decide_eq_true h, by rw [if_pos (by omega)]; omega, by rw [if_pos h]; omega, trivial⟩
    · exact .inr ⟨decide_eq_false (by omega), decide_eq_false h, by rw [if_neg (by omega)]; omega, by rw [if_neg h]; omega, trivial⟩
  have HCS := Lib.hid hcs
  clear hcs
  clear h S0 hq hmn
  go_enter Tryz.func105, Tryz.ntmps105
  go_wp2_with fail
  rw [← hgr]
  generalize W.alloc (.cells #[.int .i64 1, .int .i64 k, .int .i64 (-1)] 76) = w1 at *
  clear hgr
  go_at_call 76
  refine (values_any _ _ _ _).mono ?_
  rintro e w2 ⟨rfl, rfl⟩
  have S2 := HS0.out.alloc (.cells #[.slice A q c] 43)
  have HSO := Lib.hid (sorted_any (w1.alloc (.cells #[.slice A q c] 43)) w1.heap.size q _ f ⟨hq1, hq2⟩ (by simp) (by simp) (H.out.later S2.bel))
  have HS2 := Lib.hid S2
  clear S2
  generalize w1.alloc (.cells #[.slice A q c] 43) = w2 at *
  generalize w1.heap.size = g0 at *
  go_wp2_with fail
  go_at_call 75
  refine HSO.out.mono ?_
  rintro e w3 ⟨v', Y', rfl, hc', ho', S3⟩
  obtain ⟨gs, cs, rfl⟩ := row_some S3 (i := 0) rfl (by omega)
  have hm1e := HM1.out
  have hc3 := (row_int5 S3 (i := 0) rfl (show m1 < q by omega)).1
  have S4 := HS2.out.call S3
  simp only [List.cons_append, List.nil_append] at S4
  have d1 := S4.blk_cell (i := 0) rfl 1
  have d2 := S4.blk_cell (i := 0) rfl 2
  have HS4 := Lib.hid S4
  have HC := Lib.hid hc'
  have HO := Lib.hid ho'
  have x1 : (mn : Int) - 1 = (m1 : Int) := by omega
  have x2 : decide ((q : Int) ≤ (m1 : Int)) = false := decide_eq_false (by omega)
  have x3 : decide (q ≤ m1) = false := decide_eq_false (by omega)
  have x4 : m1 < q := by omega
  have x5 : IntKind.i64.wrap ((mn : Int) - 1) = (m1 : Int) := by rw [x1]; exact IntWalk.i64_in _ (by omega)
  obtain ⟨yv, hyv⟩ : ∃ y, y = Y' m1 := ⟨_, rfl⟩
  rw [← hyv] at hc3
  have HY := Lib.hid hyv
  clear S3 S4 hc' ho' HSO hm1e hyv
  rcases HCS.out with ⟨y1, y1', y2, y2', _⟩ | ⟨y1, y1', y2, y2', _⟩
  all_goals
    clear HCS
    go_wp2_with fail
    go_ret
    exact ⟨Y', by rw [← HY.out]; rfl, HC.out, HO.out, HS4.out.bel⟩
theorem lnAt_get {ls : List LnI} {i : Nat} (h : i < ls.length) : ls[i]? = some (lnAt ls i) := by
  unfold lnAt
  rw [List.getD_eq_getElem?_getD, List.getElem?_eq_getElem h]; rfl
set_option maxRecDepth 100000 in
set_option maxHeartbeats 8000000 in
theorem cutR_ok (W : World) (v : Value) (q k : Nat) (ls : List LnI) (hq : 1 ≤ q ∧ q ≤ 12) (hk : 1 ≤ k ∧ k ≤ 200) (h : RdLn W (· < W.heap.size) v q ls) (hg : GoodL ls) (hn : GoodNs (lnNames ls) q) :
    Calls Tryz.prog 71 #[.agg #[.int .i64 1, .int .i64 k, .int .i64 (-1)], v] W fun e w' => ∃ (v' : Value) (Y : Nat → Int), e = .returned (.tuple #[v', .int .i64 (Y (min k q - 1)), .int .i64 0]) ∧ Cnt0 (sc ls) Y q ∧ Ord0 Y q ∧
      St W w' [row 3 1 v' (selF (fun i => decide (sc ls i ≤ Y (min k q - 1))) q).length (natV (selF (fun i => decide (sc ls i ≤ Y (min k q - 1))) q))] := by
  have hlen := h.count
  have HCF : Hid (∀ w, Below W.heap.size W w → Calls Tryz.prog 38 #[v] w fun e w' => e = .returned (.int .i64 0) ∧ Below w.heap.size w w') := fun w hw => eventField_ok w v q ls (by omega) (h.later hw) hg hn
  have HAT : Hid (∀ i, i < q → ∀ w, Below W.heap.size W w → Calls Tryz.prog 67 #[(lnAt ls i).val, .int .i64 1] w fun e w' => e = .returned (.int .i64 (lnAt ls i).s) ∧ Below w.heap.size w w') := fun i hi w hw => by
    have hx := lnAt_get (ls := ls) (i := i) (by omega)
    exact total_ok w _ (hg _ (List.mem_of_getElem? hx)) ((h.later hw).2 _ (List.mem_of_getElem? hx))
  obtain ⟨A, c, rfl, _, _, _⟩ := h.1.open_
  have H := Lib.hid h
  have HLEN := Lib.hid hlen
  have S0 := (St.refl W).blk_new #[.int .i64 1, .int .i64 k, .int .i64 (-1)] 76
  simp only [List.nil_append] at S0
  have HS0 := Lib.hid S0.drew
  have hq1 : 1 ≤ q := hq.1
  have hq2 : q ≤ 12 := hq.2
  have hk1 : (1 : Int) ≤ (k : Int) ∧ (k : Int) ≤ 200 := by omega
  obtain ⟨gr, hgr⟩ : ∃ g, g = W.heap.size := ⟨_, rfl⟩
  rw [← hgr] at HS0
  clear h hlen hg hn S0 hq
  go_enter Tryz.func71, Tryz.ntmps71
  go_wp2_with fail
  rw [← hgr]
  clear hgr
  refine wp_cls 11 (fun w' => St W w' [blk gr 76 #[.int .i64 1, .int .i64 k, .int .i64 (-1)]]) (by kernel_rfl) (by kernel_rfl) HS0.out ?_
  simp only [List.take_succ_cons, List.take_zero, List.drop_succ_cons, List.drop_zero]
  generalize hK : (fun w' => St W w' [blk gr 76 #[.int .i64 1, .int .i64 k, .int .i64 (-1)]]) = K
  intro hne
  have kS : ∀ y : Wd K, St W y.w [blk gr 76 #[.int .i64 1, .int .i64 k, .int .i64 (-1)]] := by subst hK; exact fun y => y.h
  have hK3 : ∀ w w' : World, K w → Below w.heap.size w w' → K w' := by subst hK; exact fun w w' h h' => h.ext h'
  have k0 : ∀ y : Wd K, y.w.cell? ⟨gr, 0, none⟩ = some (.int .i64 1) := fun y => (kS y).blk_cell (i := 0) rfl 0
  have k1 : ∀ y : Wd K, y.w.cell? ⟨gr, 1, none⟩ = some (.int .i64 k) := fun y => (kS y).blk_cell (i := 0) rfl 1
  have k2 : ∀ y : Wd K, y.w.cell? ⟨gr, 2, none⟩ = some (.int .i64 (-1)) := fun y => (kS y).blk_cell (i := 0) rfl 2
  have KS := Lib.hid kS
  clear hK kS
  go_big_quiet_step ((fail))
  go_big_quiet_step ((go_at_call 38; exact cls_below hK3 (HCF.out _ (KS.out _).bel)))
  iterate 2 (go_big_quiet_step ((fail)))
  go_big_quiet_step ((go_at_call 59; exact cls_same (eventWithin_ok 1 1 8 (by decide) _)))
  iterate 2 (go_big_quiet_step ((fail)))
  go_big_quiet_step ((go_at_call 59; exact cls_same (eventWithin_ok _ 1 200 hk1 _)))
  iterate 2 (go_big_quiet_step ((fail)))
  go_big_quiet_step ((go_at_call 59; exact cls_same (eventWithin_ok (-1) (-1) 999 (by decide) _)))
  refine wpQuiet_nil ?_
  intro y
  have SY := ((KS.out y).alloc (.cells #[.int .i64 0, .int .i64 0, .int .i64 0, .int .i64 0] 48)).row_nil 3 1
  have SZ := SY.row_nil 3 1
  simp only [List.cons_append, List.nil_append] at SZ
  clear k0 k1 k2 hK3 hne KS SY
  generalize y.w = w3 at *
  have HSZ : Hid (St W (w3.alloc (.cells #[.int .i64 0, .int .i64 0, .int .i64 0, .int .i64 0] 48)) [blk gr 76 #[.int .i64 1, .int .i64 k, .int .i64 (-1)], row 3 1 (.slice none 0 0) 0 (natV (List.range 0)), row 3 1 (.slice none 0 0) 0 (intsI (gl (sc ls) 0))]) := SZ
  clear SZ
  go_wp2_with (go_at_call 37; refine (eventOk4 _ _ (by simp) (by simp) (by simp) (by simp) (by simp)).mono ?_; rintro e w' ⟨rfl, rfl⟩)
  generalize w3.alloc (.cells #[.int .i64 0, .int .i64 0, .int .i64 0, .int .i64 0] 48) = w4 at *
  have hs0 : ((ByteArray.mk #[]).toList != (ByteArray.mk #[]).toList) = false := by decide +kernel
  go_loopw [36, 8, 9, 10] (fun i cv tv sv w' => ∃ t : Nat, t ≤ q ∧ i = .int .i64 t ∧ sv = .bool false ∧ St W w' [blk gr 76 #[.int .i64 1, .int .i64 k, .int .i64 (-1)], row 3 1 cv t (natV (List.range t)), row 3 1 tv t (intsI (gl (sc ls) t))]) (fun i _ _ _ _ => q - (intOf i).toNat)
  case atStart => exact ⟨0, Nat.zero_le _, rfl, rfl, HSZ.out⟩
  case round =>
    obtain ⟨t, ht, rfl, rfl, S⟩ := hrel
    clear HSZ
    by_cases htq : t < q
    · obtain ⟨b, o, x, hA, hx, c0, c1, c2, c3⟩ := (H.out.later S.bel).elem htq
      subst hA
      have hlx := lnAt_some hx
      have HT := Lib.hid (HAT.out t htq)
      have hsc : sc ls t = x.s := by unfold sc; rw [hlx]
      rw [hlx] at HT
      have HGL : Hid (gl (sc ls) (t + 1) = gl (sc ls) t ++ [x.s]) := by show _ = _; rw [gl_snoc, hsc]
      have HRG : Hid (natV (List.range (t + 1)) = natV (List.range t) ++ [.int .i64 (t : Int)]) := by show _ = _; rw [List.range_succ, natV_snoc]
      have S1 := S.blk_new #[.string x.name, .bool false, .slice x.a 1 x.c, .string ⟨#[]⟩] 89
      simp only [List.cons_append, List.nil_append] at S1
      have S2 := S1.alloc (.cells #[.int .i64 (t : Int)] 3)
      obtain ⟨nx, ax, cx, sx⟩ := x
      unfold LnI.val at HT
      simp only at S1 S2 HT HGL c0 c1 c2 c3
      obtain ⟨gx, hgx⟩ : ∃ gx, gx = wr.heap.size := ⟨_, rfl⟩
      rw [← hgx] at S1 S2
      have HS2 := Lib.hid S2
      have hs1 : decide ((1 : Int) < 1) = false := by decide
      clear S hx hlx hsc S1 S2
      rw [hgx] at HS2
      go_wp2_with (at_builtin; refine wpList_append_st eltI rfl _ _ rfl rfl HS2.out (k := 1) rfl rfl (rd_one (by simp)) (one_int _ _) (by omega) (by omega) ?_; intro v1' w8 S8 _; simp only [List.set_cons_zero, List.set_cons_succ] at S8; have e0 := S8.blk_cell (i := 3) rfl 0; have e1 := S8.blk_cell (i := 3) rfl 1; have e2 := S8.blk_cell (i := 3) rfl 2; have e3 := S8.blk_cell (i := 3) rfl 3; have r0 := S8.blk_cell (i := 0) rfl 0; have HS8 := Lib.hid S8; clear S8)
      go_at_call 67
      refine (HT.out _ HS8.out.bel).mono ?_
      rintro e w9 ⟨rfl, hb9⟩
      have HS9 := Lib.hid ((HS8.out.ext hb9).alloc (.cells #[.int .i64 sx] 3))
      clear hb9 e0 e1 e2 e3 r0
      go_wp2_with (at_builtin; refine wpList_append_st eltI rfl _ _ rfl rfl HS9.out (k := 2) rfl rfl (rd_one (by simp)) (one_int _ _) (by omega) (by omega) ?_; intro v2' w10 S10 _; simp only [List.set_cons_zero, List.set_cons_succ] at S10; have HS10 := Lib.hid (S10.sub (L' := [_, _, _]) (.cons_cons _ (.cons_cons _ (.cons_cons _ (List.nil_sublist _))))); clear S10)
      go_roundw
      case rel =>
        refine ⟨t + 1, by omega, by go_num, rfl, ?_⟩
        rw [HGL.out, HRG.out]
        have e : intsI (gl (sc ls) t ++ [sx]) = intsI (gl (sc ls) t) ++ [.int .i64 sx] := by unfold intsI; rw [List.map_append]; rfl
        rw [e]
        exact HS10.out
      case measure => simp [intOf]; omega
    · obtain rfl : q = t := by omega
      have u1 : ((q : Int) == 0) = false := by simp; omega
      have u1' : (q == 0) = false := by simp; omega
      have d0 := S.blk_cell (i := 0) rfl 0
      have d1 := S.blk_cell (i := 0) rfl 1
      have d2 := S.blk_cell (i := 0) rfl 2
      obtain ⟨gc, cc, rfl⟩ := row_some S (i := 1) rfl hq1
      obtain ⟨gt, ct, rfl⟩ := row_some S (i := 2) rfl hq1
      have S2 := S.alloc (.cells #[.int .i64 0, .int .i64 0] 48)
      have HLI := Lib.hid (line_ok _ _ q k (sc ls) ⟨hq1, hq2⟩ hk (S2.row_rd (i := 2) rfl).now)
      have HS2 := Lib.hid S2
      have d0 := S2.blk_cell (i := 0) rfl 0
      have d1 := S2.blk_cell (i := 0) rfl 1
      have d2 := S2.blk_cell (i := 0) rfl 2
      clear S S2
      go_wp2_with (first
        | (go_at_call 52; refine (eventNo _ _).mono ?_; rintro e w' ⟨rfl, rfl⟩)
        | (go_at_call 37; refine (eventOk2 _ _ (by simp) (by simp) (by simp)).mono ?_; rintro e w' ⟨rfl, rfl⟩))
      generalize wr.alloc (.cells #[.int .i64 0, .int .i64 0] 48) = w5 at *
      go_at_call 105
      refine HLI.out.mono ?_
      rintro e w6 ⟨Y, rfl, hcn, hod, hb6⟩
      have S6 := (HS2.out.ext hb6).row_nil 3 1
      simp only [List.cons_append, List.nil_append] at S6
      obtain ⟨at_, hat⟩ : ∃ z, z = Y (min k q - 1) := ⟨_, rfl⟩
      rw [← hat]
      have HAE := Lib.hid hat
      have HCN := Lib.hid hcn
      have HOD := Lib.hid hod
      have HS6 : Hid (St W w6 [blk gr 76 #[.int .i64 1, .int .i64 k, .int .i64 (-1)], row 3 1 (.slice (some ⟨gc, 0, none⟩) q cc) q (natV (List.range q)), row 3 1 (.slice (some ⟨gt, 0, none⟩) q ct) q (intsI (gl (sc ls) q)), row 3 1 (.slice none 0 0) (selF (fun i => decide (sc ls i ≤ at_)) 0).length (natV (selF (fun i => decide (sc ls i ≤ at_)) 0))]) := S6
      clear hat hcn hod hb6 S6 HLI HS2 d0 d1 d2
      go_wp2_with fail
      go_loopw [78, 15] (fun i ov w' => ∃ t : Nat, t ≤ q ∧ i = .int .i64 t ∧ St W w' [blk gr 76 #[.int .i64 1, .int .i64 k, .int .i64 (-1)], row 3 1 (.slice (some ⟨gc, 0, none⟩) q cc) q (natV (List.range q)), row 3 1 (.slice (some ⟨gt, 0, none⟩) q ct) q (intsI (gl (sc ls) q)), row 3 1 ov (selF (fun i => decide (sc ls i ≤ at_)) t).length (natV (selF (fun i => decide (sc ls i ≤ at_)) t))]) (fun i _ _ => q - (intOf i).toNat)
      case atStart => exact ⟨0, Nat.zero_le _, rfl, HS6.out⟩
      case round =>
        obtain ⟨t, ht, rfl, S⟩ := hrel
        clear HS6
        by_cases htq : t < q
        · have c1 := (row_int5 S (i := 2) rfl htq).1
          have c0 : wr.cell? ⟨gc, t, none⟩ = some (.int .i64 (t : Int)) := by
            obtain ⟨_, _, u, hA, _, hu, hc⟩ := (S.row_rd (i := 1) rfl).at_ htq
            cases hA
            unfold natV at hu
            rw [List.getElem?_map, List.getElem?_range htq] at hu
            cases hu
            rwa [Nat.zero_add] at hc
          have a1 := selF_snoc (fun i => decide (sc ls i ≤ at_)) t
          have l1 := selF_len (fun i => decide (sc ls i ≤ at_)) t
          have l3 := cN_le (fun i => decide (sc ls i ≤ at_)) t
          have HA1 := Lib.hid a1
          have m1 : (selF (fun i => decide (sc ls i ≤ at_)) t).length ≤ 12 := by omega
          generalize hs1 : selF (fun i => decide (sc ls i ≤ at_)) t = s1 at *
          have x1 : decide ((q : Int) ≤ (t : Int)) = false := decide_eq_false (by omega)
          have x2 : decide (q ≤ t) = false := decide_eq_false (by omega)
          clear a1 l1 l3 hs1
          have HS := Lib.hid S
          have HSL := Lib.hid (S.alloc (.cells #[.int .i64 (t : Int)] 3))
          clear S
          by_cases hlo : sc ls t ≤ at_
          · have y1 : decide (sc ls t ≤ at_) = true := decide_eq_true hlo
            have HN1 : Hid (selF (fun i => decide (sc ls i ≤ at_)) (t + 1) = s1 ++ [t]) := by show _ = _; rw [HA1.out, if_pos y1]
            generalize sc ls t = ft at *
            clear hlo
            go_wp2_with (at_builtin; refine wpList_append_st eltI rfl _ _ rfl rfl HSL.out (k := 3) rfl rfl (rd_one (by simp)) (one_int _ _) (by omega) (by omega) ?_; intro v1' w8 S8 _; simp only [List.set_cons_zero, List.set_cons_succ] at S8; have HS8 := Lib.hid S8; clear S8)
            go_roundw
            case rel =>
              refine ⟨t + 1, by omega, by go_num, ?_⟩
              rw [HN1.out, natV_snoc, List.length_append]
              exact HS8.out
            case measure => simp [intOf]; omega
          · have y1 : decide (sc ls t ≤ at_) = false := decide_eq_false hlo
            have HN1 : Hid (selF (fun i => decide (sc ls i ≤ at_)) (t + 1) = s1) := by show _ = _; rw [HA1.out, if_neg (by rw [y1]; simp), List.append_nil]
            generalize sc ls t = ft at *
            clear hlo
            go_wp2_with fail
            go_roundw
            case rel => exact ⟨t + 1, by omega, by go_num, by rw [HN1.out]; exact HS.out⟩
            case measure => simp [intOf]; omega
        · obtain rfl : q = t := by omega
          have HS := Lib.hid (S.sub (L' := [_]) (.cons _ (.cons _ (.cons _ (List.Sublist.refl _)))))
          clear S
          go_wp2_with fail
          go_ret3
          exact ⟨_, Y, by rw [← HAE.out]; rfl, HCN.out, HOD.out, by rw [← HAE.out]; exact HS.out⟩
theorem cut_ok (W : World) (v : Value) (q k : Nat) (ls : List LnI) (hq : 1 ≤ q ∧ q ≤ 12) (hk : 1 ≤ k ∧ k ≤ 200) (h : RdLn W (· < W.heap.size) v q ls) (hg : GoodL ls) (hn : GoodNs (lnNames ls) q) :
    Calls Tryz.prog 27 #[v, .agg #[.int .i64 1, .int .i64 k, .int .i64 (-1)]] W fun e w' => ∃ (v' : Value) (Y : Nat → Int), e = .returned (.tuple #[v', .int .i64 (Y (min k q - 1)), .int .i64 0]) ∧ Cnt0 (sc ls) Y q ∧ Ord0 Y q ∧
      St W w' [row 3 1 v' (selF (fun i => decide (sc ls i ≤ Y (min k q - 1))) q).length (natV (selF (fun i => decide (sc ls i ≤ Y (min k q - 1))) q))] := by
  have hb := (Below.refl W.heap.size W).alloc (Nat.le_refl _) (.cells #[.int .i64 1, .int .i64 k, .int .i64 (-1)] 76)
  have HC := Lib.hid (cutR_ok _ v q k ls hq hk (h.later hb) hg hn)
  have HB := Lib.hid hb
  obtain ⟨A, c, rfl, _, _, _⟩ := h.1.open_
  clear h hg hn hb
  generalize min k q - 1 = m1 at *
  go_enter Tryz.func27, Tryz.ntmps27
  go_wp2_with fail
  go_at_call 71
  refine HC.out.mono ?_
  rintro e w2 ⟨v', Y, rfl, hc, ho, S⟩
  obtain ⟨ym, hym⟩ : ∃ z, z = Y m1 := ⟨_, rfl⟩
  rw [← hym] at S ⊢
  have HY := Lib.hid hym
  have HS := Lib.hid ((St.of_below HB.out).call S)
  have H1 := Lib.hid hc
  have H2 := Lib.hid ho
  clear hym S hc ho HC
  go_wp2_with fail
  try go_ret3
  exact ⟨v', Y, by rw [← HY.out]; rfl, H1.out, H2.out, by rw [← HY.out]; exact HS.out⟩
end Go.Proofs.YtkkkfjinflepmaaGreatDoor
