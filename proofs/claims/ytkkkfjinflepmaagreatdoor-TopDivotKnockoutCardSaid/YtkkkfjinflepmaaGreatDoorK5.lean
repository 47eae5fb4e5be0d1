/- TopDivotKnockout: the reference's notation of a number from 1 to 12 (as KH). -/
import Derived.Test.YtkkkfjinflepmaaGreatDoorB33
import Derived.LoopN
import Derived.Test.YtkkkfjinflepmaaGreatDoorK4
set_option linter.unusedVariables false
set_option linter.unusedSimpArgs false
set_option linter.unusedSectionVars false
set_option linter.constructorNameAsVariable false
namespace Go.Proofs.YtkkkfjinflepmaaGreatDoor
open Go.RowKit Go.Mem Go.Sheet Go.Adj
attribute [local go_sem] Oper.semAt_some
def digS (n : Int) : ByteArray := if n < 10 then ⟨#[48 + n.toNat.toUInt8]⟩ else ⟨#[49, 38 + n.toNat.toUInt8]⟩
set_option maxRecDepth 100000 in
set_option maxHeartbeats 1000000 in
theorem decimal_any (n : Int) (hn : 1 ≤ n ∧ n ≤ 12) (w : World) : Calls Tryz.prog 94 #[.int .i64 n, .int .i64 1] w fun e w' => e = .returned (.string (digS n)) ∧ w = w' := by
  by_cases h9 : n ≤ 9
  · obtain rfl | rfl | rfl | rfl | rfl | rfl | rfl | rfl | rfl : n = 1 ∨ n = 2 ∨ n = 3 ∨ n = 4 ∨ n = 5 ∨ n = 6 ∨ n = 7 ∨ n = 8 ∨ n = 9 := by omega
    all_goals
      go_enter Tryz.func94, Tryz.ntmps94
      go_wp2
      refine wp_loop_rounds 2 ?_
      rw [rounds_succ]
      go_wp2
      rw [rounds_succ]
      go_wp2
      go_ret
      exact ⟨rfl, rfl⟩
  · obtain rfl | rfl | rfl : n = 10 ∨ n = 11 ∨ n = 12 := by omega
    all_goals
      go_enter Tryz.func94, Tryz.ntmps94
      go_wp2
      refine wp_loop_rounds 3 ?_
      rw [rounds_succ]
      go_wp2
      rw [rounds_succ]
      go_wp2
      rw [rounds_succ]
      go_wp2
      go_ret
      exact ⟨rfl, rfl⟩
set_option maxRecDepth 100000 in
set_option maxHeartbeats 1000000 in
theorem trim_any (w : World) (g c : Nat) (n : Int) (hn : 1 ≤ n ∧ n ≤ 12) (h : w.cell? ⟨g, 0, none⟩ = some (.int .i64 n)) : Calls Tryz.prog 118 #[.slice (some ⟨g, 0, none⟩) 1 c] w fun e w' => e = .returned (.slice (some ⟨g, 0, none⟩) 1 c) ∧ w = w' := by
  have h0 : (n == 0) = false := by simp; omega
  go_enter Tryz.func118, Tryz.ntmps118
  go_wp2
  refine wp_loop_rounds 1 ?_
  rw [rounds_succ]
  go_wp2
  go_ret
  exact ⟨rfl, rfl⟩
theorem res_signed (tmps : Array Value) (w : World) (g : Nat) (a b : Value) (hp : tmps.getD 4 undef = .pointer (some ⟨g, 0, none⟩)) (h0 : w.cell? ⟨g, 0, none⟩ = some a) (h1 : w.cell? ⟨g, 1, none⟩ = some b) :
    (results Tryz.f95 tmps).run Tryz.prog w = .ok (.agg #[a, b]) w := by
  have hp' : tmps[4]?.getD undef = .pointer (some ⟨g, 0, none⟩) := by simpa using hp
  simp [results, Tryz.results95, hp', h0, h1, go_sem]
theorem res_whole (tmps : Array Value) (w : World) (g : Nat) (a b : Value) (hp : tmps.getD 2 undef = .pointer (some ⟨g, 0, none⟩)) (h0 : w.cell? ⟨g, 0, none⟩ = some a) (h1 : w.cell? ⟨g, 1, none⟩ = some b) :
    (results Tryz.f48 tmps).run Tryz.prog w = .ok (.agg #[a, b]) w := by
  have hp' : tmps[2]?.getD undef = .pointer (some ⟨g, 0, none⟩) := by simpa using hp
  simp [results, Tryz.results48, hp', h0, h1, go_sem]
set_option maxRecDepth 100000 in
set_option maxHeartbeats 1000000 in
theorem signed_any (w : World) (g c : Nat) (n : Int) (hn : 1 ≤ n ∧ n ≤ 12) (hc : 1 ≤ c ∧ c ≤ maxLen) (hg : g < w.heap.size) (h : w.cell? ⟨g, 0, none⟩ = some (.int .i64 n)) : Calls Tryz.prog 95 #[.bool false, .slice (some ⟨g, 0, none⟩) 1 c] w fun e w' => e = .returned (.agg #[.bool false, .slice (some ⟨g, 0, none⟩) 1 c]) ∧ Below w.heap.size w w' := by
  have HT : Hid (∀ o, Calls Tryz.prog 118 #[.slice (some ⟨g, 0, none⟩) 1 c] (w.alloc o) fun e w' => e = .returned (.slice (some ⟨g, 0, none⟩) 1 c) ∧ w.alloc o = w') := fun o => trim_any _ g c n hn (((Below.refl w.heap.size w).alloc (Nat.le_refl _) o).cell hg |>.trans h)
  have S := (St.refl w).blk_new #[.bool false, .slice none 0 0] 105
  go_enter Tryz.func95, Tryz.ntmps95
  go_wp2_with (go_at_call 118; refine (HT.out _).mono ?_; rintro e w' ⟨rfl, rfl⟩)
  exact bodyPost_ret (v := .agg #[.bool false, .slice (some ⟨g, 0, none⟩) 1 c]) (res_signed _ _ w.heap.size _ _ rfl (by simp) (by simp)) rfl ⟨rfl, (Below.refl w.heap.size w).alloc (Nat.le_refl _) _⟩
set_option maxRecDepth 100000 in
set_option maxHeartbeats 1000000 in
theorem whole_any (w : World) (n : Int) (hn : 1 ≤ n ∧ n ≤ 12) : Calls Tryz.prog 48 #[.int .i64 n] w fun e w' => ∃ g c, e = .returned (.agg #[.bool false, .slice (some ⟨g, 0, none⟩) 1 c]) ∧ Below w.heap.size w w' ∧ g < w'.heap.size ∧ w'.cell? ⟨g, 0, none⟩ = some (.int .i64 n) := by
  have hrd : ∀ (w : World), Rd (w.alloc (.cells #[.int .i64 n] 3)) (fun _ => True) 1 (.slice (some ⟨w.heap.size, 0, none⟩) 1 1) 1 #[Value.int .i64 n].toList := fun w => rd_new w (size := 1) (m := 1) #[.int .i64 n] 3 rfl (by omega) (fun _ => True) trivial
  have HSG := @signed_any
  obtain rfl | rfl | rfl | rfl | rfl | rfl | rfl | rfl | rfl | rfl | rfl | rfl : n = 1 ∨ n = 2 ∨ n = 3 ∨ n = 4 ∨ n = 5 ∨ n = 6 ∨ n = 7 ∨ n = 8 ∨ n = 9 ∨ n = 10 ∨ n = 11 ∨ n = 12 := by omega
  all_goals
    have S0 := ((St.refl w).blk_new #[.bool false, .slice none 0 0] 105).row_nil 3 1
    simp only [List.cons_append, List.nil_append] at S0
    go_enter Tryz.func48, Tryz.ntmps48
    go_wp2
    generalize w.alloc (.cells #[.bool false, .slice none 0 0] 105) = w1 at S0 ⊢
    have HQ := hrd w1
    clear hrd
    refine wp_loop_rounds 2 ?_
    rw [rounds_succ]
    go_wp2_with (at_builtin; refine wpList_append_st eltI rfl _ _ rfl rfl (S0.alloc _) (k := 1) rfl rfl HQ (by simp [Value.oneCell']) (by omega) (by omega) ?_; intro v' w3 S3 _)
    rw [rounds_succ]
    obtain ⟨g, c, rfl, hc, hg1, hg2, hcell, hfz⟩ := S3.row_form (i := 1) rfl (by omega)
    have hcm : c ≤ maxLen := ((S3.row_rd (i := 1) rfl).caps).2
    have hc0 := (hcell 0 (by omega)).trans rfl
    clear hcell hfz
    have HS3 := Lib.hid S3
    have HC := Lib.hid (HSG w3 g c _ hn ⟨hc, hcm⟩ hg2 hc0)
    clear S3 S0 HQ
    go_wp2_with (go_at_call 95; refine HC.out.mono ?_; rintro e w4 ⟨rfl, hb4⟩; have S4 := HS3.out.ext hb4; have d0 := S4.blk_cell (i := 0) rfl 0; have d1 := S4.blk_cell (i := 0) rfl 1; have f0 := S4.blk_frozen (i := 0) rfl 0; have f1 := S4.blk_frozen (i := 0) rfl 1)
    have S5 := ((HS3.out.ext hb4).blk_set (i := 0) rfl 0 (.bool false)).blk_set (i := 0) rfl 1 (.slice (some ⟨g, 0, none⟩) 1 c)
    have HS5 := Lib.hid S5
    clear d0 d1 f0 f1 S4 S5
    generalize (w4.setCell ⟨w.heap.size, 0, none⟩ (.bool false)).setCell ⟨w.heap.size, 1, none⟩ (.slice (some ⟨g, 0, none⟩) 1 c) = w5 at *
    have e0 := HS5.out.blk_cell (i := 0) rfl 0
    have e1 := HS5.out.blk_cell (i := 0) rfl 1
    obtain ⟨g', c', hv, _, _, hg5, hcell5, _⟩ := HS5.out.row_form (i := 1) rfl (by omega)
    cases hv
    exact bodyPost_ret (v := .agg #[.bool false, .slice (some ⟨g, 0, none⟩) 1 c]) (res_whole _ _ w.heap.size _ _ rfl e0 e1) rfl ⟨g, c, rfl, HS5.out.bel, hg5, (hcell5 0 (by omega)).trans rfl⟩
set_option maxRecDepth 100000 in
set_option maxHeartbeats 1000000 in
theorem text_any (w : World) (g c : Nat) (n : Int) (hn : 1 ≤ n ∧ n ≤ 12) (hg : g < w.heap.size) (h : w.cell? ⟨g, 0, none⟩ = some (.int .i64 n)) : Calls Tryz.prog 47 #[.agg #[.bool false, .slice (some ⟨g, 0, none⟩) 1 c]] w fun e w' => e = .returned (.string (digS n)) ∧ Below w.heap.size w w' := by
  have hb : ∀ o, Below w.heap.size w (w.alloc o) := fun o => (Below.refl w.heap.size w).alloc (Nat.le_refl _) o
  have hd : ∀ o, (w.alloc o).cell? ⟨g, 0, none⟩ = some (.int .i64 n) := fun o => ((hb o).cell hg).trans h
  go_enter Tryz.func47, Tryz.ntmps47
  go_wp2_with (go_at_call 94; refine (decimal_any n hn _).mono ?_; rintro e w' ⟨rfl, rfl⟩)
  refine wp_loop_rounds 1 ?_
  rw [rounds_succ]
  go_wp2
  go_ret
  exact ⟨rfl, hb _⟩
theorem fromInt_any (w : World) (n : Int) (hn : 1 ≤ n ∧ n ≤ 12) : Calls Tryz.prog 19 #[.int .i64 n] w fun e w' => e = .returned (.string (digS n)) ∧ Below w.heap.size w w' := by
  have HW := Lib.hid (whole_any w n hn)
  go_enter Tryz.func19, Tryz.ntmps19
  go_wp2_with fail
  refine HW.out.mono ?_
  rintro e w2 ⟨g, c, rfl, hb, hg, hc⟩
  have HB := Lib.hid hb
  have HT := Lib.hid (text_any w2 g c n hn hg hc)
  clear hb hg hc HW
  go_wp2_with fail
  refine HT.out.mono ?_
  rintro e w3 ⟨rfl, hb3⟩
  go_wp2
  go_ret
  exact ⟨rfl, HB.out.trans (hb3.mono HB.out.size)⟩
end Go.Proofs.YtkkkfjinflepmaaGreatDoor
/- TopDivotKnockout, plain: places, names, rounds. -/
namespace Go.Proofs.YtkkkfjinflepmaaGreatDoor
open Go.RowKit Go.Mem Go.Sheet Go.Adj
/-- the place of a player in an order -/
def plO (o : List Nat) (k : Nat) : Nat := o.idxOf k
def plT (o : List Nat) (i k : Nat) : Int := if plO o k < i then (plO o k : Int) else 0
theorem plO_at {o : List Nat} (hn : o.Nodup) {i k : Nat} (h : o[i]? = some k) : plO o k = i := by
  have hl := (List.getElem?_eq_some_iff.1 h).1
  have e := (List.getElem?_eq_some_iff.1 h).2
  have hk : plO o k < o.length := List.idxOf_lt_length_of_mem (by rw [← e]; exact List.getElem_mem _)
  have e2 : o[plO o k] = k := List.getElem_idxOf hk
  exact (List.getElem_inj hn).1 (e2.trans e.symm)
theorem plO_get {o : List Nat} {k : Nat} (h : k ∈ o) : o[plO o k]? = some k := by
  have hk : plO o k < o.length := List.idxOf_lt_length_of_mem h
  rw [List.getElem?_eq_getElem hk]
  exact congrArg some (List.getElem_idxOf hk)
theorem plT_step {o : List Nat} (hn : o.Nodup) {i k : Nat} (h : o[i]? = some k) : plT o (i + 1) k = i ∧ ∀ j, j ≠ k → plT o (i + 1) j = plT o i j := by
  have hp := plO_at hn h
  unfold plT
  refine ⟨by rw [hp, if_pos (by omega)], fun j hj => ?_⟩
  have hne : plO o j ≠ i := fun e => by
    by_cases hm : j ∈ o
    · have h1 := plO_get hm
      rw [e, h] at h1
      exact hj (Option.some.inj h1).symm
    · have h1 : plO o j = o.length := List.idxOf_eq_length hm
      have h2 := (List.getElem?_eq_some_iff.1 h).1
      omega
  by_cases h1 : plO o j < i
  · rw [if_pos h1, if_pos (by omega)]
  · rw [if_neg h1, if_neg (by omega)]
theorem plT_all {o : List Nat} {m : Nat} (hm : ∀ i, i ∈ o ↔ i < m) (hl : o.length = m) : gl (plT o m) m = gl (fun k => (plO o k : Int)) m := by
  unfold gl
  refine List.map_congr_left fun k hk => ?_
  have h1 : plO o k < o.length := List.idxOf_lt_length_of_mem ((hm k).2 (List.mem_range.1 hk))
  unfold plT
  rw [if_pos (by omega)]
theorem plT_zero (o : List Nat) (m : Nat) : gl (plT o 0) m = gl (fun _ => 0) m := by
  unfold gl
  refine List.map_congr_left fun k hk => ?_
  unfold plT
  rw [if_neg (Nat.not_lt_zero _)]
theorem plO_place {o : List Nat} {m : Nat} (hm : ∀ i, i ∈ o ↔ i < m) : PlaceOk (plO o) m :=
  ⟨fun i j hi hj e => by
    have h1 := plO_get ((hm i).2 hi)
    have h2 := plO_get ((hm j).2 hj)
    rw [e, h2] at h1
    exact (Option.some.inj h1).symm⟩
/-- the names -/
def nmK (i : Nat) : ByteArray := (⟨#[112]⟩ : ByteArray) ++ digS ((i : Int) + 1)
def nmChk : Bool := ((List.range 12).all fun i => nameB (nmK i) && decide ((nmK i).size ≤ 3) && (List.range 12).all fun j => decide (i ≤ j) || decide (nmK j ≠ nmK i))
theorem nm_chk : nmChk = true := by decide +kernel
theorem nmK_good {m : Nat} (hm : m ≤ 12) : GoodNs nmK m := by
  have h := nm_chk
  unfold nmChk at h
  refine ⟨fun i hi => ?_, fun i j hi hj => ?_⟩
  · have h1 := List.all_eq_true.1 h i (List.mem_range.2 (by omega))
    simp only [Bool.and_eq_true, decide_eq_true_eq] at h1
    exact ⟨h1.1.1, by omega⟩
  · have h1 := List.all_eq_true.1 h i (List.mem_range.2 (by omega))
    simp only [Bool.and_eq_true] at h1
    have h2 := List.all_eq_true.1 h1.2 j (List.mem_range.2 (by omega))
    rw [decide_eq_false (by omega), Bool.false_or] at h2
    exact of_decide_eq_true h2
/-- who loses in the rounds -/
def lsK (pl : Nat → Nat) (m r : Nat) : List Nat := lossL (upK pl) none (rndL (upK pl) none m r) ((slotL m).length / 2 ^ (r + 1))
def LLK (f : Nat → ByteArray) (pl : Nat → Nat) (m r : Nat) : List (List Value) := (List.range r).map fun i => strsL f (lsK pl m i)
theorem LLK_snoc (f : Nat → ByteArray) (pl : Nat → Nat) (m r : Nat) : LLK f pl m (r + 1) = LLK f pl m r ++ [strsL f (lsK pl m r)] := by unfold LLK; rw [List.range_succ, List.map_append]; rfl
theorem LLK_len (f : Nat → ByteArray) (pl : Nat → Nat) (m r : Nat) : (LLK f pl m r).length = r := by unfold LLK; simp
theorem slotK_len {m R r : Nat} (hS : SlotOk m R) (hr : r ≤ R) : (slotL m).length / 2 ^ r = 2 ^ (R - r) := by rw [hS.len, pw5 hr]
theorem slotK_two {m R r : Nat} (hS : SlotOk m R) (hr : r < R) : (slotL m).length / 2 ^ r = 2 * ((slotL m).length / 2 ^ (r + 1)) := by
  rw [slotK_len hS (by omega), slotK_len hS (by omega), show R - r = R - (r + 1) + 1 by omega, Nat.pow_succ]; omega
theorem pow_cases {R r : Nat} (hR : R ≤ 4) (hr : r < R) : 2 ^ (R - r) = 2 ∨ 2 ^ (R - r) = 4 ∨ 2 ^ (R - r) = 8 ∨ 2 ^ (R - r) = 16 := by
  have : R - r = 1 ∨ R - r = 2 ∨ R - r = 3 ∨ R - r = 4 := by omega
  rcases this with e | e | e | e <;> rw [e] <;> decide
theorem losers_none (up : Nat → Nat → Int) (S : List (Option Nat)) (k : Nat) : losers up none S k = lossL up none S k := rfl
theorem rnd_bd {up : Nat → Nat → Int} {m R r i p : Nat} (hS : SlotOk m R) (h : (rndL up none m r).getD i none = some p) : p < m := by
  obtain ⟨_, h2⟩ := rndL_at (getD_some.1 h)
  obtain ⟨j, hj⟩ := rndF_from r i p h2
  exact (hS.bd j p hj).1
theorem runK {pl : Nat → Nat} {m R : Nat} (hS : SlotOk m R) : RunOk m R (fun r => rndL (upK pl) none m r) (lsK pl m) where
  len := fun r hr => by
    have h2 := slotK_two hS hr
    refine ⟨(slotL m).length / 2 ^ (r + 1), by rw [rndL_len]; exact h2, ?_, ?_, fun j hj => ?_⟩
    · rw [rndL_len, slotK_len hS (by omega)]; exact pow_cases hS.rr.2 hr
    · have h3 := rndL_step (up := upK pl) (gone := none) hS.inj h2
      rw [ite_self, losers_none] at h3
      exact h3.symm
    · exact (pair_stay (up := upK pl) (gone := none) (rndL_inj hS.inj) hj).1
  nd := fun r _ => pres_nodup (rndL_inj hS.inj)
  bd := fun r _ p hp => by
    obtain ⟨i, hi, e⟩ := List.mem_iff_getElem.1 (mem_pres.1 hp)
    exact rnd_bd hS (i := i) (getD_some.2 (by rw [List.getElem?_eq_getElem hi, e]))
  ln := fun r _ => lossL_nodup (rndL_inj hS.inj) _
  lp := fun r _ p hp => losers_pres (gone := none) (fun g h => by cases h) hp
theorem lostK_le (pl : Nat → Nat) (n p : Nat) : ∀ r, r ≤ 9 → lostK pl n r p ≤ 10 * r
  | 0, _ => Nat.le_refl _
  | r + 1, h => by
    have ih := lostK_le pl n p r (by omega)
    unfold lostK
    split <;> omega
/-- the rounds lost so far, some pairs of a round done -/
def lostP (L : Nat → Nat) (lk : List Nat) (r p : Nat) : Int := ((L p + (if lk.contains p then r + 1 else 0) : Nat) : Int)
theorem lostP_nil (L : Nat → Nat) (r : Nat) : lostP L [] r = fun p => (L p : Int) := rfl
theorem lostP_step {L : Nat → Nat} {lk : List Nat} {z r : Nat} (hn : (lk ++ [z]).Nodup) : lostP L (lk ++ [z]) r z = lostP L lk r z + ((r : Int) + 1) ∧ ∀ i, i ≠ z → lostP L (lk ++ [z]) r i = lostP L lk r i := by
  have hz : z ∉ lk := fun h => by
    rw [List.nodup_append] at hn
    exact hn.2.2 z h z (by simp) rfl
  have hzc : lk.contains z = false := by
    rw [Bool.eq_false_iff]; exact fun h => hz (List.contains_iff_mem.1 h)
  unfold lostP
  refine ⟨?_, fun i hi => ?_⟩
  · rw [hzc, if_pos (by simp)]; simp
  · have : (lk ++ [z]).contains i = lk.contains i := by
      rw [Bool.eq_iff_iff, List.contains_iff_mem, List.contains_iff_mem, List.mem_append, List.mem_singleton]
      exact ⟨fun h => h.resolve_right hi, .inl⟩
    rw [this]
theorem lostP_end (pl : Nat → Nat) (n r : Nat) : lostP (lostK pl n r) (lsK pl n r) r = fun p => (lostK pl n (r + 1) p : Int) := rfl
theorem lostP_bd {L : Nat → Nat} {lk : List Nat} {r p : Nat} (h : L p ≤ 90) (hr : r ≤ 9) : 0 ≤ lostP L lk r p ∧ lostP L lk r p ≤ 100 := by
  unfold lostP
  split <;> omega
theorem lossK_two {pl : Nat → Nat} {a b : Nat} : lossP (upK pl) none (some a) (some b) = [if pl a < pl b then b else a] := by
  show (if none = some a ∨ none = some b then [] else [loseF (upK pl) a b]) = _
  rw [if_neg (by simp), loseK]
end Go.Proofs.YtkkkfjinflepmaaGreatDoor
