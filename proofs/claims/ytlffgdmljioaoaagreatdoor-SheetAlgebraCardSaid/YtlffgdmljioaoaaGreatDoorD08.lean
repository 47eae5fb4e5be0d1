/- Part 8 of the walks of the golf union's program: TailP, QR1, QR2, WB, WC. -/
import Derived.Test.YtlffgdmljioaoaaGreatDoorD07
import Derived.Test.YtlffgdmljioaoaaGreatDoorD06
import Derived.Lib.ItoaNum
import Derived.Lib.ItoaMem
import Derived.Test.YtlffgdmljioaoaaGreatDoorD01
import Derived.Test.YtlffgdmljioaoaaGreatDoorD04
set_option linter.unusedVariables false
set_option linter.unusedSimpArgs false
set_option linter.unusedSectionVars false
set_option linter.constructorNameAsVariable false
/- A drawn region: first m operations that have one value in whatever world; then operations that have one value in every world of a class (calls among them); then a forced tail. -/
namespace Go.Mem
open Go Go.RowKit
variable {P : Program} {ops : Array Oper} {md : Region.Mode} {C : World → Prop}
section
variable {m n i : Nat} {oi : Oper} {v : Value} {L : Array Bool → Act → Prop}
theorem headAnyM_first (hi : ops[i]? = some oi) (hsel : ∀ (j : Nat) (o : Oper) cs b, ops[j]? = some o → o.op ≠ .select cs b) (hs : sinkFrom md ops m n = true) (hc : Region.chainB md ops n = true)
    (hn : n < ops.size) (hin : i < n) (hend : ∀ ls a, L ls a → ∀ j ∈ Region.ready md ops ls, n ≤ j) (k : Nat) :
    ∀ (ls : Array Bool) (a : Act), HeadInv md ops n ls → (∀ i < m, ls.getD i true = true) →
      (∀ j oj, ops[j]? = some oj → j ≠ i → ls.getD j true = false → (∀ e ∈ oj.after, Region.binds md e = true → e.on ≠ i) → oi.apart ops oj = true) →
      i ∈ Region.ready md ops ls → YieldsIn P ops C oi v a → headAny P md ops C n L k (ls.setIfInBounds i true) (a.put oi.dst v) → headAny P md ops C n L (k + 1) ls a := by
  have inHead : ∀ (ls : Array Bool), HeadInv md ops n ls → (∀ i < m, ls.getD i true = true) → i ∈ Region.ready md ops ls → ∀ j ∈ Region.ready md ops ls, j < n := by
    intro ls inv hm hr j hj
    rcases Nat.lt_or_ge j n with h | h
    · exact h
    · have hun := (mem_ready.1 hr).1
      have hmi : m ≤ i := by
        rcases Nat.lt_or_ge i m with h' | h'
        · rw [hm i h'] at hun; cases hun
        · exact h'
      exact absurd hj (tail_waits' hs hc hn inv _ i rfl hmi hin hun j h)
  induction k with
  | zero =>
    intro ls a inv hm _ hr hy H
    refine ⟨fun h => (by rw [h] at hr; cases hr), fun j hj => ⟨inHead ls inv hm hr j hj, ?_⟩⟩
    by_cases e : j = i
    · subst e; exact hy.qOp hi H
    · have h1 := hend _ _ H j (ready_mono hj e)
      have h2 := inHead ls inv hm hr j hj
      omega
  | succ k ih =>
    intro ls a inv hm hfree hr hy H
    refine ⟨fun h => (by rw [h] at hr; cases hr), fun j hj => ⟨inHead ls inv hm hr j hj, ?_⟩⟩
    by_cases e : j = i
    · subst e; exact hy.qOp hi H
    · obtain ⟨hju, oj, hoj, hall⟩ := mem_ready.1 hj
      have hnot : ∀ d ∈ oj.after, Region.binds md d = true → d.on ≠ i := fun d hd hb hq => by
        have h1 := hall d hd hb
        rw [hq, getD_both (mem_ready.1 hr).1] at h1
        cases h1
      have h1 := qOp_put hoj (hfree j oj hoj e hju hnot) (fun cs b => hsel i oi cs b hi) (fun cs b => hsel j oj cs b hoj) hy (H.2 j (ready_mono hj e)).2
      refine qOp_mono (fun a' h2 => ?_) h1
      refine ih (ls.setIfInBounds j true) a' (inv.set hj (inHead ls inv hm hr j hj)) (fun x hx => setAll_true [j] ls x (hm x hx)) (fun m om hm hmi hmu hno => ?_) (ready_mono hr (Ne.symm e)) h2.1 ?_
      · refine hfree m om hm hmi ?_ hno
        by_cases hjm : j = m
        · subst hjm; exact hju
        · rw [getD_set_ne true hjm] at hmu; exact hmu
      · rw [Array.setIfInBounds_comm _ _ e]
        exact h2.2
end
theorem headAnyM_lex {m n g : Nat} {R : Act → Prop} (hsel : Region.noSelect ops = true) (hs : sinkFrom md ops m n = true) (hc : Region.chainB md ops n = true) (hn : n < ops.size) (l : List Oper) :
    ∀ (k : Nat) (ls : Array Bool) (a : Act), (∀ j, j < l.length → l[j]? = ops[k + j]?) → k + l.length = n → HeadInv md ops n ls → (∀ i < m, ls.getD i true = true) → Region.lexHead md ops g l.length k ls = true → wpQuiet P ops C R l a →
      headAny P md ops C n (fun ls' a' => Region.seqB md ops g n ls' = true ∧ R a') l.length ls a := by
  induction l with
  | nil =>
    intro k ls a _ hk _ _ hB h
    obtain rfl : k = n := by simpa using hk
    exact ⟨by simpa [Region.lexHead] using hB, h⟩
  | cons o l ih =>
    intro k ls a hl hk inv hm hB h
    have h0 : ops[k]? = some o := by simpa using (hl 0 (by simp)).symm
    simp only [List.length_cons] at hk
    simp only [List.length_cons, Region.lexHead, Bool.and_eq_true] at hB
    have hkn : k < n := by omega
    have hr : k ∈ Region.ready md ops ls := by simpa using hB.1.1
    have hq : qOp P ops C k (wpQuiet P ops C R l) a := by unfold qOp; simp only [h0]; exact h
    obtain ⟨v, hy, hK⟩ := yieldsIn_of_qOp h0 hq
    refine headAnyM_first h0 (Region.noSelect_spec hsel) hs hc hn hkn (fun ls' a' hL => seqB_ready hL.1) l.length ls a inv hm (Region.free_spec h0 hB.1.2) hr hy ?_
    refine ih (k + 1) _ _ (fun j hj => ?_) (by omega) (inv.set hr hkn) (fun x hx => setAll_true [k] ls x (hm x hx)) hB.2 hK
    have := hl (j + 1) (by simp only [List.length_cons]; omega)
    simpa [Nat.add_assoc, Nat.add_comm 1 j] using this
/-- what the numbers of a region must be -/
def preTailB (ops : Array Oper) (m n : Nat) : Bool :=
  let l0 := Array.replicate ops.size false
  let l1 := setAll (List.range m) l0
  Region.noSelect ops && decide (n < ops.size) && decide (m ≤ n) && sinkFrom .any ops m n && Region.chainB .any ops n && lexIs .any ops (List.range m) l0 && Region.lexHead .any ops (ops.size - n) (n - m) m l1
/-- the law -/
theorem wp_pre_tail {id : Nat} {Q : Exit → Act → World → Prop} {a : Act} {w : World} {l : List Oper} (m n : Nat) (K : World → Prop) (hm : P.follows .mixedOrders = true) (hB : preTailB l.toArray m n = true) (hC : K w.drew)
    (h : Nonempty (Wd K) → wpQuiet P l.toArray (fun _ => True) (fun a1 => wpQuiet P l.toArray (fun w' => ∃ x : Wd K, w' = x.w) (fun a' => ∀ x : Wd K, wpList P l.toArray (NoPanic Q) (l.drop n) a' x.w) ((l.drop m).take (n - m)) a1) (l.take m) a) : (Code.region id l.toArray true).wp P Q a w := by
  simp only [preTailB, Bool.and_eq_true, decide_eq_true_eq] at hB
  obtain ⟨⟨⟨⟨⟨⟨hsel, hn⟩, hmn⟩, hs⟩, hc⟩, hpre⟩, hlex⟩ := hB
  have hQ : ∀ c a a' w, NoPanic Q (.panic c) a' w → NoPanic Q (.panic c) a w := fun _ _ _ _ h => (h : False).elim
  have inv0 : HeadInv .any l.toArray n (Array.replicate l.toArray.size false) :=
    ⟨by simp, fun j oj _ hl => (by rw [getD_replicate_false] at hl; cases hl), fun t _ ht => getD_in (by simpa using ht) (getD_replicate_false _ _)⟩
  have inv1 := HeadInv.setAll (List.range m) _ inv0 hpre fun i hi => by have := List.mem_range.1 hi; omega
  refine wp_region_noPanic (wp_region_any hm ?_)
  have hn' : n < l.length := by simpa using hn
  have hdl : (l.drop n).length = l.toArray.size - n := by simp
  have hml : ((l.drop m).take (n - m)).length = n - m := by simp; omega
  have hpk : pick l.toArray (List.range m) = l.take m := by
    refine List.ext_getElem? fun i => ?_
    have key : ∀ k, k ≤ l.length → pick l.toArray (List.range k) = l.take k := by
      intro k
      induction k with
      | zero => intro _; rfl
      | succ k ih =>
        intro hk
        rw [List.range_succ, pick, List.filterMap_append]
        have := ih (by omega)
        rw [pick] at this
        rw [this, List.take_succ_eq_append_getElem (by omega)]
        simp [show k < l.length by omega]
    rw [key m (by omega)]
  have e : (fun w' => ∃ x : Wd K, w' = x.w) = K := by
    funext w'
    exact propext ⟨fun ⟨y, hy⟩ => hy ▸ y.h, fun h => ⟨⟨w', h⟩, rfl⟩⟩
  have h1 := h ⟨⟨_, hC⟩⟩
  rw [e] at h1
  have hsz : l.toArray.size = (List.range m).length + (((l.drop m).take (n - m)).length + (l.toArray.size - n)) := by rw [List.length_range, hml]; omega
  have hfu : wpAny P .any l.toArray (NoPanic Q) ((List.range m).length + (((l.drop m).take (n - m)).length + (l.toArray.size - n))) (Array.replicate l.toArray.size false) a w.drew := by
    refine wpAny_pre hsel hQ (List.range m) _ _ hpre ?_
    rw [hpk]
    refine wpQuiet_mono' (fun a1 h3 => ?_) h1
    have H := headAnyM_lex (md := .any) (g := l.toArray.size - n) hsel hs hc hn ((l.drop m).take (n - m)) m _ a1 (fun j hj => by
      rw [hml] at hj
      rw [List.getElem?_take_of_lt hj, List.getElem?_drop]
      simp) (by rw [hml]; omega) inv1 (fun i hi => setAll_mem _ _ i (List.mem_range.2 hi)) (by rw [hml]; exact hlex) h3
    refine headAny_sound (fun ls a' w' hw' hL => ?_) _ _ _ _ hC H
    have := wpAny_of_seq (P := P) (md := .any) (Q' := NoPanic Q) (l.drop n) n ls a' w' (fun j => by simp [List.getElem?_drop]) (by rw [hdl]; exact hL.1) (hL.2 ⟨w', hw'⟩)
    rwa [hdl] at this
  rw [← hsz] at hfu
  exact hfu
end Go.Mem
/- Fractions as texts: plain; the reference's gcd. -/
namespace Go.Sheet
/-- bytes as a string -/
def tB (l : List UInt8) : ByteArray := ⟨l.toArray⟩
theorem tB_size (l : List UInt8) : (tB l).size = l.length := by simp [tB, ByteArray.size]
theorem tB_list (l : List UInt8) : (tB l).toList = l := by rw [ByteArray.toList_eq]; simp [tB]
theorem tB_app (a b : List UInt8) : tB a ++ tB b = tB (a ++ b) := by
  apply ByteArray.ext
  simp [tB]
theorem tB_ext (l : List UInt8) (a b : Nat) : (tB l).extract a b = tB ((l.take b).drop a) := by
  apply ByteArray.ext
  simp [tB, ByteArray.data_extract, List.drop_take]
theorem tB_at (l : List UInt8) (k : Nat) (h : k < (tB l).size) : (tB l)[k]'h = l[k]'(by rw [← tB_size]; exact h) := by
  show (tB l).data[k]'_ = _
  simp [tB]
/-- a fraction in lowest terms, as a text -/
def txtL (p q : Int) : List UInt8 := Lib.itoa (p / (Nat.gcd p.natAbs q.natAbs : Int)) ++ (if q / (Nat.gcd p.natAbs q.natAbs : Int) = 1 then [] else 47 :: Lib.itoa (q / (Nat.gcd p.natAbs q.natAbs : Int)))
end Go.Sheet
namespace Go.Proofs.YtlffgdmljioaoaaGreatDoor
open Go.RowKit Go.Mem Go.Sheet
set_option maxRecDepth 100000 in
set_option maxHeartbeats 1000000 in
theorem rgcd_any (w : World) (a b : Nat) (ha : (a : Int) ≤ 4000000000000000000) (hb : (b : Int) ≤ 4000000000000000000) : Calls Tryz.prog 108 #[.int .i64 a, .int .i64 b] w fun e w' => e = .returned (.int .i64 (Nat.gcd a b : Int)) ∧ Below w.heap.size w w' := by
  go_enter Tryz.func108, Tryz.ntmps108
  go_wp2
  go_loopw [0, 1] (fun x y w' => ∃ c d : Nat, (c : Int) ≤ 4000000000000000000 ∧ (d : Int) ≤ 4000000000000000000 ∧ x = .int .i64 c ∧ y = .int .i64 d ∧ Hid (Nat.gcd c d = Nat.gcd a b) ∧ Below w.heap.size w w') (fun _ y _ => (intOf y).toNat)
  case atStart => exact ⟨a, b, ha, hb, rfl, rfl, Lib.hid rfl, Below.refl _ _⟩
  case round =>
    obtain ⟨c, d, hc, hd, rfl, rfl, hg, hbw⟩ := hrel
    have HBW := Lib.hid hbw
    clear hbw
    clear ha hb
    rcases Nat.eq_zero_or_pos d with h0 | h0
    · subst h0
      have HG : Hid ((Nat.gcd a b : Int) = (c : Int)) := Lib.hid (by rw [← hg.out, Nat.gcd_zero_right])
      go_wp2
      go_ret
      rw [HG.out]
      exact ⟨rfl, HBW.out⟩
    · have t1 : decide ((0 : Int) < (d : Int)) = true := decide_eq_true (by omega)
      obtain ⟨r, hr⟩ : ∃ r, r = c % d := ⟨_, rfl⟩
      have hrd : r < d := by rw [hr]; exact Nat.mod_lt _ h0
      have hk : (c : Int) % (d : Int) = (r : Int) := by rw [hr]; exact (Int.natCast_emod c d).symm
      have HG : Hid (Nat.gcd d r = Nat.gcd a b) := Lib.hid (by rw [← hg.out, hr, Nat.gcd_comm d, ← Nat.gcd_rec, Nat.gcd_comm])
      clear hr
      go_wp2_with fail
      refine wp_cls 5 (fun w' => Below w.heap.size w w') (by kernel_rfl) (by kernel_rfl) HBW.out.drew ?_
      simp only [List.take_succ_cons, List.take_zero, List.drop_succ_cons, List.drop_zero]
      generalize hK : (fun w' => Below w.heap.size w w') = K
      intro hne
      have kw : ∀ y : Wd K, Below w.heap.size w y.w := by subst hK; exact fun y => y.h
      clear hK
      repeat (go_big_quiet_step ((fail)))
      refine wpQuiet_nil ?_
      intro y
      have HBY := Lib.hid (kw y)
      clear kw hne HBW
      generalize y.w = wy at *
      rw [hk]
      go_wp2_with fail
      go_roundw
      case rel => exact ⟨d, r, hd, by omega, rfl, rfl, HG, HBY.out⟩
      case measure => simp [intOf]; omega
/-- the decimal notation with at least k digits -/
def decW (k n : Nat) : List UInt8 := if h : n = 0 ∧ k = 0 then [] else decW (k - 1) (n / 10) ++ [UInt8.ofNat (48 + n % 10)]
termination_by n + k
decreasing_by
  rcases Nat.eq_zero_or_pos n with h0 | h0
  · subst h0; omega
  · have := Nat.div_lt_self h0 (show 1 < 10 by omega); omega
theorem decW_zero : decW 0 0 = [] := by rw [decW, dif_pos ⟨rfl, rfl⟩]
theorem decW_step {k n : Nat} (h : ¬ (n = 0 ∧ k = 0)) : decW k n = decW (k - 1) (n / 10) ++ [UInt8.ofNat (48 + n % 10)] := by rw [decW, dif_neg h]
theorem decW_dec : ∀ (n : Nat), decW 1 n = Lib.decDigits n := by
  intro n
  induction n using Nat.strongRecOn with
  | _ n ih =>
    rw [decW_step (by omega), Lib.decDigits]
    split
    · rename_i h
      rw [show n / 10 = 0 by omega, show n % 10 = n by omega, decW_zero, List.nil_append]
    · rename_i h
      have h1 : ¬ (n / 10 = 0 ∧ (0 : Nat) = 0) := by omega
      have h2 : decW 0 (n / 10) = decW 1 (n / 10) := by rw [decW_step h1, decW_step (k := 1) (by omega)]
      rw [show 1 - 1 = 0 by omega, h2, ih (n / 10) (by omega)]
theorem decW_len : ∀ (k n : Nat), (decW k n).length ≤ n + k := by
  have h : ∀ m k n : Nat, n + k = m → (decW k n).length ≤ m := by
    intro m
    induction m using Nat.strongRecOn with
    | _ m ih =>
      intro k n e
      by_cases h0 : n = 0 ∧ k = 0
      · rw [h0.1, h0.2, decW_zero]; exact Nat.zero_le _
      · rw [decW_step h0, List.length_append, List.length_singleton]
        have hlt : n / 10 + (k - 1) < m := by
          rcases Nat.eq_zero_or_pos n with g | g
          · subst g; omega
          · have := Nat.div_lt_self g (show 1 < 10 by omega); omega
        have := ih _ hlt (k - 1) (n / 10) rfl
        omega
  exact fun k n => h _ k n rfl
theorem dig_one {d : Nat} (h : d < 10) : (⟨#[48, 49, 50, 51, 52, 53, 54, 55, 56, 57]⟩ : ByteArray).extract d (d + 1) = tB [UInt8.ofNat (48 + d)] := by
  obtain rfl | rfl | rfl | rfl | rfl | rfl | rfl | rfl | rfl | rfl : d = 0 ∨ d = 1 ∨ d = 2 ∨ d = 3 ∨ d = 4 ∨ d = 5 ∨ d = 6 ∨ d = 7 ∨ d = 8 ∨ d = 9 := by omega
  all_goals rfl
set_option maxRecDepth 100000 in
set_option maxHeartbeats 1000000 in
theorem rdecimal_any (w : World) (n k : Nat) (hn : (n : Int) ≤ 4000000000000000000) (hk : k ≤ 20) : Calls Tryz.prog 109 #[.int .i64 n, .int .i64 k] w fun e w' => e = .returned (.string (tB (decW k n))) ∧ w = w' := by
  go_enter Tryz.func109, Tryz.ntmps109
  go_wp2
  go_loop [0, 5] (fun x s => ∃ (c : Nat) (T : List UInt8), (c : Int) ≤ 4000000000000000000 ∧ x = .int .i64 c ∧ s = .string (tB T) ∧ Hid (decW (k - T.length) c ++ T = decW k n)) (fun x s => (intOf x).toNat + (k - (match s with | .string z => z.size | _ => 0)))
  case atStart => exact ⟨n, [], hn, rfl, rfl, Lib.hid (by simp)⟩
  case round =>
    obtain ⟨c, T, hc, rfl, rfl, hT⟩ := hrel
    by_cases h0 : c = 0 ∧ k - T.length = 0
    · have HR : Hid (decW k n = T) := Lib.hid (by rw [← hT.out, h0.1, h0.2, decW_zero, List.nil_append])
      have t1 : decide ((0 : Int) < (c : Int)) = false := decide_eq_false (by omega)
      have hts := tB_size T
      generalize hst : tB T = sT at *
      have HST := Lib.hid hst
      have t2 : decide ((sT.size : Int) < (k : Int)) = false := decide_eq_false (by omega)
      have t2' : decide (sT.size < k) = false := decide_eq_false (by omega)
      clear hts hst
      go_wp2
      go_ret
      rw [HR.out, HST.out]
      exact ⟨rfl, rfl⟩
    · obtain ⟨d, hd⟩ : ∃ d, d = c % 10 := ⟨_, rfl⟩
      have hd10 : d < 10 := by omega
      have hr1 : (c : Int) % 10 = (d : Int) := by omega
      have hr2 : IntKind.i64.wrap ((d : Int) + 1) = ((d + 1 : Nat) : Int) := IntWalk.i64_in _ (by omega)
      obtain ⟨e, he⟩ : ∃ e, e = c / 10 := ⟨_, rfl⟩
      have hq1 : (c : Int) / 10 = (e : Int) := by omega
      have HN : Hid (decW (k - (UInt8.ofNat (48 + d) :: T).length) e ++ (UInt8.ofNat (48 + d) :: T) = decW k n) := Lib.hid (by
        rw [← hT.out, decW_step h0, hd, he, List.length_cons, show k - (T.length + 1) = k - T.length - 1 by omega]
        simp)
      obtain ⟨dg, hdg⟩ : ∃ z, z = tB [UInt8.ofNat (48 + d)] := ⟨_, rfl⟩
      have hdl : dg.size = 1 := by rw [hdg, tB_size]; rfl
      have hsl : ∀ w, (Instr.slice 9 (.string ⟨#[48, 49, 50, 51, 52, 53, 54, 55, 56, 57]⟩) (some (.int .i64 (d : Int))) (some (.int .i64 ((d : Int) + 1))) none).run Tryz.prog w = .ok (.string dg) w := fun w => by
        have h := run_slice_string (P := Tryz.prog) w 9 ⟨#[48, 49, 50, 51, 52, 53, 54, 55, 56, 57]⟩ .i64 .i64 (d : Int) ((d : Int) + 1) Tryz.underlying9 (by omega) (by omega) (by show (d : Int) + 1 ≤ ((10 : Nat) : Int); omega)
        rw [h, show ((d : Int)).toNat = d by omega, show ((d : Int) + 1).toNat = d + 1 by omega, dig_one hd10, ← hdg]
      have HAP : Hid (dg ++ tB T = tB (UInt8.ofNat (48 + d) :: T)) := Lib.hid (by rw [hdg, tB_app]; rfl)
      clear hdg
      have HM : Hid (e + (k - (T.length + 1)) < c + (k - T.length)) := Lib.hid (by
        show _ < _
        rcases Nat.eq_zero_or_pos c with g | g
        · omega
        · have := Nat.div_lt_self g (show 1 < 10 by omega)
          omega)
      have hec : (e : Int) ≤ 4000000000000000000 := by omega
      have hts := tB_size T
      have hTl : (tB T).size ≤ 4000000000000000020 := by
        have h1 := decW_len k n
        have h2 := congrArg List.length hT.out
        rw [List.length_append] at h2
        omega
      clear hd he
      rcases Nat.eq_zero_or_pos c with g | g
      · have t1 : decide ((0 : Int) < (c : Int)) = false := decide_eq_false (by omega)
        have t1' : decide (0 < c) = false := decide_eq_false (by omega)
        have t2 : decide (((tB T).size : Int) < (k : Int)) = true := decide_eq_true (by omega)
        have t2' : decide ((tB T).size < k) = true := decide_eq_true (by omega)
        clear g h0
        generalize hst : tB T = sT at *
        have HST := Lib.hid hst
        clear hst hts
        go_wp2
        refine ⟨⟨e, _ :: T, hec, rfl, by rw [HAP.out], HN⟩, ?_⟩
        show (e : Int).toNat + (k - (dg ++ sT).size) < (c : Int).toNat + (k - sT.size)
        rw [HAP.out, ← HST.out, tB_size, tB_size]
        exact HM.out
      · have t1 : decide ((0 : Int) < (c : Int)) = true := decide_eq_true (by omega)
        have t1' : decide (0 < c) = true := decide_eq_true (by omega)
        clear g h0
        generalize hst : tB T = sT at *
        have HST := Lib.hid hst
        clear hst hts
        go_wp2
        refine ⟨⟨e, _ :: T, hec, rfl, by rw [HAP.out], HN⟩, ?_⟩
        show (e : Int).toNat + (k - (dg ++ sT).size) < (c : Int).toNat + (k - sT.size)
        rw [HAP.out, ← HST.out, tB_size, tB_size]
        exact HM.out
end Go.Proofs.YtlffgdmljioaoaaGreatDoor
/- The reference's Of: a fraction's text. -/
namespace Go.Sheet
/-- numerator and denominator in lowest terms -/
theorem low_terms (p q : Int) (hq : 1 ≤ q) : ∃ (g : Nat) (P Q : Int), 1 ≤ g ∧ g = Nat.gcd p.natAbs q.natAbs ∧ p = P * g ∧ q = Q * g ∧ 1 ≤ Q ∧ Nat.gcd P.natAbs Q.natAbs = 1 ∧ P.natAbs ≤ p.natAbs ∧ Q ≤ q ∧ txtL p q = Lib.itoa P ++ (if Q = 1 then [] else 47 :: Lib.itoa Q) := by
  have hg : 0 < Nat.gcd p.natAbs q.natAbs := Nat.gcd_pos_of_pos_right _ (by omega)
  obtain ⟨a, ha⟩ := Nat.gcd_dvd_left p.natAbs q.natAbs
  obtain ⟨c, hc⟩ := Nat.gcd_dvd_right p.natAbs q.natAbs
  have hcop : Nat.gcd a c = 1 := by
    have h := Nat.gcd_mul_left (Nat.gcd p.natAbs q.natAbs) a c
    rw [← ha, ← hc] at h
    have := Nat.eq_of_mul_eq_mul_left hg (h.symm.trans (Nat.mul_one _).symm)
    exact this
  obtain ⟨g, hgg⟩ : ∃ g, g = Nat.gcd p.natAbs q.natAbs := ⟨_, rfl⟩
  rw [← hgg] at ha hc hg
  have hpa : ∃ P : Int, p = P * g ∧ P.natAbs = a := by
    rcases Int.le_total 0 p with h | h
    · refine ⟨a, ?_, by omega⟩
      have : (p.natAbs : Int) = p := by omega
      rw [← this, ha]; simp [Int.mul_comm]
    · refine ⟨-a, ?_, by omega⟩
      have : (p.natAbs : Int) = -p := by omega
      have e : p = -(p.natAbs : Int) := by omega
      rw [e, ha, Int.neg_mul]; simp [Int.mul_comm]
  obtain ⟨P, hP, hPa⟩ := hpa
  have hQ : q = (c : Int) * g := by
    have : (q.natAbs : Int) = q := by omega
    rw [← this, hc]; simp [Int.mul_comm]
  have hc1 : 1 ≤ c := by
    rcases Nat.eq_zero_or_pos c with h | h
    · subst h; simp at hc; omega
    · exact h
  refine ⟨g, P, c, hg, hgg, hP, hQ, by omega, by rw [hPa]; exact hcop, ?_, ?_, ?_⟩
  · rw [hPa, ha]; exact Nat.le_mul_of_pos_left a hg
  · have : (q.natAbs : Int) = q := by omega
    rw [← this, hc]
    have := Nat.le_mul_of_pos_left c hg
    omega
  · unfold txtL
    rw [← hgg]
    have e1 : p / (g : Int) = P := by rw [hP]; exact Int.mul_ediv_cancel _ (by omega)
    have e2 : q / (g : Int) = (c : Int) := by rw [hQ]; exact Int.mul_ediv_cancel _ (by omega)
    rw [e1, e2]
end Go.Sheet
namespace Go.Proofs.YtlffgdmljioaoaaGreatDoor
open Go.RowKit Go.Mem Go.Sheet
set_option maxRecDepth 100000 in
set_option maxHeartbeats 1000000 in
theorem rof_any (w : World) (p q : Int) (hp : -1000000000000000 ≤ p ∧ p ≤ 1000000000000000) (hq : 1 ≤ q ∧ q ≤ 1000000000000000) : Calls Tryz.prog 51 #[.int .i64 p, .int .i64 q] w fun e w' => e = .returned (.string (tB (txtL p q))) ∧ Below w.heap.size w w' := by
  obtain ⟨g, P, Q, hg1, hgg, hP, hQ, hQ1, _, hPa, hQa, htx⟩ := low_terms p q hq.1
  have HTX := Lib.hid htx
  have hgb : (g : Int) ≤ 1000000000000000 := by
    have := Nat.gcd_le_right p.natAbs (show 0 < q.natAbs by omega)
    omega
  have HGC : Hid (∀ w, Calls Tryz.prog 108 #[.int .i64 (p.natAbs : Int), .int .i64 q] w fun e w' => e = .returned (.int .i64 (g : Int)) ∧ Below w.heap.size w w') := Lib.hid (fun w => by
    have h := rgcd_any w p.natAbs q.natAbs (by omega) (by omega)
    rw [← hgg, show ((q.natAbs : Nat) : Int) = q by omega] at h
    exact h)
  have hd1 : p.tdiv (g : Int) = P := by rw [hP]; exact Int.mul_tdiv_cancel _ (by omega)
  have hd2 : q.tdiv (g : Int) = Q := by rw [hQ]; exact Int.mul_tdiv_cancel _ (by omega)
  have hd3 : p / (g : Int) = P := by rw [hP]; exact Int.mul_ediv_cancel _ (by omega)
  have hd4 : q / (g : Int) = Q := by rw [hQ]; exact Int.mul_ediv_cancel _ (by omega)
  have HPN : Hid (0 ≤ p ↔ 0 ≤ P) := Lib.hid (by
    constructor
    · intro h; rw [← hd3]; exact Int.ediv_nonneg h (by omega)
    · intro h; rw [hP]; exact Int.mul_nonneg h (by omega))
  have HDP := Lib.hid (fun w => rdecimal_any w P.natAbs 1 (by omega) (by omega))
  have HDQ := Lib.hid (fun w => rdecimal_any w Q.natAbs 1 (by omega) (by omega))
  have hPb : -1000000000000000 ≤ P ∧ P ≤ 1000000000000000 := by omega
  have hQb : Q ≤ 1000000000000000 := by omega
  clear hgg hP hQ htx hPa hQa
  have t1 : decide (p < -4000000000000000000) = false := decide_eq_false (by omega)
  have t2 : decide (4000000000000000000 < p) = false := decide_eq_false (by omega)
  have t3 : decide (q < -4000000000000000000) = false := decide_eq_false (by omega)
  have t4 : decide (4000000000000000000 < q) = false := decide_eq_false (by omega)
  have t5 : decide (q < 0) = false := decide_eq_false (by omega)
  go_enter Tryz.func51, Tryz.ntmps51
  rcases Int.lt_or_le p 0 with hneg | hpos
  · have hPs : P < 0 := by have h := HPN.out; omega
    have HGC2 : Hid (∀ w, Calls Tryz.prog 108 #[.int .i64 (-p), .int .i64 q] w fun e w' => e = .returned (.int .i64 (g : Int)) ∧ Below w.heap.size w w') := Lib.hid (fun w => by
      have h := HGC.out w
      rw [show ((p.natAbs : Nat) : Int) = (-p) by omega] at h
      exact h)
    have HDP2 : Hid (∀ w, Calls Tryz.prog 109 #[.int .i64 (-P), .int .i64 1] w fun e w' => e = .returned (.string (tB (decW 1 P.natAbs))) ∧ w = w') := Lib.hid (fun w => by
      have h := HDP.out w
      rw [show ((P.natAbs : Nat) : Int) = -P by omega] at h
      exact h)
    have HIT : Hid (Lib.itoa P = 45 :: decW 1 P.natAbs) := Lib.hid (by
      rw [decW_dec]
      have h := Lib.itoa_neg P.natAbs (by omega)
      rw [show -((P.natAbs : Nat) : Int) = P by omega] at h
      exact h)
    have hsz : (tB (decW 1 P.natAbs)).size ≤ 1000000000000001 := by
      rw [tB_size]
      have := decW_len 1 P.natAbs
      omega
    have HAP : Hid (tB [45] ++ tB (decW 1 P.natAbs) = tB (Lib.itoa P)) := Lib.hid (by rw [HIT.out, tB_app]; rfl)
    have t6 : decide (P < 0) = true := decide_eq_true hPs
    clear HGC HDP HIT HPN
    generalize tB (decW 1 P.natAbs) = sP at *
    go_wp2_with (go_at_call 108; refine (HGC2.out _).mono ?_; rintro e w2 ⟨rfl, hb⟩; have HB := Lib.hid hb; clear hb)
    refine wp_cls 7 (fun w' => Below w.heap.size w w') (by kernel_rfl) (by kernel_rfl) HB.out.drew ?_
    simp only [List.take_succ_cons, List.take_zero, List.drop_succ_cons, List.drop_zero]
    generalize hK : (fun w' => Below w.heap.size w w') = K
    intro hne
    have kw : ∀ y : Wd K, Below w.heap.size w y.w := by subst hK; exact fun y => y.h
    clear hK
    repeat (go_big_quiet_step ((fail)))
    refine wpQuiet_nil ?_
    intro y
    have HBY := Lib.hid (kw y)
    clear kw hne HB HGC2
    generalize y.w = wy at *
    rcases Int.lt_or_le 1 Q with hQ2 | hQ2
    · have HDQ2 : Hid (∀ w, Calls Tryz.prog 109 #[.int .i64 Q, .int .i64 1] w fun e w' => e = .returned (.string (tB (decW 1 Q.natAbs))) ∧ w = w') := Lib.hid (fun w => by
        have h := HDQ.out w
        rw [show ((Q.natAbs : Nat) : Int) = Q by omega] at h
        exact h)
      have HFI : Hid (tB (Lib.itoa P) ++ tB [47] ++ tB (decW 1 Q.natAbs) = tB (txtL p q)) := Lib.hid (by
        rw [HTX.out, if_neg (by omega), tB_app, tB_app, decW_dec]
        have h := Lib.itoa_nonneg Q.natAbs
        rw [show ((Q.natAbs : Nat) : Int) = Q by omega] at h
        rw [h]; simp)
      have hszq : (tB (decW 1 Q.natAbs)).size ≤ 1000000000000001 := by
        rw [tB_size]
        have := decW_len 1 Q.natAbs
        omega
      have t7 : decide (1 < Q) = true := decide_eq_true hQ2
      clear HDQ HTX
      generalize tB (decW 1 Q.natAbs) = sQ at *
      rw [← HAP.out] at HFI
      go_wp2_with fail
      refine (HDP2.out _).mono ?_
      rintro e w' ⟨rfl, rfl⟩
      go_wp2_with fail
      refine (HDQ2.out _).mono ?_
      rintro e w' ⟨rfl, rfl⟩
      go_wp2_with fail
      go_ret
      refine ⟨?_, HBY.out⟩
      rw [← HFI.out]
      rfl
    · obtain rfl : Q = 1 := by omega
      have HFI : Hid (tB (Lib.itoa P) = tB (txtL p q)) := Lib.hid (by rw [HTX.out, if_pos rfl, List.append_nil])
      rw [← HAP.out] at HFI
      clear HDQ HTX
      go_wp2_with (go_at_call 109; refine (HDP2.out _).mono ?_; rintro e w' ⟨rfl, rfl⟩)
      go_ret
      refine ⟨?_, HBY.out⟩
      rw [← HFI.out]
      rfl
  · have hPs : 0 ≤ P := by have h := HPN.out; omega
    have HGC2 : Hid (∀ w, Calls Tryz.prog 108 #[.int .i64 p, .int .i64 q] w fun e w' => e = .returned (.int .i64 (g : Int)) ∧ Below w.heap.size w w') := Lib.hid (fun w => by
      have h := HGC.out w
      rw [show ((p.natAbs : Nat) : Int) = p by omega] at h
      exact h)
    have HDP2 : Hid (∀ w, Calls Tryz.prog 109 #[.int .i64 P, .int .i64 1] w fun e w' => e = .returned (.string (tB (decW 1 P.natAbs))) ∧ w = w') := Lib.hid (fun w => by
      have h := HDP.out w
      rw [show ((P.natAbs : Nat) : Int) = P by omega] at h
      exact h)
    have HIT : Hid (Lib.itoa P = decW 1 P.natAbs) := Lib.hid (by
      rw [decW_dec]
      have h := Lib.itoa_nonneg P.natAbs
      rw [show ((P.natAbs : Nat) : Int) = P by omega] at h
      exact h)
    have hsz : (tB (decW 1 P.natAbs)).size ≤ 1000000000000001 := by
      rw [tB_size]
      have := decW_len 1 P.natAbs
      omega
    have HAP : Hid (tB [] ++ tB (decW 1 P.natAbs) = tB (Lib.itoa P)) := Lib.hid (by rw [HIT.out, tB_app]; rfl)
    have t6 : decide (P < 0) = false := decide_eq_false (by omega)
    clear HGC HDP HIT HPN
    generalize tB (decW 1 P.natAbs) = sP at *
    go_wp2_with (go_at_call 108; refine (HGC2.out _).mono ?_; rintro e w2 ⟨rfl, hb⟩; have HB := Lib.hid hb; clear hb)
    refine wp_cls 7 (fun w' => Below w.heap.size w w') (by kernel_rfl) (by kernel_rfl) HB.out.drew ?_
    simp only [List.take_succ_cons, List.take_zero, List.drop_succ_cons, List.drop_zero]
    generalize hK : (fun w' => Below w.heap.size w w') = K
    intro hne
    have kw : ∀ y : Wd K, Below w.heap.size w y.w := by subst hK; exact fun y => y.h
    clear hK
    repeat (go_big_quiet_step ((fail)))
    refine wpQuiet_nil ?_
    intro y
    have HBY := Lib.hid (kw y)
    clear kw hne HB HGC2
    generalize y.w = wy at *
    rcases Int.lt_or_le 1 Q with hQ2 | hQ2
    · have HDQ2 : Hid (∀ w, Calls Tryz.prog 109 #[.int .i64 Q, .int .i64 1] w fun e w' => e = .returned (.string (tB (decW 1 Q.natAbs))) ∧ w = w') := Lib.hid (fun w => by
        have h := HDQ.out w
        rw [show ((Q.natAbs : Nat) : Int) = Q by omega] at h
        exact h)
      have HFI : Hid (tB (Lib.itoa P) ++ tB [47] ++ tB (decW 1 Q.natAbs) = tB (txtL p q)) := Lib.hid (by
        rw [HTX.out, if_neg (by omega), tB_app, tB_app, decW_dec]
        have h := Lib.itoa_nonneg Q.natAbs
        rw [show ((Q.natAbs : Nat) : Int) = Q by omega] at h
        rw [h]; simp)
      have hszq : (tB (decW 1 Q.natAbs)).size ≤ 1000000000000001 := by
        rw [tB_size]
        have := decW_len 1 Q.natAbs
        omega
      have t7 : decide (1 < Q) = true := decide_eq_true hQ2
      clear HDQ HTX
      generalize tB (decW 1 Q.natAbs) = sQ at *
      rw [← HAP.out] at HFI
      go_wp2_with fail
      refine (HDP2.out _).mono ?_
      rintro e w' ⟨rfl, rfl⟩
      go_wp2_with fail
      refine (HDQ2.out _).mono ?_
      rintro e w' ⟨rfl, rfl⟩
      go_wp2_with fail
      go_ret
      refine ⟨?_, HBY.out⟩
      rw [← HFI.out]
      rfl
    · obtain rfl : Q = 1 := by omega
      have HFI : Hid (tB (Lib.itoa P) = tB (txtL p q)) := Lib.hid (by rw [HTX.out, if_pos rfl, List.append_nil])
      rw [← HAP.out] at HFI
      clear HDQ HTX
      go_wp2_with (go_at_call 109; refine (HDP2.out _).mono ?_; rintro e w' ⟨rfl, rfl⟩)
      go_ret
      refine ⟨?_, HBY.out⟩
      rw [← HFI.out]
      rfl
end Go.Proofs.YtlffgdmljioaoaaGreatDoor
/- Walks: CheckSlots. -/
namespace Go.Proofs.YtlffgdmljioaoaaGreatDoor
open Go.RowKit Go.Mem Go.Sheet
set_option maxRecDepth 100000 in
set_option maxHeartbeats 1000000 in
theorem checkSlots1_any (W : World) (l : List Slot) (n i g : Nat) (s : Slot) (v : Value) (hs : l[i]? = some s) (hv : W.cell? ⟨g, 0, none⟩ = some v) (h : Rd W (fun _ => True) 3 v n (l.flatMap Slot.cells)) :
    Calls Tryz.prog 121 #[.int .i64 i, s.val, .pointer (some ⟨g, 0, none⟩)] W fun e w' => e = .returned (.int .i64 (slotE l i s)) ∧ Below W.heap.size W w' := by
  have HS := Lib.hid hs
  have HL := Lib.hid (h.count (f := Slot.cells) (size := 3) (fun _ => rfl) (by decide))
  have hin : i < n := by rw [HL.out]; exact (List.getElem?_eq_some_iff.1 hs).1
  have hgW : g < W.heap.size := World.block_lt_of_cell? W _ hv
  have hn := h.le
  clear hs
  obtain ⟨A, c, rfl, _, _, h⟩ := h.open_
  obtain ⟨E, hE⟩ : ∃ E, E = fst [outE s.m 0 10000, outE s.h 1 36, outE s.p 1 8] := ⟨_, rfl⟩
  have HE := Lib.hid hE
  clear hE
  have hb0 : Below W.heap.size W (((W.alloc (.cells #[.int .i64 s.m, .int .i64 s.h, .int .i64 s.p] 70)).alloc (.cells #[.int .i64 (outE s.m 0 10000), .int .i64 (outE s.h 1 36), .int .i64 (outE s.p 1 8)] 28)).drew) :=
    (((Below.refl _ _).alloc (Nat.le_refl _) _).alloc (by simp) _).drew
  go_enter Tryz.func121, Tryz.ntmps121
  go_wp2_with fail
  go_region_held3 (fun w' => w'.cell? ⟨W.heap.size, 0, none⟩ = some (.int .i64 s.m) ∧ w'.cell? ⟨W.heap.size, 1, none⟩ = some (.int .i64 s.h) ∧ w'.cell? ⟨W.heap.size, 2, none⟩ = some (.int .i64 s.p)) (first | (refine ⟨?_, ?_, ?_⟩ <;> simp)) (first | (go_at_call 56; refine (outside_any _ _ _ _).mono ?_; rintro e w' ⟨rfl, rfl⟩) | (go_at_call 52; refine (first3 _ _ (outE s.m 0 10000) (outE s.h 1 36) (outE s.p 1 8) (by simp) (by simp) (by simp) (by simp)).mono ?_; rw [← HE.out]; rintro e w' ⟨rfl, rfl⟩))
  by_cases h0 : (E != 0) = true
  · go_wp2
    go_ret
    exact ⟨ret_i64 (by rw [slotE, ← HE.out, if_pos (by simpa using h0)]), hb0⟩
  · have h0' : (E != 0) = false := by simpa using h0
    have hE0 : ¬ E ≠ 0 := by simpa using h0
    clear h0
    by_cases hi : ((i : Int) == 0) = true
    · go_wp2
      go_ret
      exact ⟨ret_i64 (by rw [slotE, ← HE.out, if_neg hE0, if_pos (by simp at hi; omega)]; simp at hE0; exact hE0), hb0⟩
    · have hi' : ((i : Int) == 0) = false := by simpa using hi
      have hi0 : 0 < i := by simp at hi; omega
      clear hi
      obtain ⟨j, rfl⟩ : ∃ j, i = j + 1 := ⟨i - 1, by omega⟩
      obtain ⟨b, o, x, rfl, hx, c0, c1, c2⟩ := h.elem3 (k := j) (fun s : Slot => .int .i64 s.m) (fun s : Slot => .int .i64 s.h) (fun s : Slot => .int .i64 s.p) (fun _ => rfl) (by omega)
      have hbW : b < W.heap.size := World.block_lt_of_cell? W _ c0
      have HX := Lib.hid hx
      clear hx h
      generalize ((W.alloc (.cells #[.int .i64 s.m, .int .i64 s.h, .int .i64 s.p] 70)).alloc (.cells #[.int .i64 (outE s.m 0 10000), .int .i64 (outE s.h 1 36), .int .i64 (outE s.p 1 8)] 28)).drew = w1 at *
      obtain ⟨d0, d1, d2⟩ := ‹_ ∧ _ ∧ _›
      have hv1 := (hb0.cell (p := ⟨g, 0, none⟩) hgW).trans hv
      have x0 := (hb0.cell (p := ⟨b, o + j * 3, none⟩) hbW).trans c0
      have x1 := (hb0.cell (p := ⟨b, o + j * 3 + 1, none⟩) hbW).trans c1
      have x2 := (hb0.cell (p := ⟨b, o + j * 3 + 2, none⟩) hbW).trans c2
      have hsz : W.heap.size < w1.heap.size := World.block_lt_of_cell? w1 ⟨W.heap.size, 0, none⟩ d0
      clear c0 c1 c2 hv
      have fin : Hid (slotE l (j + 1) s = whenE (decide (s.m < x.m) || (s.m == x.m && decide (s.h ≤ x.h))) 11) := by
        show slotE l (j + 1) s = _
        rw [slotE, ← HE.out, if_neg hE0, if_neg (by omega), Nat.add_sub_cancel, HX.out]
      have hb2 : Below W.heap.size W (w1.alloc (.cells #[.int .i64 x.m, .int .i64 x.h, .int .i64 x.p] 70)) := hb0.alloc (Nat.le_of_lt hsz) _
      clear hE0 HE HX HS
      by_cases hm : s.m < x.m
      · go_wp2_with (go_at_call 53; refine (when_any _ _ _).mono ?_; rintro e w' ⟨rfl, rfl⟩)
        go_ret
        exact ⟨ret_i64 (by rw [fin.out]; simp [hm]), hb2⟩
      · have hm1 : decide (s.m < x.m) = false := by simpa using hm
        by_cases he : s.m = x.m
        · have he1 : (s.m == x.m) = true := by simpa using he
          have HE := Lib.hid he
          clear he hm
          go_wp2_with (go_at_call 53; refine (when_any _ _ _).mono ?_; rintro e w' ⟨rfl, rfl⟩)
          go_ret
          exact ⟨ret_i64 (by rw [fin.out]; simp [hm1, he1]), hb2⟩
        · have he1 : (s.m == x.m) = false := by simpa using he
          clear he hm
          go_wp2_with (go_at_call 53; refine (when_any _ _ _).mono ?_; rintro e w' ⟨rfl, rfl⟩)
          go_ret
          exact ⟨ret_i64 (by rw [fin.out]; simp [hm1, he1]), hb2⟩
theorem checkSlots_each (W : World) (l : List Slot) (n : Nat) (A : Option Addr) (c : Nat) (h : Rd W (· < W.heap.size) 3 (.slice A n c) n (l.flatMap Slot.cells)) :
    Calls Tryz.prog 120 #[.slice A n c, .func (.func 121) #[] #[.pointer (some ⟨W.heap.size, 0, none⟩)]] (W.alloc (.cells #[.slice A n c] 58))
      fun e w' => e = .returned (.int .i64 (eachF (slotE l) 0 l)) ∧ Below W.heap.size W w' := by
  have hb := (Below.refl W.heap.size W).alloc (Nat.le_refl _) (.cells #[.slice A n c] 58)
  have h1 := h.later hb
  have hcell : (W.alloc (.cells #[.slice A n c] 58)).cell? ⟨W.heap.size, 0, none⟩ = some (.slice A n c) := by simp
  generalize W.alloc (.cells #[.slice A n c] 58) = W1 at *
  have hC : ∀ k x w, l[k]? = some x → Below W1.heap.size W1 w → Calls Tryz.prog 121 (#[.int .i64 k, x.val] ++ #[.pointer (some ⟨W.heap.size, 0, none⟩)]) w fun e w' => e = .returned (.int .i64 (slotE l k x)) ∧ Below w.heap.size w w' := by
    intro k x w hx hbw
    have hg : W.heap.size < W1.heap.size := World.block_lt_of_cell? W1 ⟨W.heap.size, 0, none⟩ hcell
    exact checkSlots1_any w l n k W.heap.size x _ hx ((hbw.cell (p := ⟨W.heap.size, 0, none⟩) hg).trans hcell) ((h1.below hbw).mono fun _ _ _ => trivial)
  exact (each_Slot_pure W1 _ n l 121 (enters Tryz.func121 (by kernel_rfl) rfl) _ (slotE l) h1 hC).mono fun _ _ ⟨he, hb'⟩ => ⟨he, hb.trans (hb'.mono hb.size)⟩
set_option maxRecDepth 100000 in
set_option maxHeartbeats 400000 in
theorem checkSlots_any (W : World) (l : List Slot) (n : Nat) (v : Value) (h : Rd W (· < W.heap.size) 3 v n (l.flatMap Slot.cells)) :
    Calls Tryz.prog 76 #[v] W fun e w' => e = .returned (.int .i64 (checkSlots l)) ∧ Below W.heap.size W w' := by
  have HL := Lib.hid (h.count (f := Slot.cells) (size := 3) (fun _ => rfl) (by decide))
  have hn := h.le
  obtain ⟨A, c, rfl, _, _, h⟩ := h.open_
  have hb := (Below.refl W.heap.size W).alloc (Nat.le_refl _) (.cells #[.slice A n c] 58)
  have HC := Lib.hid (checkSlots_each W l n A c h)
  clear h
  go_enter Tryz.func76, Tryz.ntmps76
  by_cases h24 : 24 < n
  · go_wp2
    go_ret
    exact ⟨ret_i64 (by rw [checkSlots, ← HL.out, if_pos h24]), hb⟩
  · go_wp2_with (go_at_call 120; refine HC.out.mono ?_; rintro e w' ⟨rfl, hb'⟩)
    go_ret
    exact ⟨ret_i64 (by rw [checkSlots, ← HL.out, if_neg (by omega)]), hb'⟩
end Go.Proofs.YtlffgdmljioaoaaGreatDoor
/- Walks: CheckRequests. -/
namespace Go.Proofs.YtlffgdmljioaoaaGreatDoor
open Go.RowKit Go.Mem Go.Sheet
set_option maxRecDepth 100000 in
set_option maxHeartbeats 1000000 in
theorem checkRequests12_0 (W : World) (nl g g2 cl : Nat) (Al : Option Addr) (ws : List Wish) (x : Wish)
    (hv : W.cell? ⟨g, 0, none⟩ = some (.slice Al nl cl)) :
    Calls Tryz.prog 129 #[.int .i64 0, x.val, .pointer (some ⟨g, 0, none⟩), .pointer (some ⟨g2, 0, none⟩)] W fun e w' => e = .returned (.int .i64 (wishE nl ws 0 x)) ∧ Below W.heap.size W w' := by
  have hgW : g < W.heap.size := World.block_lt_of_cell? W _ hv
  have HP : Hid (prevWish ws 0 x = false) := rfl
  go_enter Tryz.func129, Tryz.ntmps129
  go_wp2_with fail
  refine wp_cls 29 (fun w' => Below W.heap.size W w' ∧ w'.cell? ⟨W.heap.size, 0, none⟩ = some (.int .i64 x.s) ∧ w'.cell? ⟨W.heap.size, 1, none⟩ = some (.int .i64 x.w) ∧ w'.cell? ⟨g, 0, none⟩ = some (.slice Al nl cl)) (by kernel_rfl) (by kernel_rfl)
    ⟨((Below.refl _ _).alloc (Nat.le_refl _) _).drew, by simp, by simp, by simp (disch := (simp; omega)) [World.cell?_alloc_lt, hv]⟩ ?_
  simp only [List.take_succ_cons, List.take_zero, List.drop_succ_cons, List.drop_zero]
  generalize hK : (fun w' => Below W.heap.size W w' ∧ w'.cell? ⟨W.heap.size, 0, none⟩ = some (.int .i64 x.s) ∧ w'.cell? ⟨W.heap.size, 1, none⟩ = some (.int .i64 x.w) ∧ w'.cell? ⟨g, 0, none⟩ = some (.slice Al nl cl)) = K
  intro hne
  have kb : ∀ y : Wd K, Below W.heap.size W y.w := by subst hK; exact fun y => y.h.1
  have k0 : ∀ y : Wd K, y.w.cell? ⟨W.heap.size, 0, none⟩ = some (.int .i64 x.s) := by subst hK; exact fun y => y.h.2.1
  have k1 : ∀ y : Wd K, y.w.cell? ⟨W.heap.size, 1, none⟩ = some (.int .i64 x.w) := by subst hK; exact fun y => y.h.2.2.1
  have k2 : ∀ y : Wd K, y.w.cell? ⟨g, 0, none⟩ = some (.slice Al nl cl) := by subst hK; exact fun y => y.h.2.2.2
  clear hK hv
  have h1c : x.s < 0 ∨ ¬ x.s < 0 := by omega
  rcases h1c with h1 | h1
  all_goals
    repeat (go_big_quiet_step ((first | (go_at_call 53; exact cls_same (when_any _ _ _)) | (go_at_call 56; exact cls_same (outside_any _ _ _ _)))))
    refine wpQuiet_nil ?_
    intro y
    have hb := kb y
    clear k0 k1 k2 kb
  · go_wp2_with (go_at_call 52; refine (first3 _ _ (whenE true 10) (whenE false 11) (outE x.w 1 10000) (by simp) (by simp) (by simp) (by simp)).mono ?_; rintro e w' ⟨rfl, rfl⟩)
    go_ret
    exact ⟨ret_i64 (by rw [wishE, HP.out]; simp [h1]), hb.alloc hb.size _⟩
  · go_wp2_with (go_at_call 52; refine (first3 _ _ (whenE (decide ((nl : Int) ≤ x.s)) 10) (whenE false 11) (outE x.w 1 10000) (by simp) (by simp) (by simp) (by simp)).mono ?_; rintro e w' ⟨rfl, rfl⟩)
    go_ret
    exact ⟨ret_i64 (by have h1' : decide (x.s < 0) = false := by simp; omega
                       rw [wishE, HP.out, h1']; simp), hb.alloc hb.size _⟩
set_option maxRecDepth 100000 in
set_option maxHeartbeats 1000000 in
theorem checkRequests12_s (W : World) (nl j g g2 wn wc cl b o : Nat) (Al : Option Addr) (ws : List Wish) (x y : Wish) (hP : prevWish ws (j + 1) x = decide (x.s ≤ y.s)) (hj : j + 1 < wn) (hn : wn ≤ 9223372036854775807)
    (hv : W.cell? ⟨g, 0, none⟩ = some (.slice Al nl cl)) (hv2 : W.cell? ⟨g2, 2, none⟩ = some (.slice (some ⟨b, o, none⟩) wn wc)) (c0 : W.cell? ⟨b, o + j * 2, none⟩ = some (.int .i64 y.s)) :
    Calls Tryz.prog 129 #[.int .i64 (j + 1 : Nat), x.val, .pointer (some ⟨g, 0, none⟩), .pointer (some ⟨g2, 0, none⟩)] W fun e w' => e = .returned (.int .i64 (wishE nl ws (j + 1) x)) ∧ Below W.heap.size W w' := by
  have hgW : g < W.heap.size := World.block_lt_of_cell? W _ hv
  have hgW2 : g2 < W.heap.size := World.block_lt_of_cell? W _ hv2
  have hbW : b < W.heap.size := World.block_lt_of_cell? W _ c0
  have HP := Lib.hid hP
  clear hP
  go_enter Tryz.func129, Tryz.ntmps129
  go_wp2_with fail
  refine wp_cls 29 (fun w' => Below W.heap.size W w' ∧ w'.cell? ⟨W.heap.size, 0, none⟩ = some (.int .i64 x.s) ∧ w'.cell? ⟨W.heap.size, 1, none⟩ = some (.int .i64 x.w)) (by kernel_rfl) (by kernel_rfl)
    ⟨((Below.refl _ _).alloc (Nat.le_refl _) _).drew, by simp, by simp⟩ ?_
  simp only [List.take_succ_cons, List.take_zero, List.drop_succ_cons, List.drop_zero]
  generalize hK : (fun w' => Below W.heap.size W w' ∧ w'.cell? ⟨W.heap.size, 0, none⟩ = some (.int .i64 x.s) ∧ w'.cell? ⟨W.heap.size, 1, none⟩ = some (.int .i64 x.w)) = K
  intro hne
  have kb : ∀ y : Wd K, Below W.heap.size W y.w := by subst hK; exact fun y => y.h.1
  have k0 : ∀ y : Wd K, y.w.cell? ⟨W.heap.size, 0, none⟩ = some (.int .i64 x.s) := by subst hK; exact fun y => y.h.2.1
  have k1 : ∀ y : Wd K, y.w.cell? ⟨W.heap.size, 1, none⟩ = some (.int .i64 x.w) := by subst hK; exact fun y => y.h.2.2
  have k2 : ∀ y : Wd K, y.w.cell? ⟨g, 0, none⟩ = some (.slice Al nl cl) := fun y => ((kb y).cell (p := ⟨g, 0, none⟩) hgW).trans hv
  have k3 : ∀ y : Wd K, y.w.cell? ⟨g2, 2, none⟩ = some (.slice (some ⟨b, o, none⟩) wn wc) := fun y => ((kb y).cell (p := ⟨g2, 2, none⟩) hgW2).trans hv2
  have k4 : ∀ z : Wd K, z.w.cell? ⟨b, o + j * 2, none⟩ = some (.int .i64 y.s) := fun z => ((kb z).cell (p := ⟨b, o + j * 2, none⟩) hbW).trans c0
  clear hK hv hv2 c0
  have h1c : x.s < 0 ∨ ¬ x.s < 0 := by omega
  rcases h1c with h1 | h1
  all_goals
    repeat (go_big_quiet_step ((first | (go_at_call 53; exact cls_same (when_any _ _ _)) | (go_at_call 56; exact cls_same (outside_any _ _ _ _)))))
    refine wpQuiet_nil ?_
    intro z
    have hb := kb z
    clear k0 k1 k2 k3 k4 kb
  · go_wp2_with (go_at_call 52; refine (first3 _ _ (whenE true 10) (whenE (decide (x.s ≤ y.s)) 11) (outE x.w 1 10000) (by simp) (by simp) (by simp) (by simp)).mono ?_; rintro e w' ⟨rfl, rfl⟩)
    go_ret
    exact ⟨ret_i64 (by rw [wishE, HP.out]; simp [h1]), hb.alloc hb.size _⟩
  · go_wp2_with (go_at_call 52; refine (first3 _ _ (whenE (decide ((nl : Int) ≤ x.s)) 10) (whenE (decide (x.s ≤ y.s)) 11) (outE x.w 1 10000) (by simp) (by simp) (by simp) (by simp)).mono ?_; rintro e w' ⟨rfl, rfl⟩)
    go_ret
    exact ⟨ret_i64 (by have h1' : decide (x.s < 0) = false := by simp; omega
                       rw [wishE, HP.out, h1']; simp), hb.alloc hb.size _⟩
theorem checkRequests12_any (W : World) (nl k g g2 wn wc cl : Nat) (Al wa : Option Addr) (ws : List Wish) (x : Wish) (hx : ws[k]? = some x)
    (hv : W.cell? ⟨g, 0, none⟩ = some (.slice Al nl cl)) (hv2 : W.cell? ⟨g2, 2, none⟩ = some (.slice wa wn wc)) (h : Rd W (fun _ => True) 2 (.slice wa wn wc) wn (ws.flatMap Wish.cells)) :
    Calls Tryz.prog 129 #[.int .i64 k, x.val, .pointer (some ⟨g, 0, none⟩), .pointer (some ⟨g2, 0, none⟩)] W fun e w' => e = .returned (.int .i64 (wishE nl ws k x)) ∧ Below W.heap.size W w' := by
  have hl := h.count (f := Wish.cells) (size := 2) (fun _ => rfl) (by decide)
  have hkn : k < wn := by rw [hl]; exact (List.getElem?_eq_some_iff.1 hx).1
  cases k with
  | zero => exact checkRequests12_0 W nl g g2 cl Al ws x hv
  | succ j =>
    obtain ⟨b, o, y, rfl, hy, c0, _⟩ := h.elem2 (k := j) (fun s : Wish => .int .i64 s.s) (fun s : Wish => .int .i64 s.w) (fun _ => rfl) (by omega)
    exact checkRequests12_s W nl j g g2 wn wc cl b o Al ws x y (by rw [prevWish, Nat.add_sub_cancel, hy]; simp) hkn h.le hv hv2 c0
end Go.Proofs.YtlffgdmljioaoaaGreatDoor
