/- TopDivotKnockout: the order of the players. -/
import Derived.Test.YtkkkfjinflepmaaGreatDoorK2
import Derived.Test.YtkkkfjinflepmaaGreatDoorB40
import Derived.Test.YtkkkfjinflepmaaGreatDoorK3
import Derived.Test.YtkkkfjinflepmaaGreatDoorB37
import Derived.WalkMore
set_option linter.unusedVariables false
set_option linter.unusedSimpArgs false
set_option linter.unusedSectionVars false
set_option linter.constructorNameAsVariable false
namespace Go.Proofs.YtkkkfjinflepmaaGreatDoor
open Go.RowKit Go.Mem Go.Sheet Go.Adj
/-- the players of the ranks 1 to t -/
def ordL (rr : Nat → Nat) (m t : Nat) : List Nat := (List.range t).flatMap fun r => memR rr (r + 1) m
theorem ordL_snoc (rr : Nat → Nat) (m t : Nat) : ordL rr m (t + 1) = ordL rr m t ++ memR rr (t + 1) m := by
  unfold ordL; rw [List.range_succ, List.flatMap_append]; simp
theorem ordL_mem {rr : Nat → Nat} {m i : Nat} : ∀ {t}, i ∈ ordL rr m t ↔ i < m ∧ 1 ≤ rr i ∧ rr i ≤ t := by
  intro t
  unfold ordL
  rw [List.mem_flatMap]
  constructor
  · rintro ⟨r, hr, hi⟩
    obtain ⟨h1, h2⟩ := memR_mem.1 hi
    have := List.mem_range.1 hr
    omega
  · rintro ⟨h1, h2, h3⟩
    exact ⟨rr i - 1, List.mem_range.2 (by omega), memR_mem.2 ⟨h1, by omega⟩⟩
theorem memR_nodup (rr : Nat → Nat) (r k : Nat) : (memR rr r k).Nodup := by
  unfold memR
  exact List.Nodup.sublist List.filter_sublist List.nodup_range
theorem ordL_nodup (rr : Nat → Nat) (m : Nat) : ∀ t, (ordL rr m t).Nodup
  | 0 => List.nodup_nil
  | t + 1 => by
    rw [ordL_snoc, List.nodup_append]
    refine ⟨ordL_nodup rr m t, memR_nodup _ _ _, fun a ha b hb e => ?_⟩
    subst e
    have h1 := (ordL_mem.1 ha).2.2
    have h2 := (memR_mem.1 hb).2
    omega
theorem nodup_len : ∀ (m : Nat) (l : List Nat), l.Nodup → (∀ i, i ∈ l ↔ i < m) → l.length = m
  | 0, l, _, h => by
    cases l with
    | nil => rfl
    | cons a l => exact absurd ((h a).1 (by simp)) (Nat.not_lt_zero _)
  | m + 1, l, hn, h => by
    have ih := nodup_len m (l.erase m) (hn.erase m) (fun i => by
      rw [hn.mem_erase_iff, h i]; omega)
    have h1 := List.length_erase_of_mem ((h m).2 (by omega))
    have h2 : 0 < l.length := List.length_pos_of_mem ((h m).2 (by omega))
    omega
theorem ordL_len {rr : Nat → Nat} {m : Nat} (h : ∀ i, i < m → 1 ≤ rr i ∧ rr i ≤ m) : (ordL rr m m).length = m :=
  nodup_len m _ (ordL_nodup rr m m) fun i => by
    rw [ordL_mem]
    exact ⟨fun e => e.1, fun e => ⟨e, h i e⟩⟩
theorem ordL_le (rr : Nat → Nat) (m : Nat) : ∀ t, (ordL rr m t).length ≤ t * m
  | 0 => by show 0 ≤ _; omega
  | t + 1 => by
    have h1 := ordL_le rr m t
    have h2 := memR_len rr (t + 1) m
    rw [ordL_snoc, List.length_append, Nat.add_mul]
    omega
def rrK (n : Nat) (ls : List (List Int)) (i : Nat) : Nat := rankF n (fLL ls) (lsAt (fLL ls) i)
theorem rrK_bd {n m : Nat} {ls : List (List Int)} (h : ls.length = m) (i : Nat) (hi : i < m) : 1 ≤ rrK n ls i ∧ rrK n ls i ≤ m := by
  unfold rrK rankF before
  refine ⟨by omega, ?_⟩
  have hl : (fLL ls).length = m := by unfold fLL; rw [List.length_map]; exact h
  have hmem := lsAt_mem (ls := fLL ls) (i := i) (by omega)
  have h2 : ((fLL ls).filter fun b => cbLt n b (lsAt (fLL ls) i)).length < (fLL ls).length := by
    rcases Nat.lt_or_ge ((fLL ls).filter fun b => cbLt n b (lsAt (fLL ls) i)).length (fLL ls).length with h | h
    · exact h
    · have h3 := List.length_filter_eq_length_iff.1 (Nat.le_antisymm (List.length_filter_le _ _) h) _ hmem
      unfold cbLt at h3
      rw [lexLt_self] at h3
      cases h3
  omega
set_option maxRecDepth 100000 in
set_option maxHeartbeats 4000000 in
theorem order_ok (W : World) (v : Value) (m n : Nat) (ls : List (List Int)) (hm : 1 ≤ m ∧ m ≤ 12) (hg : GoodLL ls n) (h : RdLL W (· < W.heap.size) v m ls) :
    Calls Tryz.prog 18 #[v] W fun e w' => ∃ v', e = .returned (.tuple #[v', .bool true]) ∧ St W w' [row 3 1 v' m (natV (ordL (rrK n ls) m m))] := by
  have HR := Lib.hid (formatRanks_ok W v m n ls ⟨hm.1, by omega⟩ hg h)
  have hlen : ls.length = m := by obtain ⟨_, _, h0, _⟩ := h; exact h0
  have HL := Lib.hid (ordL_len (rr := rrK n ls) (rrK_bd hlen))
  have HOL := Lib.hid (ordL_le (rrK n ls) m)
  have HML := Lib.hid (memR_len (rrK n ls))
  have HB := Lib.hid (rrK_bd (n := n) hlen)
  have hrl : gl (rkF n (fLL ls)) m = gl (fun i => (rrK n ls i : Int)) m := rfl
  rw [hrl] at HR
  obtain ⟨A, c, rfl⟩ := h.open_
  generalize rrK n ls = rr at *
  have hm0 : 1 ≤ m := hm.1
  have hm12 : m ≤ 12 := hm.2
  have z1 : ((m : Int) != (m : Int)) = false := by simp
  clear h hg hlen hrl hm
  go_enter Tryz.func18, Tryz.ntmps18
  go_wp2_with fail
  go_at_call 25
  refine HR.out.mono ?_
  rintro e w1 ⟨vr, rfl, S1⟩
  obtain ⟨Ar, cr, rfl, _, _, _⟩ := (S1.row_rd (i := 0) rfl).open_
  have S2 := S1.row_nil 3 1
  simp only [List.cons_append, List.nil_append] at S2
  have HS2 : Hid (St W w1 [row 3 1 (.slice Ar m cr) m (intsI (gl (fun i => (rr i : Int)) m)), row 3 1 (.slice none 0 0) (ordL rr m 0).length (natV (ordL rr m 0))]) := S2
  clear S1 S2 HR
  go_wp2_with fail
  go_loopw [7, 6] (fun i ov w' => ∃ t : Nat, t ≤ m ∧ i = .int .i64 ((t : Int) + 1) ∧ St W w' [row 3 1 (.slice Ar m cr) m (intsI (gl (fun i => (rr i : Int)) m)), row 3 1 ov (ordL rr m t).length (natV (ordL rr m t))]) (fun i _ _ => m + 1 - (intOf i).toNat)
  case atStart => exact ⟨0, Nat.zero_le _, rfl, HS2.out⟩
  case round =>
    obtain ⟨t, ht, rfl, S⟩ := hrel
    clear HS2
    by_cases htm : t < m
    · have t1 : decide ((t : Int) + 1 ≤ (m : Int)) = true := decide_eq_true (by omega)
      have HS3 : Hid (St W wr [row 3 1 (.slice Ar m cr) m (intsI (gl (fun i => (rr i : Int)) m)), row 3 1 u6 (ordL rr m t ++ memR rr (t + 1) 0).length (natV (ordL rr m t ++ memR rr (t + 1) 0))]) := by
        show St _ _ _
        rw [show memR rr (t + 1) 0 = [] from rfl, List.append_nil]; exact S
      clear S
      go_wp2_with fail
      go_loopw [31, 6] (fun i ov w' => ∃ k : Nat, k ≤ m ∧ i = .int .i64 k ∧ St W w' [row 3 1 (.slice Ar m cr) m (intsI (gl (fun i => (rr i : Int)) m)), row 3 1 ov (ordL rr m t ++ memR rr (t + 1) k).length (natV (ordL rr m t ++ memR rr (t + 1) k))]) (fun i _ _ => m - (intOf i).toNat)
      case atStart => exact ⟨0, Nat.zero_le _, rfl, HS3.out⟩
      case round =>
        obtain ⟨k, hk, rfl, S⟩ := hrel
        clear HS3
        by_cases hkm : k < m
        · obtain ⟨b, o, x, hA, hx, c0⟩ := Rd.int (q := .i64) (S.row_rd (i := 0) rfl) hkm
          rw [gl_at _ hkm] at hx
          cases hx
          subst hA
          have hms := memR_snoc rr (t + 1) k
          have hb := HB.out k hkm
          have hl1 : (ordL rr m t ++ memR rr (t + 1) k).length ≤ 400 := by
            have h1 := HOL.out t
            have h2 := HML.out (t + 1) k
            have h3 : t * m ≤ 12 * 12 := Nat.mul_le_mul (by omega) hm12
            rw [List.length_append]; omega
          by_cases he : rr k = t + 1
          · have q1 : ((rr k : Int) == (t : Int) + 1) = true := by rw [he]; simp
            rw [if_pos he] at hms
            have HNL : Hid (ordL rr m t ++ memR rr (t + 1) (k + 1) = (ordL rr m t ++ memR rr (t + 1) k) ++ [k]) := by show _ = _; rw [hms, List.append_assoc]
            generalize ordL rr m t ++ memR rr (t + 1) k = L0 at *
            have HS4 := Lib.hid (S.alloc (.cells #[.int .i64 (k : Int)] 3))
            clear S he hms
            generalize rr k = rk at *
            go_wp2_with (at_builtin; refine wpList_append_st eltI rfl _ _ rfl rfl HS4.out (k := 1) rfl rfl (rd_one (by simp)) (one_int _ _) (by omega) (by omega) ?_; intro v1' w8 S8 _; simp only [List.set_cons_zero, List.set_cons_succ] at S8; have HS8 := Lib.hid S8; clear S8)
            go_roundw
            case rel =>
              refine ⟨k + 1, by omega, by go_num, ?_⟩
              rw [HNL.out, natV_snoc, List.length_append]
              exact HS8.out
            case measure => simp [intOf]; omega
          · have q1 : ((rr k : Int) == (t : Int) + 1) = false := by
              rw [Bool.eq_false_iff]; intro e; have := eq_of_beq e; omega
            rw [if_neg he, List.append_nil] at hms
            have HMS := Lib.hid hms
            have HS4 := Lib.hid S
            clear S he hms
            generalize rr k = rk at *
            go_wp2_with fail
            go_roundw
            case rel => exact ⟨k + 1, by omega, by go_num, by rw [HMS.out]; exact HS4.out⟩
            case measure => simp [intOf]; omega
        · obtain rfl : m = k := by omega
          have HS4 := Lib.hid S
          clear S
          go_wp2_with fail
          go_roundw
          case rel => exact ⟨t + 1, by omega, by go_num, by rw [ordL_snoc]; exact HS4.out⟩
          case measure => simp [intOf]; omega
    · obtain rfl : m = t := by omega
      have t1 : decide ((m : Int) + 1 ≤ (m : Int)) = false := decide_eq_false (by omega)
      have hl := HL.out
      rw [hl] at S
      have z2 : ((m : Int) == (m : Int)) = true := by simp
      obtain ⟨Ao, co, rfl, _, _, _⟩ := (S.row_rd (i := 1) rfl).open_
      have HS4 := Lib.hid S
      clear S hl
      go_wp2_with fail
      go_ret2
      exact ⟨_, rfl, HS4.out.sub (L' := [_]) (.cons _ (List.Sublist.refl _))⟩
end Go.Proofs.YtkkkfjinflepmaaGreatDoor
/- Chapter 7: Meet. -/
namespace Go.Proofs.YtkkkfjinflepmaaGreatDoor
open Go.RowKit Go.Mem Go.Sheet Go.Adj
set_option maxRecDepth 100000 in
set_option maxHeartbeats 400000 in
theorem index_at (W : World) (F : Nat → Prop) (v : Value) (n j : Nat) (l : List Int) (x : Int) (h : Rd W F 1 v n (intsI l)) (hj : j < n) (hx : l[j]? = some x) (hmin : ∀ i, i < j → l[i]? ≠ some x) :
    Calls Tryz.prog 60 #[v, .int .i64 x] W fun e w' => e = .returned (.int .i64 j) ∧ W = w' := by
  have hn := h.le
  obtain ⟨A, c, rfl, _, _, h0⟩ := h.open_
  have H := Lib.hid h0
  have HX := Lib.hid hx
  have HM := Lib.hid hmin
  clear h h0 hx hmin
  go_enter Tryz.func60, Tryz.ntmps60
  go_wp2
  go_loop [8] (fun i => ∃ k : Nat, k ≤ j ∧ i = .int .i64 k) (fun i => n - (intOf i).toNat)
  case atStart => exact ⟨0, Nat.zero_le _, rfl⟩
  case round =>
    obtain ⟨k, hk, rfl⟩ := hrel
    obtain ⟨b, o, y, rfl, hy, c0⟩ := Rd.int (q := .i64) H.out (show k < n by omega)
    have t1 : decide ((k : Int) < (n : Int)) = true := decide_eq_true (by omega)
    have t1' : decide (k < n) = true := decide_eq_true (by omega)
    by_cases he : k = j
    · subst he
      rw [HX.out] at hy
      cases hy
      have q1 : (x == x) = true := by simp
      go_wp2
      go_ret
      exact ⟨rfl, rfl⟩
    · have hne : y ≠ x := fun e => HM.out k (by omega) (by rw [hy, e])
      have q1 : (x == y) = false := by rw [Bool.eq_false_iff]; intro e; exact hne (eq_of_beq e).symm
      clear hy hne
      go_wp2
      go_round
      case rel => exact ⟨k + 1, by omega, by go_num⟩
      case measure => simp [intOf]; omega
theorem slotOf5_some {s : Int} {a n : Nat} (h : 0 ≤ s ∧ s ≤ n) : slotOf5 s = some a ↔ s = (a : Int) + 1 := by
  unfold slotOf5
  split
  · rename_i e; subst e; simp; omega
  · simp only [Option.some.injEq]; omega
theorem bracket_idx {n R a : Nat} (hS : SlotOk n R) (hn : n ≤ 200) (ha : a < n) : (bracketL n)[idxK n a]? = some ((a : Int) + 1) ∧ ∀ i, i < idxK n a → (bracketL n)[i]? ≠ some ((a : Int) + 1) := by
  have h1 := (idxK_spec hS ha).1
  have hbd := (bracket_bd hn).2
  unfold slotF at h1
  rw [getD_some, slotL_eq, List.getElem?_map, Option.map_eq_some_iff] at h1
  obtain ⟨s, hs, e⟩ := h1
  rw [slotOf5_some (hbd s (List.mem_of_getElem? hs))] at e
  refine ⟨by rw [hs, e], fun i hi hx => ?_⟩
  have h2 : slotF n i = some a := by
    unfold slotF
    rw [getD_some, slotL_eq, List.getElem?_map, hx]
    show some (slotOf5 ((a : Int) + 1)) = _
    rw [(slotOf5_some (n := n) ⟨by omega, by omega⟩).2 rfl]
  have := hS.inj _ _ a h2 (idxK_spec hS ha).1
  omega
set_option maxRecDepth 100000 in
set_option maxHeartbeats 4000000 in
theorem meet_ok (W : World) (n R a b : Nat) (hS : SlotOk n R) (hn : 2 ≤ n ∧ n ≤ 12) (ha : a < n) (hb : b < n) (hab : a ≠ b) :
    Calls Tryz.prog 24 #[.int .i64 n, .int .i64 ((a : Int) + 1), .int .i64 ((b : Int) + 1)] W fun e w' => e = .returned (.tuple #[.int .i64 (meetK n a b : Nat), .int .i64 0]) ∧ Below W.heap.size W w' := by
  have HBR : Hid (∀ w, Calls Tryz.prog 50 #[.int .i64 n] w fun e w' => ∃ v', e = .returned v' ∧ St w w' [row 3 1 v' (bracketL n).length (intsI (bracketL n))]) := fun w => bracket_any w n (by omega)
  obtain ⟨x1, m1⟩ := bracket_idx hS (by omega) ha
  obtain ⟨x2, m2⟩ := bracket_idx hS (by omega) hb
  have HIA : Hid (∀ w (F : Nat → Prop) v, Rd w F 1 v (bracketL n).length (intsI (bracketL n)) → Calls Tryz.prog 60 #[v, .int .i64 ((a : Int) + 1)] w fun e w' => e = .returned (.int .i64 (idxK n a : Nat)) ∧ w = w') := fun w F v h =>
    index_at w F v _ _ _ _ h (List.getElem?_eq_some_iff.1 x1).1 x1 m1
  have HIB : Hid (∀ w (F : Nat → Prop) v, Rd w F 1 v (bracketL n).length (intsI (bracketL n)) → Calls Tryz.prog 60 #[v, .int .i64 ((b : Int) + 1)] w fun e w' => e = .returned (.int .i64 (idxK n b : Nat)) ∧ w = w') := fun w F v h =>
    index_at w F v _ _ _ _ h (List.getElem?_eq_some_iff.1 x2).1 x2 m2
  have h9 : 2 ^ R ≤ 2 ^ 9 := Nat.pow_le_pow_right (by decide) (by have := hS.rr; omega)
  have hi1 := (idxK_spec hS ha).2
  have hi2 := (idxK_spec hS hb).2
  have HME : Hid (meetGo 9 (idxK n a) (idxK n b) = meetK n a b) := rfl
  generalize meetK n a b = mt at *
  generalize hia : idxK n a = ia at *
  generalize hib : idxK n b = ib at *
  have hi1 : ia < 2 ^ 9 := by omega
  have hi2 : ib < 2 ^ 9 := by omega
  clear x1 m1 x2 m2 hS h9 hia hib
  have HI1 := Lib.hid hi1
  have HI2 := Lib.hid hi2
  clear hi1 hi2
  generalize bracketL n = BL at *
  obtain ⟨xa, hxa⟩ : ∃ x : Int, x = (a : Int) + 1 := ⟨_, rfl⟩
  obtain ⟨xb, hxb⟩ : ∃ x : Int, x = (b : Int) + 1 := ⟨_, rfl⟩
  rw [← hxa] at HIA ⊢
  rw [← hxb] at HIB ⊢
  obtain ⟨zn, hzn⟩ : ∃ z : Int, z = (n : Int) := ⟨_, rfl⟩
  rw [← hzn] at HBR ⊢
  have hw1 : (1 : Int) ≤ zn ∧ zn ≤ 200 := by omega
  have hw2 : xa ≤ zn ∧ xb ≤ zn ∧ 1 ≤ xa ∧ 1 ≤ xb ∧ xa ≠ xb := by omega
  obtain ⟨mn, hmn⟩ : ∃ z : Int, z = min xa xb := ⟨_, rfl⟩
  obtain ⟨mx, hmx⟩ : ∃ z : Int, z = max xa xb := ⟨_, rfl⟩
  have t1 : decide (mn < 1) = false := decide_eq_false (by omega)
  have t2 : decide (zn < mx) = false := decide_eq_false (by omega)
  have t3 : (xa == xb) = false := by rw [Bool.eq_false_iff]; intro e; exact hw2.2.2.2.2 (eq_of_beq e)
  have hmn2 : (if xb < xa then xb else xa) = mn := by rw [hmn]; split <;> omega
  have hmx2 : (if xa < xb then xb else xa) = mx := by rw [hmx]; split <;> omega
  clear hxa hxb hzn hmn hmx hab ha hb hn hw2
  go_enter Tryz.func24, Tryz.ntmps24
  go_wp2_with fail
  go_step3
  go_wp2_with (first
    | (go_at_call 59; refine (eventWithin_ok _ _ _ hw1 _).mono ?_; rintro e w' ⟨rfl, rfl⟩)
    | (go_at_call 52; refine (eventNo _ _).mono ?_; rintro e w' ⟨rfl, rfl⟩)
    | (go_at_call 37; refine (eventOk3 _ _ (by simp) (by simp) (by simp) (by simp)).mono ?_; rintro e w' ⟨rfl, rfl⟩))
  have hb1 := (Below.refl W.heap.size W).alloc (Nat.le_refl _) (.cells #[.int .i64 0, .int .i64 0, .int .i64 0] 48)
  have HB1 := Lib.hid hb1
  clear hb1
  generalize W.alloc (.cells #[.int .i64 0, .int .i64 0, .int .i64 0] 48) = w4 at *
  go_at_call 50
  refine (HBR.out _).mono ?_
  rintro e w5 ⟨vb, rfl, S5⟩
  have HS5 := Lib.hid ((St.of_below HB1.out).call S5)
  have HRD := Lib.hid (S5.row_rd (i := 0) rfl)
  obtain ⟨Ab, cb, rfl, _, _, _⟩ := HRD.out.open_
  clear S5 HBR
  go_wp2_with fail
  go_at_call 60
  refine (HIA.out _ _ _ HRD.out).mono ?_
  rintro e w' ⟨rfl, rfl⟩
  go_wp2_with fail
  go_at_call 60
  refine (HIB.out _ _ _ HRD.out).mono ?_
  rintro e w' ⟨rfl, rfl⟩
  go_wp2_with fail
  go_step3
  go_wp2_with fail
  go_loopw [10, 11, 12] (fun i k r w' => ∃ f i0 k0 t : Nat, f ≤ 9 ∧ Hid (i0 < 2 ^ f) ∧ Hid (k0 < 2 ^ f) ∧ i = .int .i64 i0 ∧ k = .int .i64 k0 ∧ r = .int .i64 t ∧ w' = w5 ∧ t + f ≤ 9 ∧ Hid (t + meetGo f i0 k0 = mt)) (fun i k _ _ => (intOf i).toNat + (intOf k).toNat)
  case atStart => exact ⟨9, ia, ib, 0, Nat.le_refl _, HI1, HI2, rfl, rfl, rfl, rfl, by omega, by show 0 + _ = _; rw [HME.out]; omega⟩
  case round =>
    obtain ⟨f, i0, k0, t, hf, hi, hk, rfl, rfl, rfl, rfl, htf, hme⟩ := hrel
    have h9 : 2 ^ f ≤ 2 ^ 9 := Nat.pow_le_pow_right (by decide) hf
    have hi9 := hi.out
    have hk9 := hk.out
    have hi9 : i0 < 512 := by omega
    have hk9 : k0 < 512 := by omega
    clear h9
    by_cases he : i0 = k0
    · have q1 : ((i0 : Int) == (k0 : Int)) = true := by simp [he]
      have q1' : (i0 == k0) = true := by simp [he]
      have HMT : Hid (t = mt) := by
        have h1 := hme.out
        cases f with
        | zero => exact h1
        | succ f => unfold meetGo at h1; rw [if_pos he] at h1; exact h1
      clear he
      go_wp2_with fail
      try rw [Exit.noGoto_ret]
      go_ret2
      exact ⟨by rw [HMT.out]; rfl, HS5.out.bel⟩
    · have q1 : ((i0 : Int) == (k0 : Int)) = false := by simp; omega
      have q1' : (i0 == k0) = false := by simp [he]
      cases f with
      | zero =>
        have h1 := hi.out
        have h2 := hk.out
        rw [Nat.pow_zero] at h1 h2
        omega
      | succ f =>
        have h1 := hme.out
        unfold meetGo at h1
        rw [if_neg he] at h1
        have HM1 : Hid (t + 1 + meetGo f (i0 / 2) (k0 / 2) = mt) := by show _ = _; omega
        have hpi := hi.out
        have hpk := hk.out
        rw [Nat.pow_succ] at hpi hpk
        have HI : Hid (i0 / 2 < 2 ^ f) := by show _ < _; omega
        have HK : Hid (k0 / 2 < 2 ^ f) := by show _ < _; omega
        have e1 : (i0 : Int).tdiv 2 = ((i0 / 2 : Nat) : Int) := by rw [Int.tdiv_eq_ediv_of_nonneg (by omega)]; omega
        have e2 : (k0 : Int).tdiv 2 = ((k0 / 2 : Nat) : Int) := by rw [Int.tdiv_eq_ediv_of_nonneg (by omega)]; omega
        have hne : i0 / 2 + k0 / 2 < i0 + k0 := by omega
        have hlt1 : i0 / 2 < 512 := by omega
        have hlt2 : k0 / 2 < 512 := by omega
        generalize i0 / 2 = i1 at *
        generalize k0 / 2 = k1 at *
        have w1 : IntKind.i64.wrap ((i0 : Int).tdiv 2) = (i1 : Int) := by rw [e1]; exact IntWalk.i64_in _ (by omega)
        have w2 : IntKind.i64.wrap ((k0 : Int).tdiv 2) = (k1 : Int) := by rw [e2]; exact IntWalk.i64_in _ (by omega)
        clear h1 hpi hpk hi hk hme he
        go_wp2_with fail
        go_roundw
        case rel => exact ⟨f, i1, k1, t + 1, by omega, HI, HK, by first | rfl | trivial, by first | rfl | trivial, by go_num, by first | rfl | trivial, by omega, HM1⟩
        case measure => simp [intOf]; omega
end Go.Proofs.YtkkkfjinflepmaaGreatDoor
