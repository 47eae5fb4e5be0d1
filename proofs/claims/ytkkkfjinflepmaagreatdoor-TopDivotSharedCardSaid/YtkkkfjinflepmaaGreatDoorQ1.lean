/- TopDivotShared: the reference's check of a purse; sums. -/
import Derived.Test.YtkkkfjinflepmaaGreatDoorB37
import Derived.Test.YtkkkfjinflepmaaGreatDoorB07
import Derived.BigQuiet
import Derived.Test.YtkkkfjinflepmaaGreatDoorB45
import Derived.Test.YtkkkfjinflepmaaGreatDoorB44
set_option linter.unusedVariables false
set_option linter.unusedSimpArgs false
set_option linter.unusedSectionVars false
set_option linter.constructorNameAsVariable false
namespace Go.Proofs.YtkkkfjinflepmaaGreatDoor
open Go.RowKit Go.Mem Go.Sheet Go.Adj
set_option maxRecDepth 100000 in
set_option maxHeartbeats 4000000 in
theorem refCheckPurse_any (w : World) (F : Nat → Prop) (v : Value) (n : Nat) (g : Nat → Int) (hn : n ≤ 8) (h : Rd w F 1 v n (intsI (gl g n))) :
    Calls Tryz.prog 12 #[v] w fun e w' => IsE (GoodPu g n) e ∧ ∃ q, w' = w.drewN q := by
  obtain ⟨A, c, rfl, _, _, h⟩ := h.open_
  have HC : Hid (∀ k, k < n → ∃ b o, A = some ⟨b, o, none⟩ ∧ w.cell? ⟨b, o + k, none⟩ = some (.int .i64 (g k))) := fun k hk => by
    obtain ⟨b, o, x, hA, hx, hc⟩ := Rd.int (q := .i64) h hk
    rw [gl_at g hk] at hx
    cases hx
    exact ⟨b, o, hA, hc⟩
  have HST : Hid (∀ k, sumTo g (k + 1) = sumTo g k + g k) := fun _ => rfl
  have t1 : decide ((200 : Int) < (n : Int)) = false := decide_eq_false (by omega)
  have t1' : decide (200 < n) = false := decide_eq_false (by omega)
  clear h
  go_enter Tryz.func12, Tryz.ntmps12
  go_wp2_with fail
  go_loopw [4, 3] (fun i s w' => ∃ k q : Nat, k ≤ n ∧ i = .int .i64 k ∧ s = .int .i64 (sumTo g k) ∧ w' = w.drewN q ∧ (0 ≤ sumTo g k ∧ sumTo g k ≤ k * 999999999) ∧ Hid (∀ i, i < k → 0 ≤ g i ∧ g i ≤ 999999999) ∧ Hid (∀ i, i + 1 < k → g (i + 1) ≤ g i)) (fun i _ _ => n - (intOf i).toNat)
  case atStart => exact ⟨0, 0, Nat.zero_le _, rfl, rfl, rfl, ⟨Int.le_refl 0, by show (0 : Int) ≤ ((0 : Nat) : Int) * 999999999; simp⟩, Lib.hid (fun i h => absurd h (Nat.not_lt_zero i)), Lib.hid (fun i h => absurd h (Nat.not_lt_zero _))⟩
  case round =>
    obtain ⟨k, q, hk, rfl, rfl, rfl, hsb, hbd, hdn⟩ := hrel
    by_cases hlt : k < n
    · obtain ⟨b, o, hA, c0⟩ := HC.out k hlt
      subst hA
      by_cases hx0 : g k < 0
      · have s1 : decide (g k < 0) = true := decide_eq_true hx0
        generalize g k = x at *
        clear hx0
        go_wp2_with fail
        go_ret
        exact ⟨isE_ne (by decide), q, rfl⟩
      by_cases hx1 : 999999999 < g k
      · have s1 : decide (g k < 0) = false := decide_eq_false hx0
        have s2 : decide ((999999999 : Int) < g k) = true := decide_eq_true hx1
        generalize g k = x at *
        clear hx0 hx1
        go_wp2_with fail
        go_ret
        exact ⟨isE_ne (by decide), q, rfl⟩
      have s1 : decide (g k < 0) = false := decide_eq_false hx0
      have s2 : decide ((999999999 : Int) < g k) = false := decide_eq_false hx1
      have hst := HST.out k
      have hbd1 : ∀ i, i < k + 1 → 0 ≤ g i ∧ g i ≤ 999999999 := fun i hi => by
        rcases Nat.lt_or_ge i k with h | h
        · exact hbd.out i h
        · obtain rfl : i = k := by omega
          exact ⟨by omega, by omega⟩
      have HBD := Lib.hid hbd1
      have hgb : 0 ≤ g k ∧ g k ≤ 999999999 := ⟨by omega, by omega⟩
      clear hbd1 hx0 hx1
      by_cases hk0 : k = 0
      · subst hk0
        rw [Nat.add_zero] at c0
        have HST1 := Lib.hid hst
        generalize g 0 = x at *
        generalize sumTo g 0 = sx at *
        have hw : IntKind.i64.wrap (sx + x) = sx + x := IntWalk.i64_in _ (by omega)
        clear hst
        go_wp2_with fail
        go_quiet (fail)
        all_goals
          go_wp2_with fail
          go_roundw
          case rel => exact ⟨1, _, by omega, by go_num, by rw [HST1.out], rfl, by rw [HST1.out]; push_cast; omega, HBD, Lib.hid (fun i h => by omega)⟩
          case measure => simp [intOf]; omega
      · obtain ⟨kp, hkp⟩ : ∃ kp, kp = k - 1 := ⟨_, rfl⟩
        obtain ⟨b', o', hA', c1⟩ := HC.out kp (by omega)
        cases hA'
        have HKP := Lib.hid hkp
        have t3 : decide (0 < k) = true := decide_eq_true (by omega)
        have t4 : decide ((0 : Int) < (k : Int)) = true := decide_eq_true (by omega)
        have t5 : IntKind.i64.wrap ((k : Int) - 1) = (kp : Int) := by rw [show (k : Int) - 1 = (kp : Int) by omega]; exact IntWalk.i64_in _ (by omega)
        have t7 : decide ((n : Int) ≤ (kp : Int)) = false := decide_eq_false (by omega)
        have t8 : decide (n ≤ kp) = false := decide_eq_false (by omega)
        have hkn : kp < n := by omega
        have HST1 := Lib.hid hst
        by_cases hgt : g kp < g k
        · have t6 : decide (g kp < g k) = true := decide_eq_true hgt
          generalize g k = x at *
          generalize g kp = xp at *
          clear hst hkp hk0 hgt
          go_wp2_with fail
          go_quiet (fail)
          all_goals
            go_wp2_with fail
            go_ret
            exact ⟨isE_ne (by decide), _, by first | rfl | exact World.drewN_drewN _ _ _⟩
        · have t6 : decide (g kp < g k) = false := decide_eq_false hgt
          have HDN : Hid (∀ i, i + 1 < k + 1 → g (i + 1) ≤ g i) := fun i hi => by
            rcases Nat.lt_or_ge (i + 1) k with h | h
            · exact hdn.out i h
            · have e1 : i + 1 = k := by omega
              have e2 : i = kp := by omega
              rw [e1, e2]; omega
          generalize g k = x at *
          generalize g kp = xp at *
          generalize sumTo g k = sx at *
          have hw : IntKind.i64.wrap (sx + x) = sx + x := IntWalk.i64_in _ (by omega)
          clear hst hkp hk0 hgt
          go_wp2_with fail
          go_quiet (fail)
          all_goals
            go_wp2_with fail
            go_roundw
            case rel => exact ⟨k + 1, _, by omega, by go_num, by rw [HST1.out], rfl, by rw [HST1.out]; push_cast; omega, HBD, HDN⟩
            case measure => simp [intOf]; omega
    · obtain rfl : n = k := by omega
      by_cases hs : 999999999 < sumTo g n
      · have s1 : decide ((999999999 : Int) < sumTo g n) = true := decide_eq_true hs
        generalize sumTo g n = sx at *
        clear hs
        go_wp2_with fail
        go_ret
        exact ⟨isE_ne (by decide), q, rfl⟩
      · have s1 : decide ((999999999 : Int) < sumTo g n) = false := decide_eq_false hs
        have HG : Hid (GoodPu g n) := ⟨hbd.out, hdn.out, by omega⟩
        generalize sumTo g n = sx at *
        clear hs
        go_wp2_with fail
        go_ret
        exact ⟨⟨0, rfl, fun _ => HG.out⟩, q, rfl⟩
set_option maxRecDepth 100000 in
set_option maxHeartbeats 4000000 in
theorem refSum_ok (w : World) (F : Nat → Prop) (v : Value) (n : Nat) (g : Nat → Int) (hg : GoodPu g n) (h : Rd w F 1 v n (intsI (gl g n))) :
    Calls Tryz.prog 16 #[v, .int .i64 n] w fun e w' => e = .returned (.int .i64 (sumTo g n)) ∧ w = w' := by
  have hn := h.le
  obtain ⟨A, c, rfl, _, _, h⟩ := h.open_
  have HC : Hid (∀ k, k < n → ∃ b o, A = some ⟨b, o, none⟩ ∧ w.cell? ⟨b, o + k, none⟩ = some (.int .i64 (g k))) := fun k hk => by
    obtain ⟨b, o, x, hA, hx, hc⟩ := Rd.int (q := .i64) h hk
    rw [gl_at g hk] at hx
    cases hx
    exact ⟨b, o, hA, hc⟩
  have HS := Lib.hid (fun k (hk : k ≤ n) => sumTo_nn (g := g) (fun i hi => (hg.bd i hi).1) k hk)
  have HST : Hid (∀ k, sumTo g (k + 1) = sumTo g k + g k) := fun _ => rfl
  have hsm := hg.sm
  clear h hg
  go_enter Tryz.func16, Tryz.ntmps16
  go_wp2
  go_loop [6, 5] (fun i s => ∃ k : Nat, k ≤ n ∧ i = .int .i64 k ∧ s = .int .i64 (sumTo g k)) (fun i _ => n - (intOf i).toNat)
  case atStart => exact ⟨0, Nat.zero_le _, rfl, rfl⟩
  case round =>
    obtain ⟨k, hk, rfl, rfl⟩ := hrel
    by_cases hlt : k < n
    · obtain ⟨b, o, hA, c0⟩ := HC.out k hlt
      subst hA
      have h1 := HS.out (k + 1) hlt
      have hst := HST.out k
      rw [hst] at h1
      have HST1 := Lib.hid hst
      have s1 : decide ((k : Int) < (n : Int)) = true := decide_eq_true (by omega)
      generalize g k = x at *
      generalize sumTo g k = sx at *
      have hw : IntKind.i64.wrap (sx + x) = sx + x := IntWalk.i64_in _ (by omega)
      clear hst
      go_wp2
      go_round
      case rel => exact ⟨k + 1, by omega, by go_num, by rw [HST1.out]⟩
      case measure => simp [intOf]; omega
    · obtain rfl : n = k := by omega
      go_wp2
      go_ret
      exact ⟨rfl, rfl⟩
end Go.Proofs.YtkkkfjinflepmaaGreatDoor
/- TopDivotShared: the law. -/
namespace Go.Proofs.YtkkkfjinflepmaaGreatDoor
open Go.RowKit Go.Mem Go.Sheet Go.Adj
theorem prize_bd {rk : Nat → Nat} {m n : Nat} {g : Nat → Int} (hg : GoodPu g n) (hm : m ≤ 8) (i : Nat) : 0 ≤ prizeF rk m g n i ∧ prizeF rk m g n i ≤ 8000000000 := by
  unfold prizeF
  have h1 := sumG_bd hg (rk i) (memR rk (rk i) m).length
  have h2 := memR_len rk (rk i) m
  generalize sumG g n (rk i) (memR rk (rk i) m).length = S at *
  generalize (memR rk (rk i) m).length = q at *
  have h3 : 0 ≤ S.tdiv q ∧ S.tdiv q ≤ S := by
    rw [Int.tdiv_eq_ediv_of_nonneg h1.1]
    exact ⟨Int.ediv_nonneg h1.1 (by omega), Int.ediv_le_self _ h1.1⟩
  unfold shareF
  split <;> omega
def sc1 (ls : List LnI) : Nat → Nat := rkN ls
theorem sum_bd7 {f : Nat → Int} {B : Int} : ∀ {k}, (∀ i, i < k → 0 ≤ f i ∧ f i ≤ B) → 0 ≤ sumTo f k ∧ sumTo f k ≤ k * B
  | 0, _ => ⟨Int.le_refl 0, by show (0 : Int) ≤ ((0 : Nat) : Int) * B; simp⟩
  | k + 1, h => by
    have h1 := sum_bd7 (k := k) (fun i hi => h i (by omega))
    have h2 := h k (by omega)
    show 0 ≤ sumTo f k + f k ∧ sumTo f k + f k ≤ ((k + 1 : Nat) : Int) * B
    push_cast
    rw [Int.add_mul, Int.one_mul]
    omega
set_option maxRecDepth 100000 in
set_option maxHeartbeats 8000000 in
theorem shared_any (W : World) (v vp vg : Value) (n m pn : Nat) (hs : List HI) (ps : List PI) (g : Nat → Int) (hbd : m * 48 ≤ 140737488351232) (h : Rd W (· < W.heap.size) 2 v n (hs.flatMap HI.cells)) (hp : RdPl W (· < W.heap.size) vp m ps) (hg : Rd W (· < W.heap.size) 1 vg pn (intsI (gl g pn))) :
    Calls Tryz.prog 4 #[.agg #[v, vp], vg] W fun e w' => e = .returned (.bool true) ∧ Below W.heap.size W w' := by
  have hn63 := h.le
  obtain ⟨A, c, rfl, _, _, _⟩ := h.open_
  obtain ⟨Ap, cp, rfl, _, _, _⟩ := hp.1.open_
  obtain ⟨Ag, cg, rfl, _, _, _⟩ := hg.open_
  have H := Lib.hid h
  have HP := Lib.hid hp
  have HG := Lib.hid hg
  clear h hp hg
  have S0 := (St.refl W).blk_new #[.slice A n c, .slice Ap m cp] 25
  simp only [List.nil_append] at S0
  have HO := Lib.hid (divotOwn_any _ _ _ n m hs ps hbd (H.out.later S0.bel) (HP.out.later S0.bel))
  obtain ⟨gc, hgc⟩ : ∃ g, g = W.heap.size := ⟨_, rfl⟩
  have d0 := S0.blk_cell (i := 0) rfl 0
  have d1 := S0.blk_cell (i := 0) rfl 1
  rw [← hgc] at S0 d0 d1
  have HS0 := Lib.hid S0
  have HLR : Hid (∀ w', Below W.heap.size W w' → Calls Tryz.prog 9 #[] w' fun e w2 => e = .returned (.bool true) ∧ Below W.heap.size W w2) := fun w' hb => (divotWon_ok w').mono fun e w2 ⟨h1, h2⟩ => ⟨h1, hb.trans (h2.mono hb.size)⟩
  clear S0
  go_enter Tryz.func4, Tryz.ntmps4
  go_wp2_with fail
  rw [← hgc]
  generalize W.alloc (.cells #[.slice A n c, .slice Ap m cp] 25) = w1 at *
  clear hgc
  go_wp2_with fail
  go_at_call 7
  refine HO.out.mono ?_
  rintro e w2 ⟨B, d, rfl, S1⟩
  have S2 := HS0.out.call S1
  simp only [List.cons_append, List.nil_append] at S2
  have HFW := Lib.hid (refFew_n 8 (by omega) _ _ _ n m hs ps (H.out.later S2.bel) ⟨(S2.row_rd (i := 1) rfl).now, fun p hpp => ⟨(HP.out.2 p hpp).1.later S2.bel, (HP.out.2 p hpp).2⟩⟩)
  have HS2 := Lib.hid S2
  clear S1 S2 HS0 HO d0 d1
  go_wp2_with fail
  go_at_call 8
  refine HFW.out.mono ?_
  rintro e w3 ⟨⟨bo, rfl, hgood⟩, hb3⟩
  have S4 := HS2.out.ext hb3
  have S5 := S4.sub (L' := [_]) (.cons_cons _ (List.nil_sublist _))
  have d0 := S5.blk_cell (i := 0) rfl 0
  have d1 := S5.blk_cell (i := 0) rfl 1
  have HS5 := Lib.hid S5
  clear S4 S5 HS2 HFW hb3
  by_cases hbo : bo = false
  · subst hbo
    clear hgood
    go_wp2_with (go_at_call 9; refine (HLR.out _ HS5.out.bel).mono ?_; rintro e w' ⟨rfl, hb2⟩; have HB2 := Lib.hid hb2; clear hb2)
    go_ret
    exact ⟨rfl, HB2.out⟩
  obtain rfl : bo = true := by simpa using hbo
  obtain ⟨g1, hm8, g3⟩ := hgood rfl
  have HG1 := Lib.hid g1
  have HG3 := Lib.hid g3
  clear hgood g1 g3 hbo
  by_cases hn6 : 6 < n
  · have t1 : decide ((6 : Int) < (n : Int)) = true := decide_eq_true (by omega)
    have t1' : decide (6 < n) = true := decide_eq_true hn6
    clear hn6
    go_wp2_with (go_at_call 9; refine (HLR.out _ HS5.out.bel).mono ?_; rintro e w' ⟨rfl, hb2⟩; have HB2 := Lib.hid hb2; clear hb2)
    go_ret
    exact ⟨rfl, HB2.out⟩
  have t1 : decide ((6 : Int) < (n : Int)) = false := decide_eq_false (by omega)
  have t1' : decide (6 < n) = false := decide_eq_false hn6
  clear hn6
  have hpn63 := HG.out.le
  by_cases hp8 : 8 < pn
  · have t2 : decide ((8 : Int) < (pn : Int)) = true := decide_eq_true (by omega)
    have t2' : decide (8 < pn) = true := decide_eq_true hp8
    clear hp8
    go_wp2_with (go_at_call 9; refine (HLR.out _ HS5.out.bel).mono ?_; rintro e w' ⟨rfl, hb2⟩; have HB2 := Lib.hid hb2; clear hb2)
    go_ret
    exact ⟨rfl, HB2.out⟩
  have t2 : decide ((8 : Int) < (pn : Int)) = false := decide_eq_false (by omega)
  have t2' : decide (8 < pn) = false := decide_eq_false hp8
  have HCP := Lib.hid (refCheckPurse_any w3 _ _ pn g (by omega) (HG.out.later HS5.out.bel))
  go_wp2_with fail
  go_at_call 12
  refine HCP.out.mono ?_
  rintro e w4 ⟨⟨ec, rfl, hgp⟩, q, hq⟩
  have S6 := HS5.out.drewN q
  rw [← hq] at S6
  have d0 := S6.blk_cell (i := 0) rfl 0
  have d1 := S6.blk_cell (i := 0) rfl 1
  have HS6 := Lib.hid S6
  clear S6 HS5 HCP hq
  by_cases hec : ec = 0
  case neg =>
    have t3 : (ec != 0) = true := by simpa using hec
    clear hec hgp
    go_wp2_with (go_at_call 9; refine (HLR.out _ HS6.out.bel).mono ?_; rintro e w' ⟨rfl, hb2⟩; have HB2 := Lib.hid hb2; clear hb2)
    go_ret
    exact ⟨rfl, HB2.out⟩
  subst hec
  have HGP := Lib.hid (hgp rfl)
  have HDF := Lib.hid (divotField_ok w4 _ _ n m hs ps (by omega) (H.out.later HS6.out.bel) (HP.out.later HS6.out.bel) HG1.out HG3.out)
  clear hgp
  go_wp2_with fail
  go_at_call 13
  refine HDF.out.mono ?_
  rintro e w5 ⟨vl, vs, ls, rfl, hlm, hfo, S7⟩
  have S8 := HS6.out.call S7
  simp only [List.cons_append, List.nil_append] at S8
  obtain ⟨Al, cl, rfl, _, _, _⟩ := (S8.row_rd (i := 1) rfl).open_
  obtain ⟨As, cs, rfl, _, _, _⟩ := (S8.row_rd (i := 3) rfl).open_
  obtain ⟨k, hk⟩ : ∃ k, k = ls.length := ⟨_, rfl⟩
  rw [← hk] at S8 ⊢
  have hrdl : ∀ w, Below w5.heap.size w5 w → RdLn w (· < w.heap.size) (.slice Al k cl) k ls := fun w hw => by
    refine RdLn.later ⟨(S8.row_rd (i := 1) rfl).now, fun x hx => ?_⟩ hw
    obtain ⟨G, hG, hh⟩ := S8.get (i := 2) rfl
    exact (hh x hx).mono fun b hb _ => hb
  have HRDL := Lib.hid hrdl
  have HFO := Lib.hid hfo
  have HKL := Lib.hid hk
  have HPZ : Hid (∀ w vg2 g2, Below w5.heap.size w5 w → GoodPu g2 pn → Rd w (· < w.heap.size) 1 vg2 pn (intsI (gl g2 pn)) → Calls Tryz.prog 14 #[.slice Al k cl, vg2] w fun e w' => ∃ v', e = .returned (.tuple #[v', .int .i64 0]) ∧ St w w' [row 3 1 v' k (intsI (gl (prizeF (rkN ls) k g2 pn) k))]) := fun w vg2 g2 hw hg2 hr => by
    have hk2 := HFO.out.nms
    rw [← HKL.out] at hk2
    exact eventPrizes_ok w _ vg2 k pn ls g2 (by omega) (by omega) (HRDL.out w hw) HFO.out.good hk2 hr hg2
  have HP1 := Lib.hid (HPZ.out w5 _ g (Below.refl _ _) HGP.out (HG.out.later S8.bel))
  have HS8 := Lib.hid S8
  clear S7 S8 hrdl hfo hk HDF HS6 d0 d1
  go_wp2_with fail
  go_at_call 14
  refine HP1.out.mono ?_
  rintro e w6 ⟨vz, rfl, S9⟩
  have HB56 := Lib.hid S9.bel
  have S10 := HS8.out.call S9
  simp only [List.cons_append, List.nil_append] at S10
  have HS10 := Lib.hid S10
  obtain ⟨Az, cz, rfl, _, _, _⟩ := (S10.row_rd (i := 4) rfl).open_
  have z1 : (((k : Nat) : Int) != (k : Int)) = false := by simp
  clear S9 S10 HP1 HS8
  go_wp2_with fail
  have HSZ : Hid (∀ j, j < k → ∀ w, Below w6.heap.size w6 w → ∃ b o, As = some ⟨b, o, none⟩ ∧ w.cell? ⟨b, o + j, none⟩ = some (.int .i64 (sc ls j))) := fun j hj w hw => by
    obtain ⟨b, o, y, hA, hy, hc⟩ := Rd.int (q := .i64) ((HS10.out.row_rd (i := 3) rfl).now.later hw) hj
    rw [List.getElem?_map, Option.map_eq_some_iff] at hy
    obtain ⟨x, hx, rfl⟩ := hy
    refine ⟨b, o, hA, ?_⟩
    unfold sc
    rw [lnAt_some hx]; exact hc
  have HZZ : Hid (∀ j, j < k → ∀ w, Below w6.heap.size w6 w → ∃ b o, Az = some ⟨b, o, none⟩ ∧ w.cell? ⟨b, o + j, none⟩ = some (.int .i64 (prizeF (rkN ls) k g pn j))) := fun j hj w hw => by
    obtain ⟨b, o, y, hA, hy, hc⟩ := Rd.int (q := .i64) ((HS10.out.row_rd (i := 4) rfl).now.later hw) hj
    rw [gl_at _ hj] at hy
    cases hy
    exact ⟨b, o, hA, hc⟩
  have HGG : Hid (∀ j, j < pn → ∀ w, Below w6.heap.size w6 w → ∃ b o, Ag = some ⟨b, o, none⟩ ∧ w.cell? ⟨b, o + j, none⟩ = some (.int .i64 (g j))) := fun j hj w hw => by
    obtain ⟨b, o, y, hA, hy, hc⟩ := Rd.int (q := .i64) (HG.out.later (HS10.out.bel.trans (hw.mono HS10.out.size))) hj
    rw [gl_at _ hj] at hy
    cases hy
    exact ⟨b, o, hA, hc⟩
  have hk8 : k ≤ 8 := by rw [HKL.out]; omega
  obtain ⟨PZ, hPZ⟩ : ∃ PZ, PZ = prizeF (rkN ls) k g pn := ⟨_, rfl⟩
  have HPB : Hid (∀ i, 0 ≤ PZ i ∧ PZ i ≤ 8000000000) := fun i => by rw [hPZ]; exact prize_bd HGP.out hk8 i
  obtain ⟨GG, hGG⟩ : ∃ GG : Nat → Int, GG = fun i => if i < pn then g i else 0 := ⟨_, rfl⟩
  have HGB : Hid (∀ i, 0 ≤ GG i ∧ GG i ≤ 999999999) := fun i => by
    rw [hGG]
    show 0 ≤ (if i < pn then g i else 0) ∧ (if i < pn then g i else 0) ≤ 999999999
    split
    · rename_i h; exact HGP.out.bd i h
    · omega
  have HSUM : Hid (sumTo PZ k = sumTo GG k) := by
    show _ = _
    rw [hPZ, hGG, HKL.out]; exact prize_sum HGP.out
  have HPZE := Lib.hid hPZ
  have HGGE := Lib.hid hGG
  rw [← hPZ] at HZZ
  clear hPZ hGG
  go_loopw [73, 10, 11] (fun i gv ov w' => ∃ j : Nat, j ≤ k ∧ i = .int .i64 j ∧ gv = .int .i64 (sumTo PZ j) ∧ ov = .int .i64 (sumTo GG j) ∧ Below w6.heap.size w6 w') (fun i _ _ _ => k - (intOf i).toNat)
  case atStart => exact ⟨0, Nat.zero_le _, rfl, rfl, rfl, Below.refl _ _⟩
  case round =>
    obtain ⟨j, hj, rfl, rfl, rfl, hbw⟩ := hrel
    by_cases hlt : j < k
    · have HBW := Lib.hid hbw
      generalize wr = w7 at *
      have S0 := ((St.refl w7).row_nil 3 1).row_nil 3 1
      simp only [List.nil_append, List.cons_append] at S0
      have HS0 := Lib.hid S0
      clear S0 hbw
      go_wp2_with fail
      go_loopw [78, 13, 14, 15, 16] (fun i bv ev gv wv w' => ∃ t : Nat, t ≤ k ∧ i = .int .i64 t ∧ bv = .int .i64 (cN (fun x => decide (sc ls x < sc ls j)) t : Nat) ∧ ev = .int .i64 ((memR (sc1 ls) (sc1 ls j) t).length : Nat) ∧
        St w7 w' [row 3 1 gv (memR (sc1 ls) (sc1 ls j) t).length (natV (memR (sc1 ls) (sc1 ls j) t)), row 3 1 wv (memR (sc1 ls) (sc1 ls j) t).length (intsI (onesL (memR (sc1 ls) (sc1 ls j) t).length))]) (fun i _ _ _ _ _ => k - (intOf i).toNat)
      case atStart => exact ⟨0, Nat.zero_le _, rfl, rfl, rfl, HS0.out⟩
      case round =>
        obtain ⟨t, ht, rfl, rfl, rfl, S⟩ := hrel
        clear HS0
        by_cases htk : t < k
        · obtain ⟨b, o, hA, c0⟩ := HSZ.out t htk wr (HBW.out.trans (S.bel.mono HBW.out.size))
          obtain ⟨b', o', hA', c1⟩ := HSZ.out j hlt wr (HBW.out.trans (S.bel.mono HBW.out.size))
          subst hA
          cases hA'
          have hsame := rk_same (ls := ls) (i := j) (j := t) (by rw [← HKL.out]; exact hlt) (by rw [← HKL.out]; exact htk)
          have hms := memR_snoc (sc1 ls) (sc1 ls j) t
          have hml := memR_len (sc1 ls) (sc1 ls j) t
          have hcl := cN_le (fun x => decide (sc ls x < sc ls j)) t
          have hcs : cN (fun x => decide (sc ls x < sc ls j)) (t + 1) = cN (fun x => decide (sc ls x < sc ls j)) t + (if decide (sc ls t < sc ls j) = true then 1 else 0) := rfl
          have HCS := Lib.hid hcs
          have HMS := Lib.hid hms
          have HSM : Hid (sc1 ls t = sc1 ls j ↔ sc ls t = sc ls j) := hsame
          have p1 : decide ((k : Int) ≤ (t : Int)) = false := decide_eq_false (by omega)
          have p2 : decide (k ≤ t) = false := decide_eq_false (by omega)
          have p3 : decide ((k : Int) ≤ (j : Int)) = false := decide_eq_false (by omega)
          have p4 : decide (k ≤ j) = false := decide_eq_false (by omega)
          obtain ⟨mt, hmt⟩ : ∃ M, M = memR (sc1 ls) (sc1 ls j) t := ⟨_, rfl⟩
          obtain ⟨ct, hct⟩ : ∃ C, C = cN (fun x => decide (sc ls x < sc ls j)) t := ⟨_, rfl⟩
          have HMT := Lib.hid hmt
          have HCT := Lib.hid hct
          rw [← hmt] at S hml ⊢
          rw [← hct] at hcl ⊢
          clear hms hcs hsame hmt hct
          have HS := Lib.hid S
          have HSA := Lib.hid (S.alloc (.cells #[.int .i64 (t : Int)] 3))
          clear S
          by_cases hlo : sc ls t < sc ls j
          · have q1 : decide (sc ls t < sc ls j) = true := decide_eq_true hlo
            have q2 : (sc ls t == sc ls j) = false := by rw [Bool.eq_false_iff]; intro e; have := eq_of_beq e; omega
            have HN1 : Hid (cN (fun x => decide (sc ls x < sc ls j)) (t + 1) = ct + 1) := by show _ = _; rw [HCS.out, q1, HCT.out]; rfl
            have HN2 : Hid (memR (sc1 ls) (sc1 ls j) (t + 1) = mt) := by show _ = _; rw [HMS.out, if_neg (fun e => by have := HSM.out.1 e; omega), List.append_nil, HMT.out]
            clear hlo
            go_wp2_with fail
            go_quiet (fail)
            all_goals
              go_wp2_with fail
              go_quiet (fail)
              all_goals
                go_wp2_with fail
                go_roundw
                case rel => exact ⟨t + 1, by omega, by go_num, by rw [HN1.out]; go_num, by rw [HN2.out], by rw [HN2.out]; exact HS.out.drewN _⟩
                case measure => simp [intOf]; omega
          · have q1 : decide (sc ls t < sc ls j) = false := decide_eq_false hlo
            have HN1 : Hid (cN (fun x => decide (sc ls x < sc ls j)) (t + 1) = ct) := by show _ = _; rw [HCS.out, q1, HCT.out]; rfl
            by_cases heq : sc ls t = sc ls j
            · have q2 : (sc ls t == sc ls j) = true := by simp [heq]
              have HN2 : Hid (memR (sc1 ls) (sc1 ls j) (t + 1) = mt ++ [t]) := by show _ = _; rw [HMS.out, if_pos (HSM.out.2 heq), HMT.out]
              clear hlo heq
              go_wp2_with fail
              go_quiet (fail)
              all_goals
                go_wp2_with fail
                go_quiet (fail)
                all_goals
                  have hmle : mt.length ≤ t := hml
                  go_wp2_with first
                    | (at_builtin; refine wpList_append_st eltI rfl _ _ rfl rfl ((HS.out.drewN _).alloc _) (k := 0) rfl rfl (rd_one (by simp)) (one_int _ _) (by omega) (by omega) ?_; intro v1' w8 S8 _; simp only [List.set_cons_zero] at S8; have HS8 := Lib.hid S8; clear S8)
                    | (at_builtin; refine wpList_append_st eltI rfl _ _ rfl rfl (HS8.out.alloc _) (k := 1) rfl rfl (rd_one (by simp)) (one_int _ _) (by omega) (by omega) ?_; intro v2' w9 S9 _; simp only [List.set_cons_zero, List.set_cons_succ] at S9; have HS9 := Lib.hid S9; clear S9)
                  go_roundw
                  case rel =>
                    refine ⟨t + 1, by omega, by go_num, by rw [HN1.out], by rw [HN2.out, List.length_append]; go_num, ?_⟩
                    have S9 := HS9.out
                    rw [HN2.out, natV_snoc, List.length_append, show onesL (mt.length + [t].length) = onesL mt.length ++ [1] from by unfold onesL; exact List.replicate_succ', show ∀ a b : List Int, intsI (a ++ b) = intsI a ++ intsI b from fun a b => by unfold intsI; simp]
                    exact S9
                  case measure => simp [intOf]; omega
            · have q2 : (sc ls t == sc ls j) = false := by simp [heq]
              have HN2 : Hid (memR (sc1 ls) (sc1 ls j) (t + 1) = mt) := by show _ = _; rw [HMS.out, if_neg (fun e => heq (HSM.out.1 e)), List.append_nil, HMT.out]
              clear hlo heq
              go_wp2_with fail
              go_quiet (fail)
              all_goals
                go_wp2_with fail
                go_quiet (fail)
                all_goals
                  go_wp2_with fail
                  go_roundw
                  case rel => exact ⟨t + 1, by omega, by go_num, by rw [HN1.out], by rw [HN2.out], by rw [HN2.out]; exact HS.out.drewN _⟩
                  case measure => simp [intOf]; omega
        · obtain rfl : t = k := by omega
          have hrk := rkN_cN ls j
          rw [← HKL.out] at hrk
          obtain ⟨xm, hxm⟩ : ∃ x, x = cN (fun x => decide (sc ls x < sc ls j)) t := ⟨_, rfl⟩
          obtain ⟨M, hM⟩ : ∃ M, M = memR (sc1 ls) (sc1 ls j) t := ⟨_, rfl⟩
          obtain ⟨q, hq⟩ : ∃ q, q = M.length := ⟨_, rfl⟩
          have hq8 : q ≤ t := by rw [hq, hM]; exact memR_len _ _ _
          have hx8 : xm ≤ t := by rw [hxm]; exact cN_le _ _
          obtain ⟨SG, hSG⟩ : ∃ SG, SG = sumG g pn (rkN ls j) := ⟨_, rfl⟩
          have HXR : Hid (rkN ls j - 1 = xm) := by show _ = _; rw [hrk, ← hxm]; omega
          have HSB : Hid (∀ d, 0 ≤ SG d ∧ SG d ≤ 999999999) := fun d => by rw [hSG]; exact ⟨(sumG_bd HGP.out _ d).1, sumG_le HGP.out _ d⟩
          have HSS : Hid (∀ d, SG (d + 1) = SG d + (if xm + d < pn then g (xm + d) else 0)) := fun d => by rw [hSG, ← HXR.out]; rfl
          have HST : Hid (∀ d, d ≤ q → pn ≤ xm + d → SG q = SG d) := fun d hd h => by rw [hSG]; exact sumG_stop (by rw [HXR.out]; exact h) q hd
          have hS0 : SG 0 = 0 := by rw [hSG]; rfl
          rw [← hM, ← hq] at S
          rw [← hM, ← hq, ← hxm]
          have HS := Lib.hid S
          have HM := Lib.hid hM
          have HQ := Lib.hid hq
          have HSGE := Lib.hid hSG
          have p1 : decide ((t : Int) ≤ (j : Int)) = false := decide_eq_false (by omega)
          clear S hM hq hSG hxm hrk
          go_wp2_with fail
          go_loopw [19, 18] (fun i s w' => ∃ d : Nat, d ≤ q ∧ i = .int .i64 ((xm : Int) + (d : Int)) ∧ s = .int .i64 (SG d) ∧ w' = wr) (fun i _ _ => xm + q - (intOf i).toNat)
          case atStart => exact ⟨0, Nat.zero_le _, by simp, by rw [hS0], rfl⟩
          case round =>
            obtain ⟨d, hd, rfl, rfl, rfl⟩ := hrel
            have hb := HSB.out d
            have hss := HSS.out d
            obtain ⟨z, hz⟩ : ∃ z : Int, (xm : Int) + (d : Int) = z := ⟨_, rfl⟩
            rw [hz]
            by_cases hex : d < q ∧ xm + d < pn
            · obtain ⟨hdq, hzn⟩ := hex
              have y1 : decide (z < (xm : Int) + (q : Int)) = true := decide_eq_true (by omega)
              rw [if_pos hzn] at hss
              have hgb := HGP.out.bd _ hzn
              obtain ⟨b', o', hA', c1⟩ := HGG.out _ hzn _ (HBW.out.trans (HS.out.bel.mono HBW.out.size))
              have hb1 := HSB.out (d + 1)
              have z1 : decide (z < (pn : Int)) = true := decide_eq_true (by omega)
              have z2 : decide (z < 0) = false := decide_eq_false (by omega)
              have z3 : decide ((pn : Int) ≤ z) = false := decide_eq_false (by omega)
              have z4 : 0 ≤ z := by omega
              have z5 : z < (pn : Int) := by omega
              have z6 : z.toNat = xm + d := by omega
              have HSS1 := Lib.hid hss
              generalize g (xm + d) = gx at *
              generalize SG d = sj at *
              have hw : IntKind.i64.wrap (sj + gx) = sj + gx := IntWalk.i64_in _ (by omega)
              clear hss hzn hb1
              subst hA'
              go_wp2_with fail
              go_roundw
              case rel => exact ⟨d + 1, by omega, by go_num, by rw [HSS1.out], by first | rfl | trivial⟩
              case measure => simp [intOf]; omega
            · have hd1 : 1 ≤ q := by
                have h1 : j ∈ memR (sc1 ls) (sc1 ls j) t := memR_mem.2 ⟨hlt, rfl⟩
                rw [← HM.out] at h1
                rw [HQ.out]
                exact List.length_pos_of_mem h1
              obtain ⟨SM, hSM⟩ : ∃ SM, SM = SG d := ⟨_, rfl⟩
              have HSM : Hid (SG q = SM) := by
                show _ = _
                rw [hSM]
                by_cases h : d < q
                · exact HST.out d hd (by omega)
                · rw [show d = q by omega]
              rw [← hSM] at hb
              have HSH := Lib.hid (shares_ones _ _ q SM ⟨hd1, by omega⟩ hb (HS.out.row_rd (i := 1) rfl).now)
              have HMJ : Hid (∀ x, x < q → ∃ i, M[x]? = some i ∧ i < t ∧ PZ i = shareF q SM x) := fun x hx => by
                obtain ⟨i, hi⟩ : ∃ i, M[x]? = some i := ⟨M[x]'(by rw [← HQ.out]; omega), List.getElem?_eq_getElem _⟩
                have h1 : (memR (sc1 ls) (sc1 ls j) t)[x]? = some i := by rw [← HM.out]; exact hi
                obtain ⟨a1, a2, a3⟩ := memR_at h1
                refine ⟨i, hi, a2, ?_⟩
                rw [HPZE.out]
                unfold prizeF
                have e : rkN ls i = rkN ls j := a3
                rw [e, show memR (rkN ls) (rkN ls j) t = M from HM.out.symm, ← HQ.out, show (memR (rkN ls) (rkN ls j) i).length = x from a1, ← HSGE.out, HSM.out]
              have hcase : (decide (z < (xm : Int) + (q : Int)) = false) ∨ (decide (z < (xm : Int) + (q : Int)) = true ∧ decide (z < (pn : Int)) = false) := by
                by_cases h : d < q
                · exact .inr ⟨decide_eq_true (by omega), decide_eq_false (by omega)⟩
                · exact .inl (decide_eq_false (by omega))
              rw [← hSM]
              clear hss hSM hex
              rcases hcase with y1 | ⟨y1, z1⟩
              all_goals
                go_wp2_with fail
                go_at_call 15
                refine HSH.out.mono ?_
                rintro e w8 ⟨vh, rfl, S8⟩
                have S9 := HS.out.call S8
                simp only [List.cons_append, List.nil_append] at S9
                have HS9 := Lib.hid S9
                clear S8 S9 HSH
                obtain ⟨Ah, ch, rfl, _, _, _⟩ := (HS9.out.row_rd (i := 2) rfl).open_
                obtain ⟨Am, cm, rfl, _, _, _⟩ := (HS9.out.row_rd (i := 0) rfl).open_
                have z7 : ((q : Int) != (q : Int)) = false := by simp
                go_wp2_with fail
                go_loopw [148, 22] (fun i _ w' => ∃ x : Nat, x ≤ q ∧ i = .int .i64 x ∧ Below w8.heap.size w8 w') (fun i _ _ => q - (intOf i).toNat)
                case atStart => exact ⟨0, Nat.zero_le _, rfl, Below.refl _ _⟩
                case round =>
                  obtain ⟨x, hx, rfl, hb9⟩ := hrel
                  by_cases hxd : x < q
                  · obtain ⟨i, hi, hit, hpz⟩ := HMJ.out x hxd
                    obtain ⟨b1, o1, u1, hA1, _, hu1, c1⟩ := ((HS9.out.row_rd (i := 0) rfl).now.later hb9).at_ hxd
                    unfold natV at hu1
                    rw [List.getElem?_map, hi] at hu1
                    cases hu1
                    obtain ⟨b2, o2, hA2, c2⟩ := HZZ.out i hit wr (HBW.out.trans ((HS9.out.bel.trans (hb9.mono HS9.out.size)).mono HBW.out.size))
                    obtain ⟨b3, o3, y3, hA3, hy3, c3⟩ := Rd.int (q := .i64) ((HS9.out.row_rd (i := 2) rfl).now.later hb9) hxd
                    rw [gl_at _ hxd] at hy3
                    cases hy3
                    rw [← hpz] at c3
                    subst hA1 hA2 hA3
                    have x1 : decide ((t : Int) ≤ (i : Int)) = false := decide_eq_false (by omega)
                    have x2 : decide (t ≤ i) = false := decide_eq_false (by omega)
                    have x3 : decide ((q : Int) ≤ (x : Int)) = false := decide_eq_false (by omega)
                    have x4 : decide (q ≤ x) = false := decide_eq_false (by omega)
                    have hpb := HPB.out i
                    clear hpz hi
                    generalize PZ i = pz at *
                    have x5 : (pz != pz) = false := by simp
                    go_wp2_with fail
                    go_quiet (fail)
                    all_goals
                      go_wp2_with fail
                      go_roundw
                      case rel => exact ⟨x + 1, by omega, by go_num, below_drewN hb9 _⟩
                      case measure => simp [intOf]; omega
                  · obtain rfl : q = x := by omega
                    have hbz := HBW.out.trans ((HS9.out.bel.trans (hb9.mono HS9.out.size)).mono HBW.out.size)
                    obtain ⟨b2, o2, hA2, c2⟩ := HZZ.out j hlt wr hbz
                    subst hA2
                    have hp1 := sum_bd7 (f := PZ) (B := 8000000000) (k := j) (fun i _ => HPB.out i)
                    have hp2 := HPB.out j
                    have hg1 := sum_bd7 (f := GG) (B := 999999999) (k := j) (fun i _ => HGB.out i)
                    have hg2 := HGB.out j
                    have HP3 : Hid (sumTo PZ (j + 1) = sumTo PZ j + PZ j) := rfl
                    have HQ3 : Hid (sumTo GG (j + 1) = sumTo GG j + GG j) := rfl
                    have x1 : decide ((t : Int) ≤ (j : Int)) = false := decide_eq_false (by omega)
                    have x2 : decide (t ≤ j) = false := decide_eq_false (by omega)
                    have HBZ := Lib.hid hbz
                    by_cases hjp : j < pn
                    · have y5 : decide ((j : Int) < (pn : Int)) = true := decide_eq_true (by omega)
                      have y6 : decide (j < pn) = true := decide_eq_true hjp
                      have y7 : decide ((pn : Int) ≤ (j : Int)) = false := decide_eq_false (by omega)
                      have y8 : decide (pn ≤ j) = false := decide_eq_false (by omega)
                      have hgj : GG j = g j := by rw [HGGE.out]; exact if_pos hjp
                      obtain ⟨b3, o3, hA3, c3⟩ := HGG.out j hjp wr hbz
                      rw [← hgj] at c3
                      subst hA3
                      clear hgj hbz
                      generalize PZ j = pz at *
                      generalize GG j = gz at *
                      generalize sumTo PZ j = sp at *
                      generalize sumTo GG j = sg at *
                      have hw1 : IntKind.i64.wrap (sp + pz) = sp + pz := IntWalk.i64_in _ (by omega)
                      have hw2 : IntKind.i64.wrap (sg + gz) = sg + gz := IntWalk.i64_in _ (by omega)
                      go_wp2_with fail
                      go_roundw
                      case rel => exact ⟨j + 1, by omega, by go_num, by rw [HP3.out], by rw [HQ3.out], HBZ.out⟩
                      case measure => simp [intOf]; omega
                    · have y5 : decide ((j : Int) < (pn : Int)) = false := decide_eq_false (by omega)
                      have y6 : decide (j < pn) = false := decide_eq_false hjp
                      have hgj : GG j = 0 := by rw [HGGE.out]; exact if_neg hjp
                      rw [hgj, Int.add_zero] at HQ3
                      clear hgj hbz
                      generalize PZ j = pz at *
                      generalize sumTo PZ j = sp at *
                      generalize sumTo GG j = sg at *
                      have hw1 : IntKind.i64.wrap (sp + pz) = sp + pz := IntWalk.i64_in _ (by omega)
                      go_wp2_with fail
                      go_roundw
                      case rel => exact ⟨j + 1, by omega, by go_num, by rw [HP3.out], by rw [HQ3.out], HBZ.out⟩
                      case measure => simp [intOf]; omega
    · obtain rfl : k = j := by omega
      have hsm := HSUM.out
      rw [hsm]
      have hbz := HS10.out.bel.trans (hbw.mono HS10.out.size)
      have HBZ := Lib.hid hbz
      have HGR := Lib.hid (HG.out.later hbz)
      have HBW := Lib.hid hbw
      generalize sumTo GG k = sg at *
      have e1 : (sg == sg) = true := by simp
      clear hsm hbz hbw
      by_cases hp0 : pn = 0
      · subst hp0
        go_wp2_with (go_at_call 9; refine (HLR.out _ HBZ.out).mono ?_; rintro e w' ⟨rfl, hb2⟩; have HB2 := Lib.hid hb2; clear hb2)
        go_ret
        exact ⟨rfl, HB2.out⟩
      obtain ⟨b3, o3, hA3, c3⟩ := HGG.out 0 (by omega) wr HBW.out
      subst hA3
      have q0 : ((pn : Int) == 0) = false := by simp; omega
      have q0' : (pn == 0) = false := by simp; omega
      have q1 : decide ((pn : Int) ≤ 0) = false := decide_eq_false (by omega)
      have q1' : decide (pn ≤ 0) = false := decide_eq_false (by omega)
      have q2 : 0 < pn := by omega
      obtain ⟨x0, hx0⟩ : ∃ x, x = g 0 := ⟨_, rfl⟩
      rw [← hx0, Nat.add_zero] at c3
      have HX0 := Lib.hid hx0
      clear hx0 hp0
      by_cases hl : 999998999 ≤ x0
      · have q3 : decide ((999998999 : Int) ≤ x0) = true := decide_eq_true hl
        clear hl
        go_wp2_with (go_at_call 9; refine (HLR.out _ HBZ.out).mono ?_; rintro e w' ⟨rfl, hb2⟩; have HB2 := Lib.hid hb2; clear hb2)
        go_ret
        exact ⟨rfl, HB2.out⟩
      have q3 : decide ((999998999 : Int) ≤ x0) = false := decide_eq_false hl
      have HSC := Lib.hid (refSum_ok wr _ _ pn g HGP.out HGR.out)
      obtain ⟨sm, hsm⟩ : ∃ s, s = sumTo g pn := ⟨_, rfl⟩
      rw [← hsm] at HSC
      have HSM := Lib.hid hsm
      clear hsm
      by_cases hs : 999998999 < sm
      · have q4 : decide ((999998999 : Int) < sm) = true := decide_eq_true hs
        clear hs
        go_wp2_with (first
          | (go_at_call 16; refine HSC.out.mono ?_; rintro e w' ⟨rfl, rfl⟩)
          | (go_at_call 9; refine (HLR.out _ HBZ.out).mono ?_; rintro e w' ⟨rfl, hb2⟩; have HB2 := Lib.hid hb2; clear hb2))
        go_ret
        exact ⟨rfl, HB2.out⟩
      have q4 : decide ((999998999 : Int) < sm) = false := decide_eq_false hs
      have HG2 := Lib.hid (more_ok HGP.out q2 (by rw [← HX0.out]; omega) (by rw [← HSM.out]; omega))
      have S12 := (St.refl wr).row_new (e := 3) (size := 1) (n := 0) #[] (by unfold maxLen; omega) rfl
      simp only [List.nil_append] at S12
      have HGR2 := Lib.hid (HGR.out.later S12.bel)
      have HS12 := Lib.hid S12
      clear S12
      have hw1 : IntKind.i64.wrap (x0 + 100) = x0 + 100 := IntWalk.i64_in _ (by have := HGP.out.bd 0 q2; rw [← HX0.out] at this; omega)
      go_wp2_with (first
          | (go_at_call 16; refine HSC.out.mono ?_; rintro e w' ⟨rfl, rfl⟩)
          | (at_builtin; refine wpList_append_st eltI rfl _ _ rfl rfl HS12.out (k := 0) rfl rfl HGR2.out (by simp [intsI, Value.oneCell']) (by omega) (by omega) ?_; intro v1 w9 S13 _; simp only [List.set_cons_zero, Nat.zero_add, List.nil_append] at S13
             obtain ⟨gq, cq, rfl⟩ := row_some S13 (i := 0) rfl (by omega)
             obtain ⟨c5, f5⟩ := row_int5 S13 (i := 0) rfl (j := 0) (by omega)
             rw [← HX0.out] at c5
             have HS13 := Lib.hid S13; clear S13))
      have S14 := HS13.out.row_set (i := 0) rfl 0 (.int .i64 (x0 + 100))
      simp only [List.set_cons_zero] at S14
      rw [gl_set5 (f' := updF g 0 (g 0 + 100)) (by unfold updF; rw [if_pos rfl, ← HX0.out]) (fun i hi => by unfold updF; rw [if_neg hi])] at S14
      clear c5 f5 HS13
      generalize w9.setCell ⟨gq, 0, none⟩ (.int .i64 (x0 + 100)) = w10 at *
      have HP2 := Lib.hid (HPZ.out w10 _ _ (HB56.out.trans ((HBW.out.trans (S14.bel.mono HBW.out.size)).mono HB56.out.size)) HG2.out (S14.row_rd (i := 0) rfl).now)
      have HS14 := Lib.hid S14
      clear S14
      go_at_call 14
      refine HP2.out.mono ?_
      rintro e w11 ⟨vy, rfl, S15⟩
      have S16 := HS14.out.call S15
      simp only [List.cons_append, List.nil_append] at S16
      have HS16 := Lib.hid S16
      obtain ⟨Ay, cy, rfl, _, _, _⟩ := (S16.row_rd (i := 1) rfl).open_
      have HLE : Hid (∀ i, PZ i - 1 ≤ prizeF (rkN ls) k (updF g 0 (g 0 + 100)) pn i) := fun i => by rw [HPZE.out]; exact prize_more HGP.out (fun p _ => more_ge p) i
      clear S15 S16 HP2 HS14
      go_wp2_with fail
      go_loopw [228, 26] (fun i _ w' => ∃ x : Nat, x ≤ k ∧ i = .int .i64 x ∧ Below w11.heap.size w11 w') (fun i _ _ => k - (intOf i).toNat)
      case atStart => exact ⟨0, Nat.zero_le _, rfl, Below.refl _ _⟩
      case round =>
        obtain ⟨x, hx, rfl, hb9⟩ := hrel
        by_cases hxk : x < k
        · obtain ⟨b2, o2, hA2, c2⟩ := HZZ.out x hxk wr (HBW.out.trans ((HS16.out.bel.trans (hb9.mono HS16.out.size)).mono HBW.out.size))
          obtain ⟨b4, o4, y4, hA4, hy4, c4⟩ := Rd.int (q := .i64) ((HS16.out.row_rd (i := 1) rfl).now.later hb9) hxk
          rw [gl_at _ hxk] at hy4
          cases hy4
          subst hA2 hA4
          have hle := HLE.out x
          have hpb := HPB.out x
          generalize PZ x = pz at *
          generalize prizeF (rkN ls) k (updF g 0 (g 0 + 100)) pn x = py at *
          have x1 : decide ((k : Int) ≤ (x : Int)) = false := decide_eq_false (by omega)
          have x2 : decide (k ≤ x) = false := decide_eq_false (by omega)
          have x3 : IntKind.i64.wrap (pz - 1) = pz - 1 := IntWalk.i64_in _ (by omega)
          have x4 : decide (py < pz - 1) = false := decide_eq_false (by omega)
          clear hle
          go_wp2_with fail
          go_quiet (fail)
          all_goals
            go_wp2_with fail
            go_roundw
            case rel => exact ⟨x + 1, by omega, by go_num, below_drewN hb9 _⟩
            case measure => simp [intOf]; omega
        · obtain rfl : k = x := by omega
          have HBE := Lib.hid (HBZ.out.trans ((HS16.out.bel.trans (hb9.mono HS16.out.size)).mono HBZ.out.size))
          clear hb9
          go_wp2_with (go_at_call 9; refine (HLR.out _ HBE.out).mono ?_; rintro e w' ⟨rfl, hb2⟩; have HB2 := Lib.hid hb2; clear hb2)
          go_ret
          exact ⟨rfl, HB2.out⟩
end Go.Proofs.YtkkkfjinflepmaaGreatDoor
