/- Part 43 of the walks of the golf union's program: LP6, DT4, L15, DW0. -/
import Derived.Test.YtkkkfjinflepmaaGreatDoorB26
import Derived.Test.YtkkkfjinflepmaaGreatDoorB42
import Derived.Test.YtkkkfjinflepmaaGreatDoorB13
import Derived.Test.YtkkkfjinflepmaaGreatDoorB10
import Derived.Test.YtkkkfjinflepmaaGreatDoorB33
import Derived.Test.YtkkkfjinflepmaaGreatDoorB41
import Derived.Test.YtkkkfjinflepmaaGreatDoorB35
set_option linter.unusedVariables false
set_option linter.unusedSimpArgs false
set_option linter.unusedSectionVars false
set_option linter.constructorNameAsVariable false
/- Chapter 5: all, of any net strokes. -/
namespace Go.Proofs.YtkkkfjinflepmaaGreatDoor
open Go.RowKit Go.Mem Go.Sheet Go.Adj
def allO (NF : Nat → NI) : Nat → Bool
  | 0 => true
  | k + 1 => allO NF k && isO (NF k).x
theorem isO_iff (x : MK) : isO x = true ↔ x = .o := by cases x <;> simp [isO]
theorem allO_iff (NF : Nat → NI) (n : Nat) : allO NF n = true ↔ ∀ i, i < n → (NF i).x = .o := by
  induction n with
  | zero => simp [allO]
  | succ k ih =>
    rw [allO, Bool.and_eq_true, ih, isO_iff]
    constructor
    · rintro ⟨h1, h2⟩ i hi
      by_cases e : i = k
      · subst e; exact h2
      · exact h1 i (by omega)
    · intro h
      exact ⟨fun i hi => h i (by omega), h k (by omega)⟩
theorem allO_no {NF : Nat → NI} {n k : Nat} (hk : k < n) (h : isO (NF k).x = false) : allO NF n = false := by
  cases e : allO NF n with
  | false => rfl
  | true =>
    have := (allO_iff NF n).1 e k hk
    rw [this] at h
    cases h
set_option maxRecDepth 100000 in
set_option maxHeartbeats 4000000 in
theorem idxN_any (W : World) (v : Value) (n : Nat) (NF : Nat → NI) (h : Rd W (· < W.heap.size) 2 v n ((nl NF n).flatMap NI.cells)) :
    Calls Tryz.prog 155 #[v, .func (.func 133) #[] #[]] W fun e w' => ∃ i : Int, e = .returned (.int .i64 i) ∧ Hid (decide (0 ≤ i) = !allO NF n) ∧ Below W.heap.size W w' := by
  have H := Lib.hid h
  have hn := h.le
  have HNO : Hid (∀ k, k < n → isO (NF k).x = false → allO NF n = false) := fun k hk h => allO_no hk h
  obtain ⟨A, c, rfl, _, _, _⟩ := h.open_
  clear h
  go_enter Tryz.func155, Tryz.ntmps155
  go_wp2
  go_loopw [8] (fun i w' => ∃ k : Nat, k ≤ n ∧ i = .int .i64 k ∧ Hid (allO NF k = true) ∧ Below W.heap.size W w') (fun i _ => n - (intOf i).toNat)
  case atStart => exact ⟨0, Nat.zero_le _, rfl, rfl, Below.refl _ _⟩
  case round =>
    obtain ⟨k, hk, rfl, ha, hbw⟩ := hrel
    by_cases hlt : k < n
    · obtain ⟨b, o, x, rfl, hx, c0, c1⟩ := net_elem (H.out.below hbw) hlt
      have hxe : NF k = x := Option.some.inj ((nl_at NF hlt).symm.trans hx)
      have hno := HNO.out k hlt
      have hsu : allO NF (k + 1) = (allO NF k && isO (NF k).x) := rfl
      rw [hxe] at hno hsu
      obtain ⟨xs, xx⟩ := x
      simp only at c0 c1 hno hsu
      have HC : Hid (∀ w, Calls Tryz.prog 133 #[.agg #[.int .i64 xs, .string (mkN xx)]] w fun r w' => r = .returned (.bool (!isO xx)) ∧ Below w.heap.size w w') := fun w => all1_any xs xx w
      generalize mkN xx = xm at *
      generalize isO xx = bx at *
      have HBW := Lib.hid hbw
      have HSU := Lib.hid hsu
      have HN := Lib.hid hno
      clear hx hbw hxe hsu hno
      cases bx
      · go_wp2_with (go_at_call 133; refine (HC.out _).mono ?_; rintro e w' ⟨rfl, hb2⟩; have HB2 := Lib.hid hb2; clear hb2)
        go_ret
        exact ⟨_, rfl, Lib.hid (by rw [HN.out (by trivial)]; simp), HBW.out.trans (HB2.out.mono HBW.out.size)⟩
      · go_wp2_with (go_at_call 133; refine (HC.out _).mono ?_; rintro e w' ⟨rfl, hb2⟩; have HB2 := Lib.hid hb2; clear hb2)
        go_roundw
        case rel => exact ⟨k + 1, by omega, by go_num, Lib.hid (by rw [HSU.out, ha.out]; rfl), HBW.out.trans (HB2.out.mono HBW.out.size)⟩
        case measure => simp [intOf]; omega
    · have HBW := Lib.hid hbw
      clear hbw
      obtain rfl : k = n := by omega
      go_wp2
      go_ret
      exact ⟨_, rfl, Lib.hid (by rw [ha.out]; rfl), HBW.out⟩
set_option maxRecDepth 100000 in
set_option maxHeartbeats 4000000 in
theorem all_any (W : World) (v : Value) (n : Nat) (NF : Nat → NI) (h : Rd W (· < W.heap.size) 2 v n ((nl NF n).flatMap NI.cells)) :
    Calls Tryz.prog 112 #[v] W fun e w' => e = .returned (.bool (allO NF n)) ∧ Below W.heap.size W w' := by
  have HI := Lib.hid (idxN_any W v n NF h)
  obtain ⟨A, c, rfl, _, _, _⟩ := h.open_
  clear h
  generalize allO NF n = bo at *
  have HC : Hid (Calls Tryz.prog 132 #[.slice A n c, .func (.func 133) #[] #[]] W fun e w' => e = .returned (.bool (!bo)) ∧ Below W.heap.size W w') := by
    show Calls _ _ _ _ _
    go_enter Tryz.func132, Tryz.ntmps132
    go_wp2_with fail
    go_at_call 155
    refine HI.out.mono ?_
    rintro e w' ⟨i, rfl, hi, hb2⟩
    have HB2 := Lib.hid hb2
    have hi2 := hi.out
    clear hb2 HI
    go_wp2
    go_ret
    exact ⟨rfl, HB2.out⟩
  go_enter Tryz.func112, Tryz.ntmps112
  go_wp2_with (go_at_call 132; refine HC.out.mono ?_; rintro e w' ⟨rfl, hb2⟩; have HB2 := Lib.hid hb2; clear hb2)
  go_ret
  exact ⟨ret_bool (by simp), HB2.out⟩
end Go.Proofs.YtkkkfjinflepmaaGreatDoor
/- Chapter 5: Score, with ErrNone (as in LT4). -/
namespace Go.Proofs.YtkkkfjinflepmaaGreatDoor
open Go.RowKit Go.Mem Go.Sheet Go.Adj
theorem net_bd {W : World} {v ve : Value} {n : Nat} {hs : List HI} {es : List EI} {name : ByteArray} {co : Int} (h : CEnv W v ve n hs es name) (hco : -99 ≤ co ∧ co ≤ 99) : ∀ i, i < n → -200 ≤ (netF hs es co i).s ∧ (netF hs es co i).s ≤ 200 := fun i hi => by
  have h1 := good_bd (h.ge i hi)
  have h2 := giv_bd h.gh.len hco i
  unfold netF
  split
  · show -200 ≤ (0 : Int) ∧ (0 : Int) ≤ 200; omega
  · split
    · show -200 ≤ (0 : Int) ∧ (0 : Int) ≤ 200; omega
    · show -200 ≤ _ - _ ∧ _ - _ ≤ 200
      omega
set_option maxRecDepth 100000 in
set_option maxHeartbeats 4000000 in
theorem scored_any (W : World) (v ve : Value) (n : Nat) (hs : List HI) (es : List EI) (name : ByteArray) (co : Int) (hco : -99 ≤ co ∧ co ≤ 99) (h : CEnv W v ve n hs es name) :
    Calls Tryz.prog 80 #[v, .agg #[.string name, ve, .int .i64 co]] W fun e w' => ∃ v', e = .returned (.tuple #[v', .int .i64 (whenE (!allO (netF hs es co) n) 7)]) ∧ St W w' [row 143 2 v' n ((nl (netF hs es co) n).flatMap NI.cells)] := by
  have HE := Lib.hid h
  have hl := h.len
  have hn := h.gh.len
  rw [← hl] at hn
  have HCP : Hid (∀ w, CEnv w v ve n hs es name → Calls Tryz.prog 111 #[v, .agg #[.string name, ve, .int .i64 co]] w fun e w' => e = .returned (.int .i64 0) ∧ Below w.heap.size w w') := fun w h => checkPlayer_ok w v ve n hs es name co hco h
  have HNT : Hid (∀ w, CEnv w v ve n hs es name → Calls Tryz.prog 85 #[.agg #[.string name, ve, .int .i64 co], v] w fun e w' => ∃ v', e = .returned v' ∧ St w w' [row 143 2 v' n ((nl (netF hs es co) n).flatMap NI.cells)]) := fun w h => nets_ok w v ve n hs es name co hco h
  generalize netF hs es co = NF at *
  obtain ⟨A, c, rfl, _, _, _⟩ := h.rh.open_
  obtain ⟨Ae, ce, rfl, _, _, _⟩ := h.re.open_
  clear h hl
  have hb := (Below.refl W.heap.size W).alloc (Nat.le_refl _) (.cells #[.string name, .slice Ae n ce, .int .i64 co] 37)
  have HB := Lib.hid hb
  have c0 : (W.alloc (.cells #[.string name, .slice Ae n ce, .int .i64 co] 37)).cell? ⟨W.heap.size, 0, none⟩ = some (.string name) := by simp
  have c1 : (W.alloc (.cells #[.string name, .slice Ae n ce, .int .i64 co] 37)).cell? ⟨W.heap.size, 1, none⟩ = some (.slice Ae n ce) := by simp
  have c2 : (W.alloc (.cells #[.string name, .slice Ae n ce, .int .i64 co] 37)).cell? ⟨W.heap.size, 2, none⟩ = some (.int .i64 co) := by simp
  have HE1 := Lib.hid (HE.out.later hb)
  clear hb
  go_enter Tryz.func80, Tryz.ntmps80
  go_wp2_with fail
  generalize W.alloc (.cells #[.string name, .slice Ae n ce, .int .i64 co] 37) = W1 at *
  generalize W.heap.size = gc at c0 c1 c2 ⊢
  have hlt := World.block_lt_of_cell? _ _ c1
  go_at_call 111
  refine (HCP.out _ HE1.out).mono ?_
  rintro e W2 ⟨rfl, hb1⟩
  have d0 := (hb1.cell (p := ⟨gc, 0, none⟩) hlt).trans c0
  have d1 := (hb1.cell (p := ⟨gc, 1, none⟩) hlt).trans c1
  have d2 := (hb1.cell (p := ⟨gc, 2, none⟩) hlt).trans c2
  have HE2 := Lib.hid (HE1.out.later hb1)
  have HB1 := Lib.hid (HB.out.trans (hb1.mono HB.out.size))
  clear c0 c1 c2 hb1 HE1 HB hlt
  go_wp2_with fail
  go_at_call 85
  refine (HNT.out _ HE2.out).mono ?_
  rintro e w3 ⟨vn, rfl, S⟩
  have S2 := (St.of_below HB1.out).call S
  simp only [List.nil_append] at S2
  have HA := Lib.hid (all_any w3 vn n NF (S2.row_rd (i := 0) rfl).now)
  obtain ⟨bn, cn, rfl⟩ := row_some2 S2 (i := 0) rfl (by omega)
  have HS := Lib.hid S2
  clear S S2 d0 d1 d2 HCP HNT HE2
  go_wp2_with (first
    | (go_at_call 112; refine HA.out.mono ?_; rintro e w' ⟨rfl, hb2⟩; have HB2 := Lib.hid hb2; clear hb2)
    | (go_at_call 62; refine (formatWhen_any _ _ _).mono ?_; rintro e w' ⟨rfl, rfl⟩))
  go_ret2
  exact ⟨_, rfl, HS.out.ext HB2.out⟩
set_option maxRecDepth 100000 in
set_option maxHeartbeats 4000000 in
theorem score_any (W : World) (v ve : Value) (n : Nat) (hs : List HI) (es : List EI) (name : ByteArray) (co : Int) (hco : -99 ≤ co ∧ co ≤ 99) (h : CEnv W v ve n hs es name) :
    Calls Tryz.prog 33 #[v, .agg #[.string name, ve, .int .i64 co]] W fun e w' => e = .returned (.tuple #[.int .i64 (if allO (netF hs es co) n then sumTo (fun i => (netF hs es co i).s) n else 0), .int .i64 (whenE (!allO (netF hs es co) n) 7)]) ∧ Below W.heap.size W w' := by
  have HE := Lib.hid h
  have hl := h.len
  have hn := h.gh.len
  rw [← hl] at hn
  have HSC : Hid (∀ w, CEnv w v ve n hs es name → Calls Tryz.prog 80 #[v, .agg #[.string name, ve, .int .i64 co]] w fun e w' => ∃ v', e = .returned (.tuple #[v', .int .i64 (whenE (!allO (netF hs es co) n) 7)]) ∧ St w w' [row 143 2 v' n ((nl (netF hs es co) n).flatMap NI.cells)]) := fun w h => scored_any w v ve n hs es name co hco h
  have HBD : Hid (∀ i, i < n → -200 ≤ (netF hs es co i).s ∧ (netF hs es co i).s ≤ 200) := net_bd h hco
  generalize netF hs es co = NF at *
  generalize hSM : sumTo (fun i => (NF i).s) n = SM
  have HQ := Lib.hid hSM
  clear hSM
  obtain ⟨A, c, rfl, _, _, _⟩ := h.rh.open_
  obtain ⟨Ae, ce, rfl, _, _, _⟩ := h.re.open_
  clear h hl
  have hb := (Below.refl W.heap.size W).alloc (Nat.le_refl _) (.cells #[.string name, .slice Ae n ce, .int .i64 co] 37)
  have HB := Lib.hid hb
  have HE1 := Lib.hid (HE.out.later hb)
  clear hb
  generalize hbo : allO NF n = bo at *
  clear hbo
  cases bo
  · have HSC2 : Hid (∀ w, CEnv w (.slice A n c) (.slice Ae n ce) n hs es name → Calls Tryz.prog 80 #[.slice A n c, .agg #[.string name, .slice Ae n ce, .int .i64 co]] w fun e w' => ∃ v', e = .returned (.tuple #[v', .int .i64 7]) ∧ St w w' [row 143 2 v' n ((nl NF n).flatMap NI.cells)]) := HSC.out
    clear HSC
    go_enter Tryz.func33, Tryz.ntmps33
    go_wp2_with fail
    generalize W.alloc (.cells #[.string name, .slice Ae n ce, .int .i64 co] 37) = W1 at *
    generalize W.heap.size = gc
    go_at_call 80
    refine (HSC2.out _ HE1.out).mono ?_
    rintro e W2 ⟨vn, rfl, S⟩
    have S2 := (St.of_below HB.out).call S
    simp only [List.nil_append] at S2
    obtain ⟨bn, cn, rfl⟩ := row_some2 S2 (i := 0) rfl (by omega)
    have HS := Lib.hid S2
    clear S S2 HE1 HB
    go_wp2_with fail
    go_ret2
    exact ⟨rfl, HS.out.bel⟩
  · have HSC2 : Hid (∀ w, CEnv w (.slice A n c) (.slice Ae n ce) n hs es name → Calls Tryz.prog 80 #[.slice A n c, .agg #[.string name, .slice Ae n ce, .int .i64 co]] w fun e w' => ∃ v', e = .returned (.tuple #[v', .int .i64 0]) ∧ St w w' [row 143 2 v' n ((nl NF n).flatMap NI.cells)]) := HSC.out
    clear HSC
    go_enter Tryz.func33, Tryz.ntmps33
    go_wp2_with fail
    generalize W.alloc (.cells #[.string name, .slice Ae n ce, .int .i64 co] 37) = W1 at *
    generalize W.heap.size = gc
    go_at_call 80
    refine (HSC2.out _ HE1.out).mono ?_
    rintro e W2 ⟨vn, rfl, S⟩
    have S2 := (St.of_below HB.out).call S
    simp only [List.nil_append] at S2
    have HSM := sumN_ok W2 vn n NF (S2.row_rd (i := 0) rfl).now hn.2 HBD.out
    rw [HQ.out] at HSM
    have HSM := Lib.hid HSM
    obtain ⟨bn, cn, rfl⟩ := row_some2 S2 (i := 0) rfl (by omega)
    have HS := Lib.hid S2
    clear S S2 HE1 HB
    go_wp2_with (go_at_call 81; refine HSM.out.mono ?_; rintro e w' ⟨rfl, hb2⟩; have HB2 := Lib.hid hb2; clear hb2)
    go_ret2
    exact ⟨rfl, (HS.out.ext HB2.out).bel⟩
end Go.Proofs.YtkkkfjinflepmaaGreatDoor
/- Chapter 5: niblickref01.SameInts. -/
namespace Go.Proofs.YtkkkfjinflepmaaGreatDoor
open Go.RowKit Go.Mem Go.Sheet Go.Adj
set_option maxHeartbeats 400000 in
theorem sameInts_any (w : World) (F F' : Nat → Prop) (va vb : Value) (a b : List Int) (ha : Rd w F 1 va a.length (a.map (Value.int .i64))) (hb : Rd w F' 1 vb b.length (b.map (Value.int .i64))) :
    Calls Tryz.prog 36 #[va, vb] w fun r w' => r = .returned (.bool (decide (a = b))) ∧ ∃ n, w' = w.drewN n := by
  generalize HL : a.length = n at *
  generalize HM : b.length = m at *
  have hn := ha.le
  have hm := hb.le
  obtain ⟨A, c, rfl, _, _, ha⟩ := ha.open_
  obtain ⟨A', c', rfl, _, _, hb⟩ := hb.open_
  have HL := Lib.hid HL
  have HM := Lib.hid HM
  go_enter Tryz.func36, Tryz.ntmps36
  by_cases hnm : n = m
  · subst hnm
    go_wp2
    go_loopw [5] (fun i w' => ∃ (k q : Nat), k ≤ n ∧ i = .int .i64 k ∧ w' = w.drewN q ∧ Hid (∀ j, j < k → a[j]? = b[j]?)) (fun i _ => n - (intOf i).toNat)
    case atStart => exact ⟨0, 0, Nat.zero_le _, rfl, rfl, fun j hj => by omega⟩
    case round =>
      obtain ⟨k, q, hk, rfl, rfl, he⟩ := hrel
      by_cases hlt : k < n
      · obtain ⟨b1, o, x, rfl, hx, hc⟩ := ha.int hlt
        obtain ⟨b2, o2, y, rfl, hy, hd⟩ := hb.int hlt
        have HX := Lib.hid hx
        have HY := Lib.hid hy
        clear hx hy
        go_wp2_with fail
        go_quiet (fail)
        go_wp2
        · go_ret
          exact ⟨ret_bool (by
            have hne : x ≠ y := by simpa using ‹(x != y) = true›
            rw [eq_comm, decide_eq_false_iff_not]
            rintro rfl
            exact hne (Option.some.inj (HX.out.symm.trans HY.out))), _, World.drewN_drewN _ _ _⟩
        · go_roundw
          case rel => exact ⟨k + 1, _, by omega, by go_num, rfl, fun j hj => by
            by_cases e : j = k
            · subst e; rw [HX.out, HY.out, show x = y by simpa using ‹(x != y) = false›]
            · exact he.out j (by omega)⟩
          case measure => simp [intOf]; omega
      · go_wp2
        go_ret
        exact ⟨ret_bool (by
          rw [eq_comm, decide_eq_true_iff]
          refine List.ext_getElem? fun j => ?_
          by_cases hj : j < k
          · exact he.out j hj
          · rw [List.getElem?_eq_none (by have := HL.out; omega), List.getElem?_eq_none (by have := HM.out; omega)]), q, rfl⟩
  · have hne : ((n : Int) != (m : Int)) = true := by simp; omega
    have HNE := Lib.hid hnm
    clear hnm
    go_wp2
    go_ret
    exact ⟨ret_bool (by
      rw [eq_comm, decide_eq_false_iff_not]
      rintro rfl
      exact HNE.out (HL.out.symm.trans HM.out)), 0, rfl⟩
end Go.Proofs.YtkkkfjinflepmaaGreatDoor
/- The fixed example of the Divot laws: its parts. -/
namespace Go.Proofs.YtkkkfjinflepmaaGreatDoor
open Go.RowKit Go.Mem Go.Sheet Go.Adj
set_option maxRecDepth 100000 in
set_option maxHeartbeats 4000000 in
theorem sameNames_yes (w : World) (F F' : Nat → Prop) (va vb : Value) (n : Nat) (l : List ByteArray) (ha : Rd w F 1 va n (l.map Value.string)) (hb : Rd w F' 1 vb n (l.map Value.string)) :
    Calls Tryz.prog 23 #[va, vb] w fun r w' => r = .returned (.bool true) ∧ ∃ q, w' = w.drewN q := by
  have hn := ha.le
  obtain ⟨A, c, rfl, _, _, ha⟩ := ha.open_
  obtain ⟨A', c', rfl, _, _, hb⟩ := hb.open_
  have HA := Lib.hid ha
  have HB := Lib.hid hb
  clear ha hb
  have t0 : (((n : Nat) : Int) != (n : Int)) = false := by simp
  go_enter Tryz.func23, Tryz.ntmps23
  go_wp2_with fail
  go_loopw [5] (fun i w' => ∃ (k q : Nat), k ≤ n ∧ i = .int .i64 k ∧ w' = w.drewN q) (fun i _ => n - (intOf i).toNat)
  case atStart => exact ⟨0, 0, Nat.zero_le _, rfl, rfl⟩
  case round =>
    obtain ⟨k, q, hk, rfl, rfl⟩ := hrel
    by_cases hlt : k < n
    · obtain ⟨b1, o1, x, hA, _, hx, c0⟩ := HA.out.at_ hlt
      obtain ⟨b2, o2, y, hA', _, hy, c1⟩ := HB.out.at_ hlt
      subst hA
      subst hA'
      rw [hx] at hy
      cases hy
      rw [List.getElem?_map, Option.map_eq_some_iff] at hx
      obtain ⟨s, _, rfl⟩ := hx
      go_wp2_with fail
      go_quiet (fail)
      all_goals
        go_wp2_with fail
        go_roundw
        case rel => exact ⟨k + 1, _, by omega, by go_num, rfl⟩
        case measure => simp [intOf]; omega
    · obtain rfl : n = k := by omega
      go_wp2_with fail
      go_ret
      exact ⟨rfl, _, rfl⟩
def hsD : List HI := [⟨4, 2⟩, ⟨3, 3⟩, ⟨5, 1⟩]
def esD (a b c : Int) : List EI := [⟨a, ⟨#[]⟩⟩, ⟨b, ⟨#[]⟩⟩, ⟨c, ⟨#[]⟩⟩]
set_option maxRecDepth 100000 in
set_option maxHeartbeats 4000000 in
theorem divotHoles_ok (w : World) : Calls Tryz.prog 34 #[] w fun e w' => ∃ v', e = .returned v' ∧ St w w' [row 147 2 v' 3 (hsD.flatMap HI.cells)] := by
  have S := (St.refl w).row_new (e := 147) (size := 2) (n := 3) #[.int .i64 4, .int .i64 2, .int .i64 3, .int .i64 3, .int .i64 5, .int .i64 1] (by decide) rfl
  simp only [List.nil_append] at S
  have HS := Lib.hid S
  clear S
  go_enter Tryz.func34, Tryz.ntmps34
  go_wp2_with fail
  go_ret
  exact ⟨_, rfl, HS.out⟩
theorem res_card (tmps : Array Value) (w : World) (g : Nat) (a b c : Value) (h2 : tmps.getD 8 undef = .pointer (some ⟨g, 0, none⟩)) (c0 : w.cell? ⟨g, 0, none⟩ = some a) (c1 : w.cell? ⟨g, 1, none⟩ = some b) (c2 : w.cell? ⟨g, 2, none⟩ = some c) : (results Tryz.f32 tmps).run Tryz.prog w = .ok (.agg #[a, b, c]) w := by
  have e2 : tmps[8]?.getD undef = .pointer (some ⟨g, 0, none⟩) := by simpa using h2
  simp [results, Tryz.results32, e2, c0, c1, c2, go_sem]
set_option maxRecDepth 100000 in
set_option maxHeartbeats 4000000 in
theorem divotCard_ok (w : World) (s : ByteArray) (a b c : Int) : Calls Tryz.prog 32 #[.string s, .int .i64 a, .int .i64 b, .int .i64 c] w fun e w' => ∃ g, e = .returned (.agg #[.string s, .slice (some ⟨g, 0, none⟩) 3 3, .int .i64 0]) ∧
    St w w' [row 138 2 (.slice (some ⟨g, 0, none⟩) 3 3) 3 ((esD a b c).flatMap EI.cells)] := by
  have S := ((St.refl w).blk_new #[.string s, .slice (some ⟨w.heap.size + 1, 0, none⟩) 3 3, .int .i64 0] 37).row_new (e := 138) (size := 2) (n := 3) #[.int .i64 a, .string ⟨#[]⟩, .int .i64 b, .string ⟨#[]⟩, .int .i64 c, .string ⟨#[]⟩] (by decide) rfl
  simp only [List.cons_append, List.nil_append, World.size_alloc] at S
  have HS := Lib.hid S
  have d0 := S.blk_cell (i := 0) rfl 0
  have d1 := S.blk_cell (i := 0) rfl 1
  have d2 := S.blk_cell (i := 0) rfl 2
  clear S
  go_enter Tryz.func32, Tryz.ntmps32
  go_wp2_with fail
  refine bodyPost_ret (res_card _ _ _ _ _ _ rfl d0 d1 d2) rfl ?_
  exact ⟨_, rfl, HS.out.sub (L' := [_]) (.cons _ (List.Sublist.refl _))⟩
def annD : ByteArray := ⟨#[97, 110, 110]⟩
def bobD : ByteArray := ⟨#[98, 111, 98]⟩
theorem goodHD : GoodH hsD := ⟨by decide, by decide, by decide, fun i k hi hk => by
  have h3 : hsD.length = 3 := rfl
  have : (i = 1 ∧ k = 0) ∨ (i = 2 ∧ k = 0) ∨ (i = 2 ∧ k = 1) := by omega
  rcases this with ⟨rfl, rfl⟩ | ⟨rfl, rfl⟩ | ⟨rfl, rfl⟩ <;> decide⟩
theorem goodED (a b c : Int) (h : (1 ≤ a ∧ a ≤ 5) ∧ (1 ≤ b ∧ b ≤ 5) ∧ (1 ≤ c ∧ c ≤ 5)) : ∀ i, i < 3 → GoodE (eAt (esD a b c) i)
  | 0, _ => .inl ⟨.inl rfl, by show 1 ≤ a; omega, by show a ≤ _; omega⟩
  | 1, _ => .inl ⟨.inl rfl, by show 1 ≤ b; omega, by show b ≤ _; omega⟩
  | 2, _ => .inl ⟨.inl rfl, by show 1 ≤ c; omega, by show c ≤ _; omega⟩
  | n + 3, h => by omega
theorem annOk : nameB annD = true := by decide
theorem bobOk : nameB bobD = true := by decide
theorem scoreA : allO (netF hsD (esD 4 4 4) 0) 3 = true ∧ sumTo (fun i => (netF hsD (esD 4 4 4) 0 i).s) 3 = 12 := by decide +kernel
theorem scoreB : allO (netF hsD (esD 4 3 5) 0) 3 = true ∧ sumTo (fun i => (netF hsD (esD 4 3 5) 0 i).s) 3 = 12 := by decide +kernel
theorem matD : matF (netF hsD (esD 4 4 4) 0) (netF hsD (esD 4 3 5) 0) 3 = [⟨0, 2, false⟩, ⟨-1, 1, false⟩, ⟨0, 0, true⟩] := by decide +kernel
def fD (i : Nat) : ByteArray := if i = 0 then annD else bobD
theorem goodND : GoodNs fD 2 := ⟨fun i hi => by
  have : i = 0 ∨ i = 1 := by omega
  rcases this with rfl | rfl <;> exact ⟨by decide, by decide⟩, fun i j hi hj => by
  obtain ⟨rfl, rfl⟩ : i = 1 ∧ j = 0 := by omega
  decide⟩
def gD (i : Nat) : Int := if i = 0 then 101 else 50
theorem goodPD : GoodPu gD 2 := ⟨fun i hi => by
  have : i = 0 ∨ i = 1 := by omega
  rcases this with rfl | rfl <;> decide, fun i hi => by
  obtain rfl : i = 0 := by omega
  decide, by decide⟩
theorem prizeD (A1 A2 : Option Addr) (c1 c2 : Nat) : gl (prizeF (rkN [⟨annD, A1, c1, 12⟩, ⟨bobD, A2, c2, 12⟩]) 2 gD 2) 2 = [76, 75] := by kernel_rfl
theorem sharesD : gl (shareF 2 151) 2 = [76, 75] := by decide +kernel
def SD0 (i : Nat) : List (Option Nat) := if i = 0 then slotL 2 else [some 0]
theorem runD : RunOk 2 1 SD0 (fun _ => [1]) := by
  refine ⟨fun i hi => ?_, fun i hi => ?_, fun i hi => ?_, fun i hi => ?_, fun i hi => ?_⟩ <;> obtain rfl : i = 0 := by omega
  · refine ⟨1, by decide +kernel, by decide +kernel, by decide +kernel, fun j hj => ?_⟩
    obtain rfl : j = 0 := by omega
    decide +kernel
  · decide +kernel
  · decide +kernel
  · decide +kernel
  · decide +kernel
end Go.Proofs.YtkkkfjinflepmaaGreatDoor
