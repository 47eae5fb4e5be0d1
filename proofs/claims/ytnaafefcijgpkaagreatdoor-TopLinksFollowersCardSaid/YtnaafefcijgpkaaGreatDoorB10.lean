/- Part 10 of the walks of the golf union's program: LP6, DT4, L1p. -/
import Derived.Test.YtnaafefcijgpkaaGreatDoorB08
import Derived.Test.YtnaafefcijgpkaaGreatDoorB09
import Derived.Test.YtnaafefcijgpkaaGreatDoorB07
import Derived.Test.YtnaafefcijgpkaaGreatDoorB02
set_option linter.unusedVariables false
set_option linter.unusedSimpArgs false
set_option linter.unusedSectionVars false
set_option linter.constructorNameAsVariable false
/- Chapter 5: all, of any net strokes. -/
namespace Go.Proofs.YtnaafefcijgpkaaGreatDoor
open Go.RowKit Go.Mem Go.Sheet Go.Adj
def allO (NF : Nat → NI) : Nat → Bool
  | 0 => true
  | k + 1 => allO NF k && isO (NF k).x
theorem isO_iff (x : MK) : isO x = true ↔ x = .o := by cases x <;> simp [isO]
theorem allO_iff (NF : Nat → NI) (n : Nat) : allO NF n = true ↔ ∀ i, i < n → (NF i).x = .o := by
  induction n with
  | zero => simp [allO]
  | succ k ih =>
    rw [allO, Bool.and_eq_true, ih, isO_iff]
    constructor
    · rintro ⟨h1, h2⟩ i hi
      by_cases e : i = k
      · subst e; exact h2
      · exact h1 i (by omega)
    · intro h
      exact ⟨fun i hi => h i (by omega), h k (by omega)⟩
theorem allO_no {NF : Nat → NI} {n k : Nat} (hk : k < n) (h : isO (NF k).x = false) : allO NF n = false := by
  cases e : allO NF n with
  | false => rfl
  | true =>
    have := (allO_iff NF n).1 e k hk
    rw [this] at h
    cases h
set_option maxRecDepth 100000 in
set_option maxHeartbeats 4000000 in
theorem idxN_any (W : World) (v : Value) (n : Nat) (NF : Nat → NI) (h : Rd W (· < W.heap.size) 2 v n ((nl NF n).flatMap NI.cells)) :
    Calls Tryz.prog 116 #[v, .func (.func 95) #[] #[]] W fun e w' => ∃ i : Int, e = .returned (.int .i64 i) ∧ Hid (decide (0 ≤ i) = !allO NF n) ∧ Below W.heap.size W w' := by
  have H := Lib.hid h
  have hn := h.le
  have HNO : Hid (∀ k, k < n → isO (NF k).x = false → allO NF n = false) := fun k hk h => allO_no hk h
  obtain ⟨A, c, rfl, _, _, _⟩ := h.open_
  clear h
  go_enter Tryz.func116, Tryz.ntmps116
  go_wp2
  go_loopw [8] (fun i w' => ∃ k : Nat, k ≤ n ∧ i = .int .i64 k ∧ Hid (allO NF k = true) ∧ Below W.heap.size W w') (fun i _ => n - (intOf i).toNat)
  case atStart => exact ⟨0, Nat.zero_le _, rfl, rfl, Below.refl _ _⟩
  case round =>
    obtain ⟨k, hk, rfl, ha, hbw⟩ := hrel
    by_cases hlt : k < n
    · obtain ⟨b, o, x, rfl, hx, c0, c1⟩ := net_elem (H.out.below hbw) hlt
      have hxe : NF k = x := Option.some.inj ((nl_at NF hlt).symm.trans hx)
      have hno := HNO.out k hlt
      have hsu : allO NF (k + 1) = (allO NF k && isO (NF k).x) := rfl
      rw [hxe] at hno hsu
      obtain ⟨xs, xx⟩ := x
      simp only at c0 c1 hno hsu
      have HC : Hid (∀ w, Calls Tryz.prog 95 #[.agg #[.int .i64 xs, .string (mkN xx)]] w fun r w' => r = .returned (.bool (!isO xx)) ∧ Below w.heap.size w w') := fun w => all1_any xs xx w
      generalize mkN xx = xm at *
      generalize isO xx = bx at *
      have HBW := Lib.hid hbw
      have HSU := Lib.hid hsu
      have HN := Lib.hid hno
      clear hx hbw hxe hsu hno
      cases bx
      · go_wp2_with (go_at_call 95; refine (HC.out _).mono ?_; rintro e w' ⟨rfl, hb2⟩; have HB2 := Lib.hid hb2; clear hb2)
        go_ret
        exact ⟨_, rfl, Lib.hid (by rw [HN.out (by trivial)]; simp), HBW.out.trans (HB2.out.mono HBW.out.size)⟩
      · go_wp2_with (go_at_call 95; refine (HC.out _).mono ?_; rintro e w' ⟨rfl, hb2⟩; have HB2 := Lib.hid hb2; clear hb2)
        go_roundw
        case rel => exact ⟨k + 1, by omega, by go_num, Lib.hid (by rw [HSU.out, ha.out]; rfl), HBW.out.trans (HB2.out.mono HBW.out.size)⟩
        case measure => simp [intOf]; omega
    · have HBW := Lib.hid hbw
      clear hbw
      obtain rfl : k = n := by omega
      go_wp2
      go_ret
      exact ⟨_, rfl, Lib.hid (by rw [ha.out]; rfl), HBW.out⟩
set_option maxRecDepth 100000 in
set_option maxHeartbeats 4000000 in
theorem all_any (W : World) (v : Value) (n : Nat) (NF : Nat → NI) (h : Rd W (· < W.heap.size) 2 v n ((nl NF n).flatMap NI.cells)) :
    Calls Tryz.prog 64 #[v] W fun e w' => e = .returned (.bool (allO NF n)) ∧ Below W.heap.size W w' := by
  have HI := Lib.hid (idxN_any W v n NF h)
  obtain ⟨A, c, rfl, _, _, _⟩ := h.open_
  clear h
  generalize allO NF n = bo at *
  have HC : Hid (Calls Tryz.prog 94 #[.slice A n c, .func (.func 95) #[] #[]] W fun e w' => e = .returned (.bool (!bo)) ∧ Below W.heap.size W w') := by
    show Calls _ _ _ _ _
    go_enter Tryz.func94, Tryz.ntmps94
    go_wp2_with fail
    go_at_call 116
    refine HI.out.mono ?_
    rintro e w' ⟨i, rfl, hi, hb2⟩
    have HB2 := Lib.hid hb2
    have hi2 := hi.out
    clear hb2 HI
    go_wp2
    go_ret
    exact ⟨rfl, HB2.out⟩
  go_enter Tryz.func64, Tryz.ntmps64
  go_wp2_with (go_at_call 94; refine HC.out.mono ?_; rintro e w' ⟨rfl, hb2⟩; have HB2 := Lib.hid hb2; clear hb2)
  go_ret
  exact ⟨ret_bool (by simp), HB2.out⟩
end Go.Proofs.YtnaafefcijgpkaaGreatDoor
/- Chapter 5: Score, with ErrNone (as in LT4). -/
namespace Go.Proofs.YtnaafefcijgpkaaGreatDoor
open Go.RowKit Go.Mem Go.Sheet Go.Adj
theorem net_bd {W : World} {v ve : Value} {n : Nat} {hs : List HI} {es : List EI} {name : ByteArray} {co : Int} (h : CEnv W v ve n hs es name) (hco : -99 ≤ co ∧ co ≤ 99) : ∀ i, i < n → -200 ≤ (netF hs es co i).s ∧ (netF hs es co i).s ≤ 200 := fun i hi => by
  have h1 := good_bd (h.ge i hi)
  have h2 := giv_bd h.gh.len hco i
  unfold netF
  split
  · show -200 ≤ (0 : Int) ∧ (0 : Int) ≤ 200; omega
  · split
    · show -200 ≤ (0 : Int) ∧ (0 : Int) ≤ 200; omega
    · show -200 ≤ _ - _ ∧ _ - _ ≤ 200
      omega
set_option maxRecDepth 100000 in
set_option maxHeartbeats 4000000 in
theorem scored_any (W : World) (v ve : Value) (n : Nat) (hs : List HI) (es : List EI) (name : ByteArray) (co : Int) (hco : -99 ≤ co ∧ co ≤ 99) (h : CEnv W v ve n hs es name) :
    Calls Tryz.prog 26 #[v, .agg #[.string name, ve, .int .i64 co]] W fun e w' => ∃ v', e = .returned (.tuple #[v', .int .i64 (whenE (!allO (netF hs es co) n) 7)]) ∧ St W w' [row 99 2 v' n ((nl (netF hs es co) n).flatMap NI.cells)] := by
  have HE := Lib.hid h
  have hl := h.len
  have hn := h.gh.len
  rw [← hl] at hn
  have HCP : Hid (∀ w, CEnv w v ve n hs es name → Calls Tryz.prog 61 #[v, .agg #[.string name, ve, .int .i64 co]] w fun e w' => e = .returned (.int .i64 0) ∧ Below w.heap.size w w') := fun w h => checkPlayer_ok w v ve n hs es name co hco h
  have HNT : Hid (∀ w, CEnv w v ve n hs es name → Calls Tryz.prog 62 #[.agg #[.string name, ve, .int .i64 co], v] w fun e w' => ∃ v', e = .returned v' ∧ St w w' [row 99 2 v' n ((nl (netF hs es co) n).flatMap NI.cells)]) := fun w h => nets_ok w v ve n hs es name co hco h
  generalize netF hs es co = NF at *
  obtain ⟨A, c, rfl, _, _, _⟩ := h.rh.open_
  obtain ⟨Ae, ce, rfl, _, _, _⟩ := h.re.open_
  clear h hl
  have hb := (Below.refl W.heap.size W).alloc (Nat.le_refl _) (.cells #[.string name, .slice Ae n ce, .int .i64 co] 54)
  have HB := Lib.hid hb
  have c0 : (W.alloc (.cells #[.string name, .slice Ae n ce, .int .i64 co] 54)).cell? ⟨W.heap.size, 0, none⟩ = some (.string name) := by simp
  have c1 : (W.alloc (.cells #[.string name, .slice Ae n ce, .int .i64 co] 54)).cell? ⟨W.heap.size, 1, none⟩ = some (.slice Ae n ce) := by simp
  have c2 : (W.alloc (.cells #[.string name, .slice Ae n ce, .int .i64 co] 54)).cell? ⟨W.heap.size, 2, none⟩ = some (.int .i64 co) := by simp
  have HE1 := Lib.hid (HE.out.later hb)
  clear hb
  go_enter Tryz.func26, Tryz.ntmps26
  go_wp2_with fail
  generalize W.alloc (.cells #[.string name, .slice Ae n ce, .int .i64 co] 54) = W1 at *
  generalize W.heap.size = gc at c0 c1 c2 ⊢
  have hlt := World.block_lt_of_cell? _ _ c1
  go_at_call 61
  refine (HCP.out _ HE1.out).mono ?_
  rintro e W2 ⟨rfl, hb1⟩
  have d0 := (hb1.cell (p := ⟨gc, 0, none⟩) hlt).trans c0
  have d1 := (hb1.cell (p := ⟨gc, 1, none⟩) hlt).trans c1
  have d2 := (hb1.cell (p := ⟨gc, 2, none⟩) hlt).trans c2
  have HE2 := Lib.hid (HE1.out.later hb1)
  have HB1 := Lib.hid (HB.out.trans (hb1.mono HB.out.size))
  clear c0 c1 c2 hb1 HE1 HB hlt
  go_wp2_with fail
  go_at_call 62
  refine (HNT.out _ HE2.out).mono ?_
  rintro e w3 ⟨vn, rfl, S⟩
  have S2 := (St.of_below HB1.out).call S
  simp only [List.nil_append] at S2
  have HA := Lib.hid (all_any w3 vn n NF (S2.row_rd (i := 0) rfl).now)
  obtain ⟨bn, cn, rfl⟩ := row_some2 S2 (i := 0) rfl (by omega)
  have HS := Lib.hid S2
  clear S S2 d0 d1 d2 HCP HNT HE2
  go_wp2_with (first
    | (go_at_call 64; refine HA.out.mono ?_; rintro e w' ⟨rfl, hb2⟩; have HB2 := Lib.hid hb2; clear hb2)
    | (go_at_call 63; refine (formatWhen_any _ _ _).mono ?_; rintro e w' ⟨rfl, rfl⟩))
  go_ret2
  exact ⟨_, rfl, HS.out.ext HB2.out⟩
set_option maxRecDepth 100000 in
set_option maxHeartbeats 4000000 in
theorem score_any (W : World) (v ve : Value) (n : Nat) (hs : List HI) (es : List EI) (name : ByteArray) (co : Int) (hco : -99 ≤ co ∧ co ≤ 99) (h : CEnv W v ve n hs es name) :
    Calls Tryz.prog 11 #[v, .agg #[.string name, ve, .int .i64 co]] W fun e w' => e = .returned (.tuple #[.int .i64 (if allO (netF hs es co) n then sumTo (fun i => (netF hs es co i).s) n else 0), .int .i64 (whenE (!allO (netF hs es co) n) 7)]) ∧ Below W.heap.size W w' := by
  have HE := Lib.hid h
  have hl := h.len
  have hn := h.gh.len
  rw [← hl] at hn
  have HSC : Hid (∀ w, CEnv w v ve n hs es name → Calls Tryz.prog 26 #[v, .agg #[.string name, ve, .int .i64 co]] w fun e w' => ∃ v', e = .returned (.tuple #[v', .int .i64 (whenE (!allO (netF hs es co) n) 7)]) ∧ St w w' [row 99 2 v' n ((nl (netF hs es co) n).flatMap NI.cells)]) := fun w h => scored_any w v ve n hs es name co hco h
  have HBD : Hid (∀ i, i < n → -200 ≤ (netF hs es co i).s ∧ (netF hs es co i).s ≤ 200) := net_bd h hco
  generalize netF hs es co = NF at *
  generalize hSM : sumTo (fun i => (NF i).s) n = SM
  have HQ := Lib.hid hSM
  clear hSM
  obtain ⟨A, c, rfl, _, _, _⟩ := h.rh.open_
  obtain ⟨Ae, ce, rfl, _, _, _⟩ := h.re.open_
  clear h hl
  have hb := (Below.refl W.heap.size W).alloc (Nat.le_refl _) (.cells #[.string name, .slice Ae n ce, .int .i64 co] 54)
  have HB := Lib.hid hb
  have HE1 := Lib.hid (HE.out.later hb)
  clear hb
  generalize hbo : allO NF n = bo at *
  clear hbo
  cases bo
  · have HSC2 : Hid (∀ w, CEnv w (.slice A n c) (.slice Ae n ce) n hs es name → Calls Tryz.prog 26 #[.slice A n c, .agg #[.string name, .slice Ae n ce, .int .i64 co]] w fun e w' => ∃ v', e = .returned (.tuple #[v', .int .i64 7]) ∧ St w w' [row 99 2 v' n ((nl NF n).flatMap NI.cells)]) := HSC.out
    clear HSC
    go_enter Tryz.func11, Tryz.ntmps11
    go_wp2_with fail
    generalize W.alloc (.cells #[.string name, .slice Ae n ce, .int .i64 co] 54) = W1 at *
    generalize W.heap.size = gc
    go_at_call 26
    refine (HSC2.out _ HE1.out).mono ?_
    rintro e W2 ⟨vn, rfl, S⟩
    have S2 := (St.of_below HB.out).call S
    simp only [List.nil_append] at S2
    obtain ⟨bn, cn, rfl⟩ := row_some2 S2 (i := 0) rfl (by omega)
    have HS := Lib.hid S2
    clear S S2 HE1 HB
    go_wp2_with fail
    go_ret2
    exact ⟨rfl, HS.out.bel⟩
  · have HSC2 : Hid (∀ w, CEnv w (.slice A n c) (.slice Ae n ce) n hs es name → Calls Tryz.prog 26 #[.slice A n c, .agg #[.string name, .slice Ae n ce, .int .i64 co]] w fun e w' => ∃ v', e = .returned (.tuple #[v', .int .i64 0]) ∧ St w w' [row 99 2 v' n ((nl NF n).flatMap NI.cells)]) := HSC.out
    clear HSC
    go_enter Tryz.func11, Tryz.ntmps11
    go_wp2_with fail
    generalize W.alloc (.cells #[.string name, .slice Ae n ce, .int .i64 co] 54) = W1 at *
    generalize W.heap.size = gc
    go_at_call 26
    refine (HSC2.out _ HE1.out).mono ?_
    rintro e W2 ⟨vn, rfl, S⟩
    have S2 := (St.of_below HB.out).call S
    simp only [List.nil_append] at S2
    have HSM := sumN_ok W2 vn n NF (S2.row_rd (i := 0) rfl).now hn.2 HBD.out
    rw [HQ.out] at HSM
    have HSM := Lib.hid HSM
    obtain ⟨bn, cn, rfl⟩ := row_some2 S2 (i := 0) rfl (by omega)
    have HS := Lib.hid S2
    clear S S2 HE1 HB
    go_wp2_with (go_at_call 27; refine HSM.out.mono ?_; rintro e w' ⟨rfl, hb2⟩; have HB2 := Lib.hid hb2; clear hb2)
    go_ret2
    exact ⟨rfl, (HS.out.ext HB2.out).bel⟩
end Go.Proofs.YtnaafefcijgpkaaGreatDoor
/- Chapter 5: the points of a hole. -/
namespace Go.Proofs.YtnaafefcijgpkaaGreatDoor
open Go.RowKit Go.Mem Go.Sheet Go.Adj
def ptN (s : Int) (b : MK) (par : Int) : Int := if isO b then max 0 (2 + par - s) else 0
theorem points1_any (s : Int) (b : MK) (par : Int) (w : World) (hx : -1000 ≤ s ∧ s ≤ 1000) (hp : -1000 ≤ par ∧ par ≤ 1000) : Calls Tryz.prog 30 #[.agg #[.int .i64 s, .string (mkN b)], .int .i64 par] w fun r w' => r = .returned (.int .i64 (ptN s b par)) ∧ Below w.heap.size w w' := by
  have hb := (Below.refl w.heap.size w).alloc (Nat.le_refl _) (.cells #[.int .i64 s, .string (mkN b)] 99)
  have HC : ∀ w, Calls Tryz.prog 31 #[.agg #[.int .i64 s, .string (mkN b)]] w fun r w' => r = .returned (.bool (isO b)) ∧ Below w.heap.size w w' := fun w => counts_any s b w
  have hc : ∀ w', Below (w.heap.size + 1) (w.alloc (.cells #[.int .i64 s, .string (mkN b)] 99)) w' → w'.cell? ⟨w.heap.size, 0, none⟩ = some (.int .i64 s) := fun w' h => (h.cell (p := ⟨w.heap.size, 0, none⟩) (by simp)).trans (by simp)
  generalize mkN b = m at *
  have HB := Lib.hid hb
  cases b
  · go_enter Tryz.func30, Tryz.ntmps30
    go_wp2_with (go_at_call 31; refine (HC _).mono ?_; rintro e w' ⟨rfl, hb2⟩; have c0 := hc _ (by simpa using hb2))
    all_goals
      go_ret
      exact ⟨ret_i64 (by show _ = max 0 _; omega), HB.out.trans (hb2.mono HB.out.size)⟩
  · go_enter Tryz.func30, Tryz.ntmps30
    go_wp2_with (go_at_call 31; refine (HC _).mono ?_; rintro e w' ⟨rfl, hb2⟩; have c0 := hc _ (by simpa using hb2))
    go_ret
    exact ⟨rfl, HB.out.trans (hb2.mono HB.out.size)⟩
  · go_enter Tryz.func30, Tryz.ntmps30
    go_wp2_with (go_at_call 31; refine (HC _).mono ?_; rintro e w' ⟨rfl, hb2⟩; have c0 := hc _ (by simpa using hb2))
    go_ret
    exact ⟨rfl, HB.out.trans (hb2.mono HB.out.size)⟩
end Go.Proofs.YtnaafefcijgpkaaGreatDoor
