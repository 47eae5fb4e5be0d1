/- slices.SortStableFunc of a short list of numbers. -/
import Derived.Test.YtbakoldmfpbnaaaGreatDoorP1
import Derived.Test.YtbakoldmfpbnaaaGreatDoorB15
set_option linter.unusedVariables false
set_option linter.unusedSimpArgs false
set_option linter.unusedSectionVars false
set_option linter.constructorNameAsVariable false
namespace Go.Proofs.YtbakoldmfpbnaaaGreatDoor
open Go.RowKit Go.Mem Go.Sheet Go.Adj
/-- in order up to i, but for the one at j, which is below all behind it -/
def Srt (O : Int → Int) (Y : Nat → Int) (i j : Nat) : Prop := ∀ a b, a < b → b ≤ i → b ≠ j → O (Y a) ≤ O (Y b)
def swp (Y : Nat → Int) (j : Nat) : Nat → Int := fun a => if a = j then Y (j - 1) else if a + 1 = j then Y j else Y a
theorem Srt.swap {O : Int → Int} {Y : Nat → Int} {i j : Nat} (h : Srt O Y i j) (hj : 1 ≤ j) (hji : j ≤ i) (hl : O (Y j) < O (Y (j - 1))) : Srt O (swp Y j) i (j - 1) := by
  intro a b hab hbi hbj
  unfold swp
  by_cases e : b = j
  · subst e
    rw [if_pos rfl, if_neg (by omega : ¬ a = b)]
    by_cases e2 : a + 1 = b
    · rw [if_pos e2]; omega
    · rw [if_neg e2]; exact h a (b - 1) (by omega) (by omega) (by omega)
  · rw [if_neg e, if_neg (by omega : ¬ b + 1 = j)]
    by_cases e2 : a = j
    · rw [if_pos e2]; exact h (j - 1) b (by omega) hbi e
    · rw [if_neg e2]
      by_cases e3 : a + 1 = j
      · rw [if_pos e3]; exact h j b (by omega) hbi e
      · rw [if_neg e3]; exact h a b hab hbi e
theorem Srt.done {O : Int → Int} {Y : Nat → Int} {i j : Nat} (h : Srt O Y i j) (hl : j = 0 ∨ ¬ O (Y j) < O (Y (j - 1))) : ∀ a b, a < b → b ≤ i → O (Y a) ≤ O (Y b) := by
  intro a b hab hbi
  by_cases e : b = j
  · subst e
    rcases hl with hl | hl
    · omega
    · by_cases e2 : a = b - 1
      · subst e2; omega
      · have := h a (b - 1) (by omega) (by omega) (by omega)
        omega
  · exact h a b hab hbi e
theorem gl_swp (Y : Nat → Int) {q j : Nat} (hj : 1 ≤ j) (hq : j < q) : ((intsI (gl Y q)).set j (.int .i64 (Y (j - 1)))).set (j - 1) (.int .i64 (Y j)) = intsI (gl (swp Y j) q) := by
  apply List.ext_getElem?
  intro a
  unfold intsI gl swp
  simp only [List.getElem?_set, List.getElem?_map, List.length_set, List.length_map, List.length_range]
  by_cases h1 : j - 1 = a
  · have h2 : ¬ a = j := by omega
    have h3 : a + 1 = j := by omega
    rw [if_pos h1, if_pos (by omega), List.getElem?_range (by omega)]
    simp only [Option.map_some, if_neg h2, if_pos h3]
  · rw [if_neg h1]
    by_cases h2 : j = a
    · rw [if_pos h2, if_pos hq, ← h2, List.getElem?_range (by omega)]
      simp
    · rw [if_neg h2]
      by_cases h3 : a < q
      · rw [List.getElem?_range h3]
        simp only [Option.map_some]
        rw [if_neg (by omega), if_neg (by omega)]
      · rw [List.getElem?_eq_none (by simp; omega)]
        rfl
/-- the numbers stay those that they were -/
def Mem0 (P : Int → Prop) (Y : Nat → Int) (q : Nat) : Prop := ∀ a, a < q → P (Y a)
theorem Mem0.swap {P : Int → Prop} {Y : Nat → Int} {q j : Nat} (h : Mem0 P Y q) (hj : 1 ≤ j) (hq : j < q) : Mem0 P (swp Y j) q := by
  intro a ha
  unfold swp
  split
  · exact h _ (by omega)
  · split
    · exact h _ hq
    · exact h _ ha
set_option maxRecDepth 100000 in
set_option maxHeartbeats 4000000 in
theorem insSort_any (W w : World) (L : List Asr) (k0 gp g c q : Nat) (O : Int → Int) (P : Int → Prop) (Y : Nat → Int) (hq : q ≤ 20) (S : St W w L) (hL : L[k0]? = some (row 3 1 (.slice (some ⟨g, 0, none⟩) q c) q (intsI (gl Y q)))) (hP : Mem0 P Y q)
    (hC : ∀ (w' : World) (Y' : Nat → Int) (x y : Int), St W w' (L.set k0 (row 3 1 (.slice (some ⟨g, 0, none⟩) q c) q (intsI (gl Y' q)))) → P x → P y → Calls Tryz.prog 55 #[.int .i64 x, .int .i64 y, .pointer (some ⟨gp, 0, none⟩)] w' fun e w2 => e = .returned (.int .i64 (cmpI (O x) (O y))) ∧ ∃ n, w2 = w'.drewN n) :
    Calls Tryz.prog 105 #[.slice (some ⟨g, 0, none⟩) q c, .int .i64 0, .int .i64 q, .func (.func 55) #[] #[.pointer (some ⟨gp, 0, none⟩)]] w fun e w' =>
      e = .returned (.tuple #[]) ∧ ∃ Y' : Nat → Int, Mem0 P Y' q ∧ (∀ a b, a < b → b < q → O (Y' a) ≤ O (Y' b)) ∧ St W w' (L.set k0 (row 3 1 (.slice (some ⟨g, 0, none⟩) q c) q (intsI (gl Y' q)))) := by
  have S0 : St W w (L.set k0 (row 3 1 (.slice (some ⟨g, 0, none⟩) q c) q (intsI (gl Y q)))) := by
    have e : L.set k0 (row 3 1 (.slice (some ⟨g, 0, none⟩) q c) q (intsI (gl Y q))) = L := by
      apply List.ext_getElem?
      intro i
      rw [List.getElem?_set]
      split
      · rename_i h; subst h; split
        · exact hL.symm
        · rename_i h2; rw [List.getElem?_eq_none (by omega)] at hL; cases hL
      · rfl
    rw [e]; exact S
  have hk0 : k0 < L.length := by
    rcases Nat.lt_or_ge k0 L.length with h | h
    · exact h
    · rw [List.getElem?_eq_none h] at hL; cases hL
  have HIX : Hid (∀ Y' : Nat → Int, (L.set k0 (row 3 1 (.slice (some ⟨g, 0, none⟩) q c) q (intsI (gl Y' q))))[k0]? = some (row 3 1 (.slice (some ⟨g, 0, none⟩) q c) q (intsI (gl Y' q)))) := fun Y' => by rw [List.getElem?_set, if_pos rfl, if_pos hk0]
  have HSS : Hid (∀ A B : Asr, (L.set k0 A).set k0 B = L.set k0 B) := fun A B => List.set_set ..
  have HCC := Lib.hid hC
  have HK0 := Lib.hid hk0
  have HP := Lib.hid hP
  clear S hL hk0 hC hP
  have hE := enters Tryz.func55 (by kernel_rfl) rfl
  unfold Enters at hE
  go_enter Tryz.func105, Tryz.ntmps105
  go_wp2
  go_loopw [8] (fun i w' => ∃ (k : Nat) (Y' : Nat → Int), 1 ≤ k ∧ (k ≤ q ∨ k = 1) ∧ i = .int .i64 k ∧ Hid (Mem0 P Y' q) ∧ Hid (∀ a b, a < b → b < k → O (Y' a) ≤ O (Y' b)) ∧ St W w' (L.set k0 (row 3 1 (.slice (some ⟨g, 0, none⟩) q c) q (intsI (gl Y' q))))) (fun i _ => q - (intOf i).toNat)
  case atStart => exact ⟨1, Y, Nat.le_refl _, .inr rfl, rfl, HP, Lib.hid (fun a b h1 h2 => by omega), S0⟩
  case round =>
    obtain ⟨k, Y1, hk1, hk, rfl, hm1, hs1, S1⟩ := hrel
    clear S0
    by_cases hlt : k < q
    · have hlt' : (k : Int) < q := by omega
      have hst0 : Srt O Y1 k k := fun a b h1 h2 h3 => hs1.out a b h1 (by omega)
      have HST := Lib.hid hst0
      have HS1 := Lib.hid S1
      clear hst0 hs1 S1
      go_wp2_with fail
      go_loopw [9] (fun i w' => ∃ (j : Nat) (Y' : Nat → Int), j ≤ k ∧ i = .int .i64 j ∧ Hid (Mem0 P Y' q) ∧ Hid (Srt O Y' k j) ∧ St W w' (L.set k0 (row 3 1 (.slice (some ⟨g, 0, none⟩) q c) q (intsI (gl Y' q))))) (fun i _ => (intOf i).toNat)
      case atStart => exact ⟨k, Y1, Nat.le_refl _, rfl, hm1, HST, HS1.out⟩
      case round =>
        obtain ⟨j, Y2, hjk, rfl, hm2, hs2, S2⟩ := hrel
        clear HS1 HST hm1
        have hjq : j < q := by omega
        have HS2 := Lib.hid S2
        have HROW := Lib.hid ((S2.row_form (HIX.out Y2) (by omega)).choose_spec)
        have HCE : Hid (∀ a, a < q → wr.cell? ⟨g, a, none⟩ = some (.int .i64 (Y2 a)) ∧ wr.frozen? ⟨g, a, none⟩ = false) := fun a ha => by
          obtain ⟨g', cap, hv, _, _, _, hc, hf⟩ := S2.row_form (HIX.out Y2) (by omega)
          cases hv
          refine ⟨?_, hf a⟩
          rw [hc a (by omega)]
          unfold intsI
          rw [List.getElem?_map, gl_at Y2 ha]
          rfl
        clear HROW S2
        by_cases hj0 : j = 0
        · subst hj0
          have t0 : decide ((0 : Int) < (0 : Nat)) = false := by simp
          go_wp2_with fail
          refine wp_cls 16 (fun w' => ∃ n, w' = wr.drewN n) (by kernel_rfl) (by kernel_rfl) ⟨1, rfl⟩ ?_
          simp only [List.take_succ_cons, List.take_zero, List.drop_succ_cons, List.drop_zero]
          generalize hK : (fun w' => ∃ n, w' = wr.drewN n) = K
          intro hne
          have kw : ∀ y : Wd K, ∃ n, y.w = wr.drewN n := by subst hK; exact fun y => y.h
          clear hK
          repeat (go_big_quiet_step ((fail)))
          refine wpQuiet_nil ?_
          intro y
          obtain ⟨nn, hyn⟩ := kw y
          have HSY := HS2.out.drewN nn
          rw [← hyn] at HSY
          clear kw hyn hne
          have HSF := Lib.hid HSY
          clear HSY
          generalize y.w = w3 at *
          have HD := Lib.hid (hs2.out.done (.inl rfl))
          go_wp2_with fail
          go_roundw
          case rel => exact ⟨k + 1, Y2, by omega, by omega, by go_num, hm2, Lib.hid (fun a b h1 h2 => HD.out a b h1 (by omega)), HSF.out⟩
          case measure => simp [intOf]; omega
        · obtain ⟨jp, hjp⟩ : ∃ jp, jp = j - 1 := ⟨_, rfl⟩
          have hjm : (j : Int) - 1 = (jp : Int) := by omega
          have hjw : IntKind.i64.wrap ((j : Int) - 1) = (jp : Int) := by rw [hjm]; exact IntWalk.i64_in _ (by omega)
          have hjpq : jp < q := by omega
          have hj1 : jp + 1 = j := by omega
          have HJ1 := Lib.hid hj1
          have t0 : decide ((0 : Int) < (j : Int)) = true := by simp; omega
          have t0' : decide (0 < j) = true := by simp; omega
          obtain ⟨c0, f0⟩ := HCE.out j hjq
          obtain ⟨c1, f1⟩ := HCE.out jp hjpq
          have hca := hm2.out j hjq
          have hcb := hm2.out jp hjpq
          have HCL : Hid (∀ w', (∃ n, w' = wr.drewN n) → Calls Tryz.prog 55 #[.int .i64 (Y2 j), .int .i64 (Y2 jp), .pointer (some ⟨gp, 0, none⟩)] w' fun e w2 => e = .returned (.int .i64 (cmpI (O (Y2 j)) (O (Y2 jp)))) ∧ ∃ n, w2 = wr.drewN n) := fun w' ⟨n, hn⟩ =>
            (HCC.out w' Y2 _ _ (by rw [hn]; exact HS2.out.drewN n) hca hcb).mono fun e w2 ⟨h1, m, h2⟩ => ⟨h1, n + m, by rw [h2, hn]; exact World.drewN_drewN _ _ _⟩
          have HGS := Lib.hid (gl_swp Y2 (q := q) (j := j) (by omega) hjq)
          have hsw : O (Y2 j) < O (Y2 jp) → Srt O (swp Y2 j) k jp := fun h => by
            have := hs2.out.swap (by omega) hjk (by rw [← hjp]; exact h)
            rwa [← hjp] at this
          have HSW := Lib.hid hsw
          have HDN : Hid (¬ O (Y2 j) < O (Y2 jp) → ∀ a b, a < b → b < k + 1 → O (Y2 a) ≤ O (Y2 b)) := fun h a b h1 h2 => hs2.out.done (.inr (by rw [← hjp]; exact h)) a b h1 (by omega)
          have HMS := Lib.hid (hm2.out.swap (j := j) (by omega) hjq)
          rw [← hjp] at HGS
          clear hca hcb hsw HCE hjp hj1
          have hcv : ∃ cv, cmpI (O (Y2 j)) (O (Y2 jp)) = cv ∧ (decide (cv < 0) = decide (O (Y2 j) < O (Y2 jp))) := ⟨_, rfl, by
            unfold cmpI
            by_cases h : O (Y2 j) < O (Y2 jp)
            · rw [if_pos h]; simp [h]
            · rw [if_neg h]; split <;> simp [h]⟩
          obtain ⟨cv, hcv, hcd⟩ := hcv
          rw [hcv] at HCL
          clear hcv
          generalize hya : Y2 j = ya at *
          generalize hyb : Y2 jp = yb at *
          have HYA := Lib.hid hya
          have HYB := Lib.hid hyb
          clear hya hyb
          by_cases hlo : O ya < O yb
          · have hcv0 : decide (cv < 0) = true := by rw [hcd]; simp [hlo]
            have HSN := Lib.hid (HSW.out hlo)
            clear hcd HDN HSW hlo
            go_wp2_with fail
            refine wp_cls 16 (fun w' => ∃ n, w' = wr.drewN n) (by kernel_rfl) (by kernel_rfl) ⟨1, rfl⟩ ?_
            simp only [List.take_succ_cons, List.take_zero, List.drop_succ_cons, List.drop_zero]
            generalize hK : (fun w' => ∃ n, w' = wr.drewN n) = K
            intro hne
            have kw : ∀ y : Wd K, ∃ n, y.w = wr.drewN n := by subst hK; exact fun y => y.h
            have HC3 : Hid (∀ y : Wd K, Calls Tryz.prog 55 #[.int .i64 ya, .int .i64 yb, .pointer (some ⟨gp, 0, none⟩)] y.w fun e w2 => e = .returned (.int .i64 cv) ∧ ∃ z : Wd K, w2 = z.w) := by
              subst hK
              exact fun y => (HCL.out y.w y.h).mono fun e w2 ⟨h1, h2⟩ => ⟨h1, ⟨⟨w2, h2⟩, rfl⟩⟩
            have y0 : ∀ y : Wd K, y.w.cell? ⟨g, j, none⟩ = some (.int .i64 ya) := fun y => by obtain ⟨n, e⟩ := kw y; rw [e]; exact c0
            have y1 : ∀ y : Wd K, y.w.cell? ⟨g, jp, none⟩ = some (.int .i64 yb) := fun y => by obtain ⟨n, e⟩ := kw y; rw [e]; exact c1
            clear hK
            repeat (go_big_quiet_step ((exact HC3.out _)))
            refine wpQuiet_nil ?_
            intro y
            obtain ⟨nn, hyn⟩ := kw y
            clear y0 y1 kw HC3 hne
            have c0' : y.w.cell? ⟨g, j, none⟩ = some (.int .i64 ya) := by rw [hyn]; exact c0
            have c1' : y.w.cell? ⟨g, jp, none⟩ = some (.int .i64 yb) := by rw [hyn]; exact c1
            have HSY := HS2.out.drewN nn
            rw [← hyn] at HSY
            have f0' : y.w.frozen? ⟨g, j, none⟩ = false := by rw [hyn]; exact f0
            have f1' : y.w.frozen? ⟨g, jp, none⟩ = false := by rw [hyn]; exact f1
            clear c0 c1 f0 f1 hyn
            have HSF := Lib.hid HSY
            clear HSY
            generalize y.w = w3 at *
            go_wp2_with fail
            refine wp_pre_tail 5 15 (fun w' => ∃ n, w' = w3.drewN n) (by kernel_rfl) (by kernel_rfl) ⟨1, rfl⟩ ?_
            simp only [List.take_succ_cons, List.take_zero, List.drop_succ_cons, List.drop_zero, Nat.reduceSub]
            generalize hK : (fun w' => ∃ n, w' = w3.drewN n) = K
            intro hne
            have kw : ∀ y : Wd K, ∃ n, y.w = w3.drewN n := by subst hK; exact fun y => y.h
            have y0 : ∀ y : Wd K, y.w.cell? ⟨g, j, none⟩ = some (.int .i64 ya) := fun y => by obtain ⟨n, e⟩ := kw y; rw [e]; exact c0'
            have y1 : ∀ y : Wd K, y.w.cell? ⟨g, jp, none⟩ = some (.int .i64 yb) := fun y => by obtain ⟨n, e⟩ := kw y; rw [e]; exact c1'
            clear hK
            change wpQuiet _ _ _ _ (_ :: _ :: _ :: _ :: _ :: []) _
            iterate 5 (go_big_quiet_step ((fail)))
            refine wpQuiet_nil ?_
            repeat (go_big_quiet_step ((fail)))
            refine wpQuiet_nil ?_
            intro y
            obtain ⟨nn, hyn⟩ := kw y
            clear y0 y1 kw hne
            have HSY := HSF.out.drewN nn
            rw [← hyn] at HSY
            have c0 : y.w.cell? ⟨g, j, none⟩ = some (.int .i64 ya) := by rw [hyn]; exact c0'
            have f0 : y.w.frozen? ⟨g, j, none⟩ = false := by rw [hyn]; exact f0'
            have c1 : y.w.cell? ⟨g, jp, none⟩ = some (.int .i64 yb) := by rw [hyn]; exact c1'
            have f1 : y.w.frozen? ⟨g, jp, none⟩ = false := by rw [hyn]; exact f1'
            clear c0' c1' f0' f1' hyn
            have HSA := HSY.row_set (HIX.out Y2) j (.int .i64 yb)
            rw [HSS.out] at HSA
            have HSB := HSA.row_set (i := k0) (by rw [List.getElem?_set, if_pos rfl, if_pos HK0.out]) jp (.int .i64 ya)
            rw [HSS.out, HGS.out] at HSB
            have hnj : j ≠ jp := by have := HJ1.out; omega
            have hnj' : jp ≠ j := fun e => hnj e.symm
            have HSG := Lib.hid HSB
            clear HSY HSA HSB
            generalize y.w = w4 at *
            go_wp2_with fail
            refine NoPanic.normal ?_
            go_wp2_with fail
            go_roundw
            case rel => exact ⟨jp, _, by have := HJ1.out; omega, by go_num, HMS, HSN, HSG.out⟩
            case measure => have := HJ1.out; simp [intOf]; omega
          · have hcv0 : decide (cv < 0) = false := by rw [hcd]; simp [hlo]
            have HSN := Lib.hid (HDN.out hlo)
            clear hcd HDN HSW hlo
            go_wp2_with fail
            refine wp_cls 16 (fun w' => ∃ n, w' = wr.drewN n) (by kernel_rfl) (by kernel_rfl) ⟨1, rfl⟩ ?_
            simp only [List.take_succ_cons, List.take_zero, List.drop_succ_cons, List.drop_zero]
            generalize hK : (fun w' => ∃ n, w' = wr.drewN n) = K
            intro hne
            have kw : ∀ y : Wd K, ∃ n, y.w = wr.drewN n := by subst hK; exact fun y => y.h
            have HC3 : Hid (∀ y : Wd K, Calls Tryz.prog 55 #[.int .i64 ya, .int .i64 yb, .pointer (some ⟨gp, 0, none⟩)] y.w fun e w2 => e = .returned (.int .i64 cv) ∧ ∃ z : Wd K, w2 = z.w) := by
              subst hK
              exact fun y => (HCL.out y.w y.h).mono fun e w2 ⟨h1, h2⟩ => ⟨h1, ⟨⟨w2, h2⟩, rfl⟩⟩
            have y0 : ∀ y : Wd K, y.w.cell? ⟨g, j, none⟩ = some (.int .i64 ya) := fun y => by obtain ⟨n, e⟩ := kw y; rw [e]; exact c0
            have y1 : ∀ y : Wd K, y.w.cell? ⟨g, jp, none⟩ = some (.int .i64 yb) := fun y => by obtain ⟨n, e⟩ := kw y; rw [e]; exact c1
            clear hK
            repeat (go_big_quiet_step ((exact HC3.out _)))
            refine wpQuiet_nil ?_
            intro y
            obtain ⟨nn, hyn⟩ := kw y
            have HSY := HS2.out.drewN nn
            rw [← hyn] at HSY
            clear y0 y1 kw HC3 hne hyn c0 c1 f0 f1
            have HSF := Lib.hid HSY
            clear HSY
            generalize y.w = w3 at *
            go_wp2_with fail
            go_roundw
            case rel => exact ⟨k + 1, Y2, by omega, by omega, by go_num, hm2, HSN, HSF.out⟩
            case measure => simp [intOf]; omega
    · have hge : ¬ (k : Int) < q := by omega
      have HS1 := Lib.hid S1
      clear S1
      go_wp2_with fail
      go_end0
      exact ⟨rfl, Y1, hm1.out, fun a b h1 h2 => hs1.out a b h1 (by omega), HS1.out⟩
set_option maxRecDepth 100000 in
set_option maxHeartbeats 4000000 in
theorem stableSort_any (W w : World) (L : List Asr) (k0 gp g c q : Nat) (O : Int → Int) (P : Int → Prop) (Y : Nat → Int) (hq : q ≤ 19) (S : St W w L) (hL : L[k0]? = some (row 3 1 (.slice (some ⟨g, 0, none⟩) q c) q (intsI (gl Y q)))) (hP : Mem0 P Y q)
    (hC : ∀ (w' : World) (Y' : Nat → Int) (x y : Int), St W w' (L.set k0 (row 3 1 (.slice (some ⟨g, 0, none⟩) q c) q (intsI (gl Y' q)))) → P x → P y → Calls Tryz.prog 55 #[.int .i64 x, .int .i64 y, .pointer (some ⟨gp, 0, none⟩)] w' fun e w2 => e = .returned (.int .i64 (cmpI (O x) (O y))) ∧ ∃ n, w2 = w'.drewN n) :
    Calls Tryz.prog 54 #[.slice (some ⟨g, 0, none⟩) q c, .func (.func 55) #[] #[.pointer (some ⟨gp, 0, none⟩)]] w fun e w' =>
      e = .returned (.tuple #[]) ∧ ∃ Y' : Nat → Int, Mem0 P Y' q ∧ (∀ a b, a < b → b < q → O (Y' a) ≤ O (Y' b)) ∧ St W w' (L.set k0 (row 3 1 (.slice (some ⟨g, 0, none⟩) q c) q (intsI (gl Y' q)))) := by
  have HI := Lib.hid (insSort_any W w L k0 gp g c q O P Y (by omega) S hL hP hC)
  clear S hL hP hC
  have t1 : decide ((20 : Int) ≤ (q : Int)) = false := by simp; omega
  have t2 : decide ((20 : Int) < (q : Int)) = false := by simp; omega
  have HS : Hid (Calls Tryz.prog 83 #[.slice (some ⟨g, 0, none⟩) q c, .int .i64 q, .func (.func 55) #[] #[.pointer (some ⟨gp, 0, none⟩)]] w fun e w' =>
      e = .returned (.tuple #[]) ∧ ∃ Y' : Nat → Int, Mem0 P Y' q ∧ (∀ a b, a < b → b < q → O (Y' a) ≤ O (Y' b)) ∧ St W w' (L.set k0 (row 3 1 (.slice (some ⟨g, 0, none⟩) q c) q (intsI (gl Y' q))))) := by
    show Calls _ _ _ _ _
    go_enter Tryz.func83, Tryz.ntmps83
    go_wp2_with fail
    go_loopw [7, 8] (fun i j w' => i = .int .i64 0 ∧ j = .int .i64 20 ∧ w' = w) (fun _ _ _ => 0)
    case atStart => exact ⟨rfl, rfl, rfl⟩
    case round =>
      obtain ⟨rfl, rfl, rfl⟩ := hrel
      go_wp2_with fail
      go_at_call 105
      refine HI.out.mono ?_
      rintro e w2 ⟨rfl, hr⟩
      have HR := Lib.hid hr
      clear hr
      go_wp2_with fail
      go_loopw [6] (fun i w' => i = .int .i64 20 ∧ w' = w2) (fun _ _ => 0)
      case atStart => exact ⟨rfl, rfl⟩
      case round =>
        obtain ⟨rfl, rfl⟩ := hrel
        go_wp2_with fail
        go_end0
        exact ⟨rfl, HR.out⟩
  go_enter Tryz.func54, Tryz.ntmps54
  go_wp2_with fail
  go_at_call 83
  refine HS.out.mono ?_
  rintro e w2 ⟨rfl, hr⟩
  have HR := Lib.hid hr
  clear hr
  go_wp2_with fail
  go_end0
  exact ⟨rfl, HR.out⟩
end Go.Proofs.YtbakoldmfpbnaaaGreatDoor
