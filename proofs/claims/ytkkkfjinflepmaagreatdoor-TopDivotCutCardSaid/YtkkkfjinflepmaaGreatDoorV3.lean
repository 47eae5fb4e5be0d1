/- Chapter 7: the sort of places (only that it keeps them). -/
import Derived.Test.YtkkkfjinflepmaaGreatDoorV1
import Derived.Test.YtkkkfjinflepmaaGreatDoorB25
import Derived.Test.YtkkkfjinflepmaaGreatDoorV2
import Derived.Test.YtkkkfjinflepmaaGreatDoorB41
import Derived.Test.YtkkkfjinflepmaaGreatDoorB45
import Derived.Test.YtkkkfjinflepmaaGreatDoorJ2
set_option linter.unusedVariables false
set_option linter.unusedSimpArgs false
set_option linter.unusedSectionVars false
set_option linter.constructorNameAsVariable false
namespace Go.Adj
open Go.RowKit Go.Mem
structure PcI where
  l : Int
  r : Int
  s : Int
deriving Inhabited
def PcI.cells (x : PcI) : List Value := [.int .i64 x.l, .int .i64 x.r, .int .i64 x.s]
def PcI.val (x : PcI) : Value := .agg #[.int .i64 x.l, .int .i64 x.r, .int .i64 x.s]
def pcs (Y : Nat → PcI) (q : Nat) : List Value := (List.range q).flatMap fun i => (Y i).cells
theorem pcs_snoc (Y : Nat → PcI) (q : Nat) : pcs Y (q + 1) = pcs Y q ++ (Y q).cells := by unfold pcs; rw [List.range_succ, List.flatMap_append]; simp
theorem pcs_len (Y : Nat → PcI) : ∀ q, (pcs Y q).length = q * 3
  | 0 => rfl
  | q + 1 => by rw [pcs_snoc, List.length_append, pcs_len Y q]; show q * 3 + 3 = _; omega
theorem pcs_at (Y : Nat → PcI) : ∀ {q a b : Nat}, a < q → b < 3 → (pcs Y q)[a * 3 + b]? = (Y a).cells[b]?
  | q + 1, a, b, ha, hb => by
    rw [pcs_snoc]
    rcases Nat.lt_or_ge a q with h | h
    · rw [List.getElem?_append_left (by rw [pcs_len]; omega)]
      exact pcs_at Y h hb
    · obtain rfl : a = q := by omega
      rw [List.getElem?_append_right (by rw [pcs_len]; omega), pcs_len]
      congr 1; omega
def updP (Y : Nat → PcI) (j : Nat) (p : PcI) (a : Nat) : PcI := if a = j then p else Y a
theorem pcs_upd (Y : Nat → PcI) {q j : Nat} (hj : j < q) (p : PcI) : (((pcs Y q).set (j * 3) (.int .i64 p.l)).set (j * 3 + 1) (.int .i64 p.r)).set (j * 3 + 2) (.int .i64 p.s) = pcs (updP Y j p) q := by
  apply List.ext_getElem?
  intro i
  rcases Nat.lt_or_ge i (q * 3) with hi | hi
  · obtain ⟨a, b, hb, e⟩ : ∃ a b, b < 3 ∧ i = a * 3 + b := ⟨i / 3, i % 3, Nat.mod_lt _ (by decide), by omega⟩
    subst e
    have ha : a < q := by omega
    rw [pcs_at _ ha hb]
    simp only [List.getElem?_set, List.length_set, pcs_len]
    by_cases hja : a = j
    · subst hja
      have e2 : updP Y a p a = p := by unfold updP; rw [if_pos rfl]
      rw [e2]
      have : b = 0 ∨ b = 1 ∨ b = 2 := by omega
      rcases this with rfl | rfl | rfl
      · rw [if_neg (by omega), if_neg (by omega), if_pos (by omega), if_pos (by omega)]; rfl
      · rw [if_neg (by omega), if_pos (by omega), if_pos (by omega)]; rfl
      · rw [if_pos (by omega), if_pos (by omega)]; rfl
    · rw [if_neg (by omega), if_neg (by omega), if_neg (by omega), pcs_at _ ha hb]
      unfold updP
      rw [if_neg hja]
  · rw [List.getElem?_eq_none (by simp only [List.length_set, pcs_len]; omega), List.getElem?_eq_none (by rw [pcs_len]; omega)]
def MemP (P : PcI → Prop) (Y : Nat → PcI) (q : Nat) : Prop := ∀ a, a < q → P (Y a)
theorem MemP.swap {P : PcI → Prop} {Y : Nat → PcI} {q j : Nat} (h : MemP P Y q) (hj : 1 ≤ j) (hq : j < q) : MemP P (updP (updP Y j (Y (j - 1))) (j - 1) (Y j)) q := by
  intro a ha
  unfold updP
  split
  · exact h _ hq
  · show P (if a = j then Y (j - 1) else Y a)
    split
    · exact h _ (by omega)
    · exact h _ ha
end Go.Adj
namespace Go.Proofs.YtkkkfjinflepmaaGreatDoor
open Go.RowKit Go.Mem Go.Sheet Go.Adj
theorem row_pc {W w : World} {L : List Asr} {i j g n c : Nat} {Y : Nat → PcI} (h : St W w L) (hi : L[i]? = some (row 80 3 (.slice (some ⟨g, 0, none⟩) n c) n (pcs Y n))) (hj : j < n) :
    (w.cell? ⟨g, j * 3, none⟩ = some (.int .i64 (Y j).l) ∧ w.cell? ⟨g, j * 3 + 1, none⟩ = some (.int .i64 (Y j).r) ∧ w.cell? ⟨g, j * 3 + 2, none⟩ = some (.int .i64 (Y j).s)) ∧ ∀ k, w.frozen? ⟨g, k, none⟩ = false := by
  obtain ⟨g', cap, hv, _, _, _, hc, hf⟩ := h.row_form hi (by omega)
  cases hv
  refine ⟨⟨?_, ?_, ?_⟩, hf⟩
  · rw [hc _ (by omega)]; exact pcs_at Y (b := 0) hj (by decide)
  · rw [hc _ (by omega)]; exact pcs_at Y (b := 1) hj (by decide)
  · rw [hc _ (by omega)]; exact pcs_at Y (b := 2) hj (by decide)
theorem row_pcset {W w : World} {L : List Asr} {i j g n c : Nat} {Y : Nat → PcI} (h : St W w L) (hi : L[i]? = some (row 80 3 (.slice (some ⟨g, 0, none⟩) n c) n (pcs Y n))) (hj : j < n) (p : PcI) :
    St W (((w.setCell ⟨g, j * 3, none⟩ (.int .i64 p.l)).setCell ⟨g, j * 3 + 1, none⟩ (.int .i64 p.r)).setCell ⟨g, j * 3 + 2, none⟩ (.int .i64 p.s)) (L.set i (row 80 3 (.slice (some ⟨g, 0, none⟩) n c) n (pcs (updP Y j p) n))) := by
  have hl : i < L.length := (List.getElem?_eq_some_iff.1 hi).1
  have ix : ∀ (A : Asr), (L.set i A)[i]? = some A := fun A => by rw [List.getElem?_set, if_pos rfl, if_pos hl]
  have h1 := h.row_set hi (j * 3) (.int .i64 p.l)
  have h2 := h1.row_set (ix _) (j * 3 + 1) (.int .i64 p.r)
  have h3 := h2.row_set (by rw [List.set_set]; exact ix _) (j * 3 + 2) (.int .i64 p.s)
  rw [List.set_set, List.set_set, pcs_upd Y hj p] at h3
  exact h3
theorem lb1_any (x y : PcI) (w : World) : Calls Tryz.prog 69 #[x.val, y.val] w fun e w' => e = .returned (.int .i64 (cmpI x.r y.r)) ∧ Below w.heap.size w w' := by
  obtain ⟨xl, xr, xs⟩ := x
  obtain ⟨yl, yr, ys⟩ := y
  unfold PcI.val
  have HB := Lib.hid (((Below.refl w.heap.size w).alloc (Nat.le_refl _) (.cells #[.int .i64 xl, .int .i64 xr, .int .i64 xs] 80)).alloc (by simp) (.cells #[.int .i64 yl, .int .i64 yr, .int .i64 ys] 80))
  have c1 : ((w.alloc (.cells #[.int .i64 xl, .int .i64 xr, .int .i64 xs] 80)).alloc (.cells #[.int .i64 yl, .int .i64 yr, .int .i64 ys] 80)).cell? ⟨w.heap.size, 1, none⟩ = some (.int .i64 xr) := by simp
  have c2 : ((w.alloc (.cells #[.int .i64 xl, .int .i64 xr, .int .i64 xs] 80)).alloc (.cells #[.int .i64 yl, .int .i64 yr, .int .i64 ys] 80)).cell? ⟨w.heap.size + 1, 1, none⟩ = some (.int .i64 yr) := by simp
  go_enter Tryz.func69, Tryz.ntmps69
  go_wp2_with fail
  go_at_call 70
  refine (cmpInt_any _ _ _).mono ?_
  rintro e w' ⟨rfl, rfl⟩
  go_wp2_with fail
  go_ret
  exact ⟨rfl, HB.out⟩
end Go.Proofs.YtkkkfjinflepmaaGreatDoor
/- Chapter 7: the library's stable sort of a short list of places: it keeps them. -/
namespace Go.Proofs.YtkkkfjinflepmaaGreatDoor
open Go.RowKit Go.Mem Go.Sheet Go.Adj
set_option maxRecDepth 100000 in
set_option maxHeartbeats 8000000 in
theorem insP_any (W w : World) (L : List Asr) (k0 g c q : Nat) (P : PcI → Prop) (Y : Nat → PcI) (hq : q ≤ 20) (S : St W w L) (hL : L[k0]? = some (row 80 3 (.slice (some ⟨g, 0, none⟩) q c) q (pcs Y q))) (hP : MemP P Y q) :
    Calls Tryz.prog 123 #[.slice (some ⟨g, 0, none⟩) q c, .int .i64 0, .int .i64 q, .func (.func 69) #[] #[]] w fun e w' =>
      e = .returned (.tuple #[]) ∧ ∃ Y' : Nat → PcI, MemP P Y' q ∧ St W w' (L.set k0 (row 80 3 (.slice (some ⟨g, 0, none⟩) q c) q (pcs Y' q))) := by
  have S0 : St W w (L.set k0 (row 80 3 (.slice (some ⟨g, 0, none⟩) q c) q (pcs Y q))) := by
    have e : L.set k0 (row 80 3 (.slice (some ⟨g, 0, none⟩) q c) q (pcs Y q)) = L := by
      apply List.ext_getElem?
      intro i
      rw [List.getElem?_set]
      split
      · rename_i h; subst h; split
        · exact hL.symm
        · rename_i h2; rw [List.getElem?_eq_none (by omega)] at hL; cases hL
      · rfl
    rw [e]; exact S
  have hk0 : k0 < L.length := by
    rcases Nat.lt_or_ge k0 L.length with h | h
    · exact h
    · rw [List.getElem?_eq_none h] at hL; cases hL
  have HIX : Hid (∀ Y' : Nat → PcI, (L.set k0 (row 80 3 (.slice (some ⟨g, 0, none⟩) q c) q (pcs Y' q)))[k0]? = some (row 80 3 (.slice (some ⟨g, 0, none⟩) q c) q (pcs Y' q))) := fun Y' => by rw [List.getElem?_set, if_pos rfl, if_pos hk0]
  have HSS : Hid (∀ A B : Asr, (L.set k0 A).set k0 B = L.set k0 B) := fun A B => List.set_set ..
  have HP := Lib.hid hP
  clear S hL hk0 hP
  have hE := enters Tryz.func69 (by kernel_rfl) rfl
  unfold Enters at hE
  go_enter Tryz.func123, Tryz.ntmps123
  go_wp2
  go_loopw [8] (fun i w' => ∃ (k : Nat) (Y' : Nat → PcI), 1 ≤ k ∧ (k ≤ q ∨ k = 1) ∧ i = .int .i64 k ∧ Hid (MemP P Y' q) ∧ St W w' (L.set k0 (row 80 3 (.slice (some ⟨g, 0, none⟩) q c) q (pcs Y' q)))) (fun i _ => q - (intOf i).toNat)
  case atStart => exact ⟨1, Y, Nat.le_refl _, .inr rfl, rfl, HP, S0⟩
  case round =>
    obtain ⟨k, Y1, hk1, hk, rfl, hm1, S1⟩ := hrel
    clear S0
    by_cases hlt : k < q
    · have hlt' : (k : Int) < q := by omega
      have HS1 := Lib.hid S1
      clear S1
      go_wp2_with fail
      go_loopw [9] (fun i w' => ∃ (j : Nat) (Y' : Nat → PcI), j ≤ k ∧ i = .int .i64 j ∧ Hid (MemP P Y' q) ∧ St W w' (L.set k0 (row 80 3 (.slice (some ⟨g, 0, none⟩) q c) q (pcs Y' q)))) (fun i _ => (intOf i).toNat)
      case atStart => exact ⟨k, Y1, Nat.le_refl _, rfl, hm1, HS1.out⟩
      case round =>
        obtain ⟨j, Y2, hjk, rfl, hm2, S2⟩ := hrel
        clear HS1 hm1
        have hjq : j < q := by omega
        have HS2 := Lib.hid S2
        clear S2
        obtain ⟨LY, hLY⟩ : ∃ LY, LY = L.set k0 (row 80 3 (.slice (some ⟨g, 0, none⟩) q c) q (pcs Y2 q)) := ⟨_, rfl⟩
        rw [← hLY] at HS2
        have HLY := Lib.hid hLY
        have HCE : Hid (∀ w', St W w' LY → ∀ a, a < q → (w'.cell? ⟨g, a * 3, none⟩ = some (.int .i64 (Y2 a).l) ∧ w'.cell? ⟨g, a * 3 + 1, none⟩ = some (.int .i64 (Y2 a).r) ∧ w'.cell? ⟨g, a * 3 + 2, none⟩ = some (.int .i64 (Y2 a).s)) ∧ ∀ k, w'.frozen? ⟨g, k, none⟩ = false) := fun w' h a ha => by
          rw [hLY] at h
          exact row_pc h (HIX.out Y2) ha
        clear hLY
        by_cases hj0 : j = 0
        · subst hj0
          have t0 : decide ((0 : Int) < (0 : Nat)) = false := by simp
          go_wp2_with fail
          refine wp_cls 16 (fun w' => ∃ n, w' = wr.drewN n) (by kernel_rfl) (by kernel_rfl) ⟨1, rfl⟩ ?_
          simp only [List.take_succ_cons, List.take_zero, List.drop_succ_cons, List.drop_zero]
          generalize hK : (fun w' => ∃ n, w' = wr.drewN n) = K
          intro hne
          have kw : ∀ y : Wd K, ∃ n, y.w = wr.drewN n := by subst hK; exact fun y => y.h
          clear hK
          repeat (go_big_quiet_step ((fail)))
          refine wpQuiet_nil ?_
          intro y
          obtain ⟨nn, hyn⟩ := kw y
          have HSY := HS2.out.drewN nn
          rw [← hyn, HLY.out] at HSY
          clear kw hyn hne
          have HSF := Lib.hid HSY
          clear HSY
          generalize y.w = w3 at *
          go_wp2_with fail
          go_roundw
          case rel => exact ⟨k + 1, Y2, by omega, by omega, by go_num, hm2, HSF.out⟩
          case measure => simp [intOf]; omega
        · obtain ⟨jp, hjp⟩ : ∃ jp, jp = j - 1 := ⟨_, rfl⟩
          have hjm : (j : Int) - 1 = (jp : Int) := by omega
          have hjw : IntKind.i64.wrap ((j : Int) - 1) = (jp : Int) := by rw [hjm]; exact IntWalk.i64_in _ (by omega)
          have hjpq : jp < q := by omega
          have hj1 : jp + 1 = j := by omega
          have HJ1 := Lib.hid hj1
          have t0 : decide ((0 : Int) < (j : Int)) = true := by simp; omega
          have t0' : decide (0 < j) = true := by simp; omega
          have HCL : Hid (∀ w', Calls Tryz.prog 69 #[(Y2 j).val, (Y2 jp).val] w' fun e w2 => e = .returned (.int .i64 (cmpI (Y2 j).r (Y2 jp).r)) ∧ Below w'.heap.size w' w2) := fun w' => lb1_any _ _ w'
          have HMS := Lib.hid (hm2.out.swap (j := j) (by omega) hjq)
          rw [← hjp] at HMS
          have HCJ : Hid (∀ w', St W w' LY → (w'.cell? ⟨g, j * 3, none⟩ = some (.int .i64 (Y2 j).l) ∧ w'.cell? ⟨g, j * 3 + 1, none⟩ = some (.int .i64 (Y2 j).r) ∧ w'.cell? ⟨g, j * 3 + 2, none⟩ = some (.int .i64 (Y2 j).s)) ∧ ∀ k, w'.frozen? ⟨g, k, none⟩ = false) := fun w' h => HCE.out w' h j hjq
          have HCK : Hid (∀ w', St W w' LY → (w'.cell? ⟨g, jp * 3, none⟩ = some (.int .i64 (Y2 jp).l) ∧ w'.cell? ⟨g, jp * 3 + 1, none⟩ = some (.int .i64 (Y2 jp).r) ∧ w'.cell? ⟨g, jp * 3 + 2, none⟩ = some (.int .i64 (Y2 jp).s)) ∧ ∀ k, w'.frozen? ⟨g, k, none⟩ = false) := fun w' h => HCE.out w' h jp hjpq
          have HST : Hid (∀ w', St W w' LY → St W ((((((w'.setCell ⟨g, j * 3, none⟩ (.int .i64 (Y2 jp).l)).setCell ⟨g, j * 3 + 1, none⟩ (.int .i64 (Y2 jp).r)).setCell ⟨g, j * 3 + 2, none⟩ (.int .i64 (Y2 jp).s)).setCell ⟨g, jp * 3, none⟩ (.int .i64 (Y2 j).l)).setCell ⟨g, jp * 3 + 1, none⟩ (.int .i64 (Y2 j).r)).setCell ⟨g, jp * 3 + 2, none⟩ (.int .i64 (Y2 j).s)) (L.set k0 (row 80 3 (.slice (some ⟨g, 0, none⟩) q c) q (pcs (updP (updP Y2 j (Y2 jp)) jp (Y2 j)) q)))) := fun w' h => by
            rw [HLY.out] at h
            have h1 := row_pcset h (HIX.out Y2) hjq (Y2 jp)
            rw [HSS.out] at h1
            have h2 := row_pcset h1 (HIX.out _) hjpq (Y2 j)
            rw [HSS.out] at h2
            exact h2
          obtain ⟨LZ, hLZ⟩ : ∃ LZ, LZ = L.set k0 (row 80 3 (.slice (some ⟨g, 0, none⟩) q c) q (pcs (updP (updP Y2 j (Y2 jp)) jp (Y2 j)) q)) := ⟨_, rfl⟩
          rw [← hLZ] at HST
          have HLZ := Lib.hid hLZ
          clear hjp hj1 HCE hLZ
          generalize hya : Y2 j = ya at *
          generalize hyb : Y2 jp = yb at *
          obtain ⟨al, ar, as_⟩ := ya
          obtain ⟨bl, br, bs⟩ := yb
          unfold PcI.val at HCL
          simp only at HCL HCJ HCK HST
          have HYA := Lib.hid hya
          have HYB := Lib.hid hyb
          clear hya hyb
          generalize cmpI ar br = cv at *
          by_cases hlo : cv < 0
          · have hcv0 : decide (cv < 0) = true := decide_eq_true hlo
            clear hlo
            go_wp2_with fail
            refine wp_cls 16 (fun w' => St W w' LY) (by kernel_rfl) (by kernel_rfl) HS2.out.drew ?_
            simp only [List.take_succ_cons, List.take_zero, List.drop_succ_cons, List.drop_zero]
            generalize hK : (fun w' => St W w' LY) = K
            intro hne
            have kS : ∀ y : Wd K, St W y.w LY := by subst hK; exact fun y => y.h
            have hK3 : ∀ w w' : World, K w → Below w.heap.size w w' → K w' := by subst hK; exact fun w w' h h' => h.ext h'
            have HC3 : Hid (∀ y : Wd K, Calls Tryz.prog 69 #[.agg #[.int .i64 al, .int .i64 ar, .int .i64 as_], .agg #[.int .i64 bl, .int .i64 br, .int .i64 bs]] y.w fun e w2 => e = .returned (.int .i64 cv) ∧ ∃ z : Wd K, w2 = z.w) := fun y => cls_below hK3 (HCL.out _)
            have y0 : ∀ y : Wd K, y.w.cell? ⟨g, j * 3, none⟩ = some (.int .i64 al) := fun y => (HCJ.out _ (kS y)).1.1
            have y1 : ∀ y : Wd K, y.w.cell? ⟨g, j * 3 + 1, none⟩ = some (.int .i64 ar) := fun y => (HCJ.out _ (kS y)).1.2.1
            have y2 : ∀ y : Wd K, y.w.cell? ⟨g, j * 3 + 2, none⟩ = some (.int .i64 as_) := fun y => (HCJ.out _ (kS y)).1.2.2
            have y3 : ∀ y : Wd K, y.w.cell? ⟨g, jp * 3, none⟩ = some (.int .i64 bl) := fun y => (HCK.out _ (kS y)).1.1
            have y4 : ∀ y : Wd K, y.w.cell? ⟨g, jp * 3 + 1, none⟩ = some (.int .i64 br) := fun y => (HCK.out _ (kS y)).1.2.1
            have y5 : ∀ y : Wd K, y.w.cell? ⟨g, jp * 3 + 2, none⟩ = some (.int .i64 bs) := fun y => (HCK.out _ (kS y)).1.2.2
            have KS := Lib.hid kS
            clear hK kS
            repeat (go_big_quiet_step ((exact HC3.out _)))
            refine wpQuiet_nil ?_
            intro y
            have HSY := Lib.hid (KS.out y)
            clear y0 y1 y2 y3 y4 y5 hK3 HC3 hne KS
            generalize y.w = w3 at *
            go_wp2_with fail
            refine wp_pre_tail 5 15 (fun w' => ∃ n, w' = w3.drewN n) (by kernel_rfl) (by kernel_rfl) ⟨1, rfl⟩ ?_
            simp only [List.take_succ_cons, List.take_zero, List.drop_succ_cons, List.drop_zero, Nat.reduceSub]
            generalize hK : (fun w' => ∃ n, w' = w3.drewN n) = K
            intro hne
            have kS : ∀ y : Wd K, St W y.w LY := by subst hK; exact fun y => by obtain ⟨n, e⟩ := y.h; rw [e]; exact HSY.out.drewN n
            have y0 : ∀ y : Wd K, y.w.cell? ⟨g, j * 3, none⟩ = some (.int .i64 al) := fun y => (HCJ.out _ (kS y)).1.1
            have y1 : ∀ y : Wd K, y.w.cell? ⟨g, j * 3 + 1, none⟩ = some (.int .i64 ar) := fun y => (HCJ.out _ (kS y)).1.2.1
            have y2 : ∀ y : Wd K, y.w.cell? ⟨g, j * 3 + 2, none⟩ = some (.int .i64 as_) := fun y => (HCJ.out _ (kS y)).1.2.2
            have y3 : ∀ y : Wd K, y.w.cell? ⟨g, jp * 3, none⟩ = some (.int .i64 bl) := fun y => (HCK.out _ (kS y)).1.1
            have y4 : ∀ y : Wd K, y.w.cell? ⟨g, jp * 3 + 1, none⟩ = some (.int .i64 br) := fun y => (HCK.out _ (kS y)).1.2.1
            have y5 : ∀ y : Wd K, y.w.cell? ⟨g, jp * 3 + 2, none⟩ = some (.int .i64 bs) := fun y => (HCK.out _ (kS y)).1.2.2
            have KS := Lib.hid kS
            clear hK kS
            change wpQuiet _ _ _ _ (_ :: _ :: _ :: _ :: _ :: []) _
            iterate 5 (go_big_quiet_step ((fail)))
            refine wpQuiet_nil ?_
            repeat (go_big_quiet_step ((fail)))
            refine wpQuiet_nil ?_
            intro y
            have hsy := KS.out y
            clear y0 y1 y2 y3 y4 y5 hne KS HSY
            generalize y.w = w4 at *
            obtain ⟨⟨c0, c1, c2⟩, f0⟩ := HCJ.out _ hsy
            obtain ⟨⟨c3, c4, c5⟩, _⟩ := HCK.out _ hsy
            have f00 := f0 (j * 3)
            have f01 := f0 (j * 3 + 1)
            have f02 := f0 (j * 3 + 2)
            have f03 := f0 (jp * 3)
            have f04 := f0 (jp * 3 + 1)
            have f05 := f0 (jp * 3 + 2)
            have HSG := Lib.hid (HST.out _ hsy)
            have hj1 := HJ1.out
            have n1 : j * 3 ≠ jp * 3 := by omega
            have n2 : j * 3 ≠ jp * 3 + 1 := by omega
            have n3 : j * 3 ≠ jp * 3 + 2 := by omega
            have n4 : j * 3 + 1 ≠ jp * 3 := by omega
            have n5 : j * 3 + 1 ≠ jp * 3 + 1 := by omega
            have n6 : j * 3 + 1 ≠ jp * 3 + 2 := by omega
            have n7 : j * 3 + 2 ≠ jp * 3 := by omega
            have n8 : j * 3 + 2 ≠ jp * 3 + 1 := by omega
            have n9 : j * 3 + 2 ≠ jp * 3 + 2 := by omega
            clear hsy f0 hj1
            go_wp2_with fail
            refine NoPanic.normal ?_
            go_wp2_with fail
            go_roundw
            case rel => exact ⟨jp, _, by have := HJ1.out; omega, by go_num, HMS, by have h := HSG.out; rw [HLZ.out] at h; exact h⟩
            case measure => have := HJ1.out; simp [intOf]; omega
          · have hcv0 : decide (cv < 0) = false := decide_eq_false hlo
            clear hlo
            go_wp2_with fail
            refine wp_cls 16 (fun w' => St W w' LY) (by kernel_rfl) (by kernel_rfl) HS2.out.drew ?_
            simp only [List.take_succ_cons, List.take_zero, List.drop_succ_cons, List.drop_zero]
            generalize hK : (fun w' => St W w' LY) = K
            intro hne
            have kS : ∀ y : Wd K, St W y.w LY := by subst hK; exact fun y => y.h
            have hK3 : ∀ w w' : World, K w → Below w.heap.size w w' → K w' := by subst hK; exact fun w w' h h' => h.ext h'
            have HC3 : Hid (∀ y : Wd K, Calls Tryz.prog 69 #[.agg #[.int .i64 al, .int .i64 ar, .int .i64 as_], .agg #[.int .i64 bl, .int .i64 br, .int .i64 bs]] y.w fun e w2 => e = .returned (.int .i64 cv) ∧ ∃ z : Wd K, w2 = z.w) := fun y => cls_below hK3 (HCL.out _)
            have y0 : ∀ y : Wd K, y.w.cell? ⟨g, j * 3, none⟩ = some (.int .i64 al) := fun y => (HCJ.out _ (kS y)).1.1
            have y1 : ∀ y : Wd K, y.w.cell? ⟨g, j * 3 + 1, none⟩ = some (.int .i64 ar) := fun y => (HCJ.out _ (kS y)).1.2.1
            have y2 : ∀ y : Wd K, y.w.cell? ⟨g, j * 3 + 2, none⟩ = some (.int .i64 as_) := fun y => (HCJ.out _ (kS y)).1.2.2
            have y3 : ∀ y : Wd K, y.w.cell? ⟨g, jp * 3, none⟩ = some (.int .i64 bl) := fun y => (HCK.out _ (kS y)).1.1
            have y4 : ∀ y : Wd K, y.w.cell? ⟨g, jp * 3 + 1, none⟩ = some (.int .i64 br) := fun y => (HCK.out _ (kS y)).1.2.1
            have y5 : ∀ y : Wd K, y.w.cell? ⟨g, jp * 3 + 2, none⟩ = some (.int .i64 bs) := fun y => (HCK.out _ (kS y)).1.2.2
            have KS := Lib.hid kS
            clear hK kS
            repeat (go_big_quiet_step ((exact HC3.out _)))
            refine wpQuiet_nil ?_
            intro y
            have hsy := KS.out y
            rw [HLY.out] at hsy
            have HSF := Lib.hid hsy
            clear y0 y1 y2 y3 y4 y5 hK3 HC3 hne KS hsy
            generalize y.w = w3 at *
            go_wp2_with fail
            go_roundw
            case rel => exact ⟨k + 1, Y2, by omega, by omega, by go_num, hm2, HSF.out⟩
            case measure => simp [intOf]; omega
    · have hge : ¬ (k : Int) < q := by omega
      have HS1 := Lib.hid S1
      clear S1
      go_wp2_with fail
      go_end0
      exact ⟨rfl, Y1, hm1.out, HS1.out⟩
end Go.Proofs.YtkkkfjinflepmaaGreatDoor
/- Chapter 7: Leaderboard; Has. -/
namespace Go.Proofs.YtkkkfjinflepmaaGreatDoor
open Go.RowKit Go.Mem Go.Sheet Go.Adj
set_option maxRecDepth 100000 in
set_option maxHeartbeats 4000000 in
theorem sortPlaces_any (W w : World) (L : List Asr) (k0 g c q : Nat) (P : PcI → Prop) (Y : Nat → PcI) (hq : q ≤ 19) (S : St W w L) (hL : L[k0]? = some (row 80 3 (.slice (some ⟨g, 0, none⟩) q c) q (pcs Y q))) (hP : MemP P Y q) :
    Calls Tryz.prog 68 #[.slice (some ⟨g, 0, none⟩) q c, .func (.func 69) #[] #[]] w fun e w' =>
      e = .returned (.tuple #[]) ∧ ∃ Y' : Nat → PcI, MemP P Y' q ∧ St W w' (L.set k0 (row 80 3 (.slice (some ⟨g, 0, none⟩) q c) q (pcs Y' q))) := by
  have HI := Lib.hid (insP_any W w L k0 g c q P Y (by omega) S hL hP)
  clear S hL hP
  have t1 : decide ((20 : Int) ≤ (q : Int)) = false := by simp; omega
  have t2 : decide ((20 : Int) < (q : Int)) = false := by simp; omega
  have HS : Hid (Calls Tryz.prog 103 #[.slice (some ⟨g, 0, none⟩) q c, .int .i64 q, .func (.func 69) #[] #[]] w fun e w' =>
      e = .returned (.tuple #[]) ∧ ∃ Y' : Nat → PcI, MemP P Y' q ∧ St W w' (L.set k0 (row 80 3 (.slice (some ⟨g, 0, none⟩) q c) q (pcs Y' q)))) := by
    show Calls _ _ _ _ _
    go_enter Tryz.func103, Tryz.ntmps103
    go_wp2_with fail
    go_loopw [7, 8] (fun i j w' => i = .int .i64 0 ∧ j = .int .i64 20 ∧ w' = w) (fun _ _ _ => 0)
    case atStart => exact ⟨rfl, rfl, rfl⟩
    case round =>
      obtain ⟨rfl, rfl, rfl⟩ := hrel
      go_wp2_with fail
      go_at_call 123
      refine HI.out.mono ?_
      rintro e w2 ⟨rfl, hr⟩
      have HR := Lib.hid hr
      clear hr
      go_wp2_with fail
      go_loopw [6] (fun i w' => i = .int .i64 20 ∧ w' = w2) (fun _ _ => 0)
      case atStart => exact ⟨rfl, rfl⟩
      case round =>
        obtain ⟨rfl, rfl⟩ := hrel
        go_wp2_with fail
        go_end0
        exact ⟨rfl, HR.out⟩
  go_enter Tryz.func68, Tryz.ntmps68
  go_wp2_with fail
  go_at_call 103
  refine HS.out.mono ?_
  rintro e w2 ⟨rfl, hr⟩
  have HR := Lib.hid hr
  clear hr
  go_wp2_with fail
  go_end0
  exact ⟨rfl, HR.out⟩
set_option maxRecDepth 100000 in
set_option maxHeartbeats 400000 in
theorem has_any (w : World) (F : Nat → Prop) (v : Value) (n x : Nat) (l : List Nat) (h : Rd w F 1 v n (natV l)) :
    Calls Tryz.prog 29 #[v, .int .i64 x] w fun e w' => e = .returned (.bool (decide (x ∈ l))) ∧ w = w' := by
  have hn := h.le
  have hlen : n = l.length := h.count1
  obtain ⟨A, c, rfl, _, _, h⟩ := h.open_
  have H := Lib.hid h
  have HLN := Lib.hid hlen
  clear h hlen
  go_enter Tryz.func29, Tryz.ntmps29
  go_wp2
  go_loop [5] (fun i => ∃ k : Nat, k ≤ n ∧ i = .int .i64 k ∧ Hid (x ∉ l.take k)) (fun i => n - (intOf i).toNat)
  case atStart => exact ⟨0, Nat.zero_le _, rfl, by show x ∉ _; simp⟩
  case round =>
    obtain ⟨k, hk, rfl, hin⟩ := hrel
    by_cases hlt : k < n
    · obtain ⟨b, o, u, rfl, _, hu, c0⟩ := H.out.at_ hlt
      obtain ⟨y, hy⟩ : ∃ y, l[k]? = some y := ⟨l[k]'(by have := HLN.out; omega), List.getElem?_eq_getElem _⟩
      unfold natV at hu
      rw [List.getElem?_map, hy] at hu
      cases hu
      have t1 : decide ((k : Int) < (n : Int)) = true := decide_eq_true (by omega)
      have t1' : decide (k < n) = true := decide_eq_true hlt
      by_cases he : y = x
      · have q1 : ((y : Int) == (x : Int)) = true := by simp [he]
        have q1' : (y == x) = true := by simp [he]
        have HC : Hid (decide (x ∈ l) = true) := by
          show _ = _
          rw [← he]; exact decide_eq_true (List.mem_of_getElem? hy)
        clear hy he
        go_wp2
        go_ret
        exact ⟨by rw [HC.out]; rfl, rfl⟩
      · have q1 : ((y : Int) == (x : Int)) = false := by rw [Bool.eq_false_iff]; intro e; have := eq_of_beq e; omega
        have q1' : (y == x) = false := by simp [he]
        have HN : Hid (x ∉ l.take (k + 1)) := by
          show x ∉ _
          rw [List.take_add_one, hy, List.mem_append]
          rintro (h | h)
          · exact hin.out h
          · have : x = y := by simpa using h
            exact he this.symm
        clear hy he
        go_wp2
        go_round
        case rel => exact ⟨k + 1, by omega, by go_num, HN⟩
        case measure => simp [intOf]; omega
    · obtain rfl : n = k := by omega
      have t1 : decide ((n : Int) < (n : Int)) = false := decide_eq_false (by omega)
      have t1' : decide (n < n) = false := decide_eq_false (by omega)
      have HC : Hid (decide (x ∈ l) = false) := by
        show _ = _
        refine decide_eq_false fun e => hin.out ?_
        rw [List.take_of_length_le (by rw [← HLN.out]; exact Nat.le_refl _)]; exact e
      go_wp2
      go_ret
      exact ⟨by rw [HC.out]; rfl, rfl⟩
theorem eltPc : Elt Tryz.prog 70 80 (.agg #[.int .i64 0, .int .i64 0, .int .i64 0]) 3 24 := ⟨Tryz.underlying70, by kernel_rfl, rfl, by decide⟩
theorem rd_three7 {w : World} {a b c : Value} {t : TypeId} {g : Nat} (hg : w.heap.size = g) : Rd (w.alloc (.cells #[a, b, c] t)) (fun _ => True) 3 (.slice (some ⟨g, 0, none⟩) 1 1) 1 [a, b, c] :=
  hg ▸ rd_new (m := 1) w #[a, b, c] t rfl (by omega) (fun _ => True) trivial
/-- the places before they are sorted -/
def plc0 (ls : List LnI) (i : Nat) : PcI := ⟨i, rkL ls i, sc ls i⟩
set_option maxRecDepth 100000 in
set_option maxHeartbeats 8000000 in
theorem leaderboard_ok (W : World) (v : Value) (m : Nat) (ls : List LnI) (hm : 1 ≤ m ∧ m ≤ 12) (h : RdLn W (· < W.heap.size) v m ls) (hg : GoodL ls) (hn : GoodNs (lnNames ls) m) :
    Calls Tryz.prog 26 #[v] W fun e w' => ∃ (v' : Value) (Y : Nat → PcI), e = .returned (.tuple #[v', .int .i64 0]) ∧ MemP (fun p => ∃ i, i < m ∧ p = plc0 ls i) Y m ∧ St W w' [row 80 3 v' m (pcs Y m)] := by
  have hlen := h.count
  have HCF := Lib.hid (eventField_ok W v m ls (by omega) h hg hn)
  have HRK : Hid (∀ w, Below W.heap.size W w → Calls Tryz.prog 65 #[v, .func (.func 66) #[] #[]] w fun e w' => ∃ v', e = .returned v' ∧ St w w' [row 3 1 v' m (intsI (gl (rkL ls) m))]) := fun w hw =>
    rank_ok w v m ls _ (enters Tryz.func66 (by kernel_rfl) rfl) (by omega) (h.later hw) hg (fun w x => ranked_ok w x)
  have HAT : Hid (∀ i, i < m → ∀ w, Below W.heap.size W w → Calls Tryz.prog 67 #[(lnAt ls i).val, .int .i64 1] w fun e w' => e = .returned (.int .i64 (lnAt ls i).s) ∧ Below w.heap.size w w') := fun i hi w hw => by
    have hx := lnAt_get (ls := ls) (i := i) (by omega)
    exact total_ok w _ (hg _ (List.mem_of_getElem? hx)) ((h.later hw).2 _ (List.mem_of_getElem? hx))
  have HRB : Hid (∀ i, 1 ≤ rkL ls i ∧ rkL ls i ≤ m + 1) := fun i => by
    have := bfL_le ls (lnAt ls i).s
    rw [rkL_N]
    unfold rkN; omega
  obtain ⟨A, c, rfl, _, _, _⟩ := h.1.open_
  have H := Lib.hid h
  have hm1 : 1 ≤ m := hm.1
  have hm2 : m ≤ 12 := hm.2
  clear h hlen hg hn hm
  go_enter Tryz.func26, Tryz.ntmps26
  go_wp2_with fail
  go_at_call 38
  refine HCF.out.mono ?_
  rintro e w1 ⟨rfl, hb1⟩
  have HB1 := Lib.hid hb1
  clear hb1 HCF
  go_wp2_with fail
  go_at_call 65
  refine (HRK.out _ HB1.out).mono ?_
  rintro e w2 ⟨vr, rfl, S2⟩
  have S3 := ((St.of_below HB1.out).call S2).row_nil 80 3
  simp only [List.cons_append, List.nil_append] at S3
  obtain ⟨Ar, cr, rfl, _, _, _⟩ := (S3.row_rd (i := 0) rfl).open_
  have HS3 : Hid (St W w2 [row 3 1 (.slice Ar m cr) m (intsI (gl (rkL ls) m)), row 80 3 (.slice none 0 0) 0 (pcs (plc0 ls) 0)]) := S3
  clear S2 S3 HRK
  go_wp2_with fail
  go_loopw [16, 5] (fun i pv w' => ∃ k : Nat, k ≤ m ∧ i = .int .i64 k ∧ St W w' [row 3 1 (.slice Ar m cr) m (intsI (gl (rkL ls) m)), row 80 3 pv k (pcs (plc0 ls) k)]) (fun i _ _ => m - (intOf i).toNat)
  case atStart => exact ⟨0, Nat.zero_le _, rfl, HS3.out⟩
  case round =>
    obtain ⟨k, hk, rfl, S⟩ := hrel
    clear HS3
    by_cases hlt : k < m
    · obtain ⟨b1, o1, y1, hA1, hy1, c1⟩ := Rd.int (q := .i64) (S.row_rd (i := 0) rfl) hlt
      rw [gl_at _ hlt] at hy1
      cases hy1
      subst hA1
      obtain ⟨b, o, x, hA, hx, _, _, _, _⟩ := (H.out.later S.bel).elem hlt
      subst hA
      have hlx := lnAt_some hx
      have HT := Lib.hid (HAT.out k hlt)
      have hsc : sc ls k = x.s := by unfold sc; rw [hlx]
      rw [hlx] at HT
      have HPC : Hid (pcs (plc0 ls) (k + 1) = pcs (plc0 ls) k ++ [.int .i64 (k : Int), .int .i64 (rkL ls k), .int .i64 x.s]) := by
        show _ = _
        rw [pcs_snoc]
        show _ ++ [Value.int .i64 (k : Int), .int .i64 (rkL ls k), .int .i64 (sc ls k)] = _
        rw [hsc]
      have HCX : Hid (∀ w, Below W.heap.size W w → w.cell? ⟨b, o + k * 4, none⟩ = some (.string x.name) ∧ w.cell? ⟨b, o + k * 4 + 1, none⟩ = some (.bool false) ∧ w.cell? ⟨b, o + k * 4 + 2, none⟩ = some (.slice x.a 1 x.c) ∧ w.cell? ⟨b, o + k * 4 + 3, none⟩ = some (.string ⟨#[]⟩)) := fun w hw => by
        obtain ⟨b', o', x', hA', hx', d0, d1, d2, d3⟩ := (H.out.later hw).elem hlt
        cases hA'
        rw [hx] at hx'
        cases hx'
        exact ⟨d0, d1, d2, d3⟩
      have hrb := HRB.out k
      have s1 : decide ((0 : Int) < rkL ls k) = true := decide_eq_true (by omega)
      obtain ⟨nx, ax, cx, sx⟩ := x
      unfold LnI.val at HT
      simp only at HT HPC HCX
      generalize rkL ls k = rk at *
      have HS := Lib.hid S
      have z1 : decide ((m : Int) ≤ (k : Int)) = false := decide_eq_false (by omega)
      have z2 : decide (m ≤ k) = false := decide_eq_false (by omega)
      clear S hx hlx hsc
      obtain ⟨LY, hLY⟩ : ∃ LY, LY = [row 3 1 (.slice (some ⟨b1, o1, none⟩) m cr) m (intsI (gl (rkL ls) m)), row 80 3 u5 k (pcs (plc0 ls) k)] := ⟨_, rfl⟩
      rw [← hLY] at HS
      have HLY := Lib.hid hLY
      clear hLY
      go_wp2_with fail
      refine wp_pre_tail 1 15 (fun w' => St W w' LY) (by kernel_rfl) (by kernel_rfl) HS.out.drew ?_
      simp only [List.take_succ_cons, List.take_zero, List.drop_succ_cons, List.drop_zero, Nat.reduceSub]
      generalize hK : (fun w' => St W w' LY) = K
      intro hne
      have kS : ∀ y : Wd K, St W y.w LY := by subst hK; exact fun y => y.h
      have hK3 : ∀ w w' : World, K w → Below w.heap.size w w' → K w' := by subst hK; exact fun w w' h h' => h.ext h'
      have y0 : ∀ y : Wd K, y.w.cell? ⟨b, o + k * 4, none⟩ = some (.string nx) := fun y => (HCX.out _ (kS y).bel).1
      have y1 : ∀ y : Wd K, y.w.cell? ⟨b, o + k * 4 + 1, none⟩ = some (.bool false) := fun y => (HCX.out _ (kS y).bel).2.1
      have y2 : ∀ y : Wd K, y.w.cell? ⟨b, o + k * 4 + 2, none⟩ = some (.slice ax 1 cx) := fun y => (HCX.out _ (kS y).bel).2.2.1
      have y3 : ∀ y : Wd K, y.w.cell? ⟨b, o + k * 4 + 3, none⟩ = some (.string ⟨#[]⟩) := fun y => (HCX.out _ (kS y).bel).2.2.2
      have KS := Lib.hid kS
      clear hK kS
      change wpQuiet _ _ _ _ (_ :: []) _
      go_big_quiet_step ((fail))
      refine wpQuiet_nil ?_
      repeat (go_big_quiet_step ((go_at_call 67; exact cls_below hK3 (HT.out _ (KS.out _).bel))))
      refine wpQuiet_nil ?_
      intro y
      have hsy := KS.out y
      rw [HLY.out] at hsy
      have HSY := Lib.hid (hsy.alloc (.cells #[.int .i64 (k : Int), .int .i64 rk, .int .i64 sx] 80))
      clear y0 y1 y2 y3 hK3 hne KS hsy
      generalize y.w = w3 at *
      go_wp2_with (at_builtin; refine wpList_append_st eltPc rfl _ _ rfl rfl HSY.out (k := 1) rfl rfl (rd_three7 (by simp)) (by simp [Value.oneCell']) (by omega) (by omega) ?_; intro v' w4 S7 _; simp only [List.set_cons_zero, List.set_cons_succ] at S7; have HS7 := Lib.hid S7; clear S7)
      refine NoPanic.normal ?_
      go_wp2_with fail
      go_roundw
      case rel => exact ⟨k + 1, by omega, by go_num, by rw [HPC.out]; exact HS7.out⟩
      case measure => simp [intOf]; omega
    · obtain rfl : m = k := by omega
      obtain ⟨g, cap, rfl, _, _, _, _, _⟩ := S.row_form (i := 1) rfl (by omega)
      have HSP := Lib.hid (sortPlaces_any W wr _ 1 g cap m (fun p => ∃ i, i < m ∧ p = plc0 ls i) (plc0 ls) (by omega) S rfl (fun a ha => ⟨a, ha, rfl⟩))
      clear S
      go_wp2_with fail
      go_at_call 68
      refine HSP.out.mono ?_
      rintro e w3 ⟨rfl, Y, hY, S8⟩
      simp only [List.set_cons_zero, List.set_cons_succ] at S8
      have HS8 := Lib.hid (S8.sub (L' := [_]) (.cons _ (List.Sublist.refl _)))
      have HY := Lib.hid hY
      clear S8 hY HSP
      go_wp2_with fail
      go_ret2
      exact ⟨_, Y, rfl, HY.out, HS8.out⟩
end Go.Proofs.YtkkkfjinflepmaaGreatDoor
/- TopDivotCut, plain: the ranks of lists of one score. -/
namespace Go.Proofs.YtkkkfjinflepmaaGreatDoor
open Go.RowKit Go.Mem Go.Sheet Go.Adj
def lsts (f : Nat → Int) (q : Nat) : List (List Int) := (List.range q).map fun i => [f i]
theorem lsts_snoc (f : Nat → Int) (q : Nat) : lsts f (q + 1) = lsts f q ++ [[f q]] := by unfold lsts; rw [List.range_succ, List.map_append]; rfl
theorem lsts_len (f : Nat → Int) (q : Nat) : (lsts f q).length = q := by unfold lsts; rw [List.length_map, List.length_range]
theorem lsts_good {f : Nat → Int} {q : Nat} (h : ∀ i, i < q → -9999 ≤ f i ∧ f i ≤ 9999) : GoodLL (lsts f q) 1 := by
  refine ⟨⟨by omega, by omega⟩, fun r hr => ?_, fun r hr x hx => ?_⟩
  · unfold lsts at hr
    obtain ⟨i, _, rfl⟩ := List.mem_map.1 hr; rfl
  · unfold lsts at hr
    obtain ⟨i, hi, rfl⟩ := List.mem_map.1 hr
    rw [List.mem_singleton] at hx
    subst hx
    exact h i (List.mem_range.1 hi)
theorem cb_one (F G : Nat → Int) : cbLt 1 F G = decide (F 0 < G 0) := by
  rw [← cbF_lt]
  have k1 : ∀ H : Nat → Int, keyF 1 1 H = H 0 := fun H => by
    rw [keyF_yes (Nat.le_refl 1)]
    show 0 + H (1 - 1 + 0) = H 0
    rw [Int.zero_add]
  have k9 : ∀ (c : Nat) (H : Nat → Int), 1 < c → keyF 1 c H = 0 := fun c H h => keyF_no (n := 1) (c := c) (by omega) H
  have e : cbF 1 F G = cmpI (F 0) (G 0) := by
    unfold cbF
    simp only [cbL, k1, k9 9 _ (by omega), k9 6 _ (by omega), k9 3 _ (by omega)]
    by_cases h : cmpI (F 0) (G 0) = 0
    · rw [if_pos h, if_pos (by decide), if_pos (by decide), if_pos (by decide), if_pos h, h]
    · rw [if_neg h]
  rw [e]
  unfold cmpI
  by_cases h : F 0 < G 0
  · rw [if_pos h]; simp [h]
  · rw [if_neg h]; split <;> simp [h]
theorem rank_one {f : Nat → Int} {q i : Nat} (hi : i < q) : rkF 1 (fLL (lsts f q)) i = (rk0 f q i : Int) := by
  unfold rkF rankF before rk0
  have hl : (fLL (lsts f q))[i]? = some (fun j => [f i].getD j 0) := by
    unfold fLL lsts
    rw [List.getElem?_map, List.getElem?_map, List.getElem?_range hi]; rfl
  have ha : lsAt (fLL (lsts f q)) i = fun j => [f i].getD j 0 := by
    have h1 := lsAt_some (ls := fLL (lsts f q)) (i := i) (List.getElem?_eq_some_iff.1 hl).1
    rw [hl] at h1
    exact (Option.some.inj h1).symm
  rw [ha]
  have e : ((fLL (lsts f q)).filter fun b => cbLt 1 b (fun j => [f i].getD j 0)).length = cN (fun j => decide (f j < f i)) q := by
    rw [← selF_len]
    unfold fLL lsts selF
    rw [List.map_map, List.filter_map, List.length_map]
    congr 1
    refine List.filter_congr fun j _ => ?_
    show cbLt 1 (fun i => [f j].getD i 0) (fun j => [f i].getD j 0) = _
    rw [cb_one]; rfl
  rw [e]
theorem rkL_rk0 {ls : List LnI} (i : Nat) : rkL ls i = (rk0 (sc ls) ls.length i : Int) := by
  rw [rkL_N, rkN_cN]; rfl
end Go.Proofs.YtkkkfjinflepmaaGreatDoor
