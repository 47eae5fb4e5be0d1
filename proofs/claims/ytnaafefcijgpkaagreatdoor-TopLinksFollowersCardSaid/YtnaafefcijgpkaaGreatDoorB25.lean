/- Part 25 of the walks of the golf union's program: UF16, UF19, UF27, UF32. -/
import Derived.Test.YtnaafefcijgpkaaGreatDoorB23
import Derived.Test.YtnaafefcijgpkaaGreatDoorB24
import Derived.Test.YtnaafefcijgpkaaGreatDoorB20
set_option linter.unusedVariables false
set_option linter.unusedSimpArgs false
set_option linter.unusedSectionVars false
set_option linter.constructorNameAsVariable false
/- The library's stable sort of messages, only that it permutes: symMerge. -/
namespace Go.Proofs.YtnaafefcijgpkaaGreatDoor
open Go.RowKit Go.Mem Go.Sheet Go.Adj
set_option maxRecDepth 100000 in
set_option maxHeartbeats 16000000 in
theorem sym1_any (a m b : Nat) (W w : World) (L : List Asr) (k0 g c q : Nat) (Y : Nat → MsI) (hq : q ≤ 1000) (S : St W w L) (hL : L[k0]? = some (row 69 6 (.slice (some ⟨g, 0, none⟩) q c) q (pcM Y q))) (ham : m = a + 1) (hmb : m < b) (hb : b ≤ q) : Calls Tryz.prog 101 #[.slice (some ⟨g, 0, none⟩) q c, .int .i64 a, .int .i64 m, .int .i64 b, .func (.func 38) #[] #[]] w fun e w' => e = .returned (.tuple #[]) ∧ ∃ Y', PermG Y Y' q ∧ St W w' (L.set k0 (row 69 6 (.slice (some ⟨g, 0, none⟩) q c) q (pcM Y' q))) := by
  have HIX := Lib.hid (ix_row L k0 g c q Y hL)
  have HSS : Hid (∀ A B : Asr, (L.set k0 A).set k0 B = L.set k0 B) := fun A B => List.set_set ..
  have S0 : St W w (L.set k0 (row 69 6 (.slice (some ⟨g, 0, none⟩) q c) q (pcM Y q))) := by rw [set_self L k0 _ hL]; exact S
  clear S hL
  have t1 : ((m : Int) - (a : Int) == 1) = true := by simp; omega
  have hma : (m : Int) - (a : Int) = 1 := by omega
  have ham' : a < m := by omega
  have haq : a < q := by omega
  have ham2 : m ≤ a + 1 := by omega
  clear ham
  have hE := enters Tryz.func38 (by kernel_rfl) rfl
  unfold Enters at hE
  go_enter Tryz.func101, Tryz.ntmps101
  go_wp2_with fail
  go_loopw [10, 11] (fun i j w' => ∃ (x yy : Nat) (Y' : Nat → MsI), m ≤ x ∧ x ≤ yy ∧ yy ≤ b ∧ i = .int .i64 x ∧ j = .int .i64 yy ∧ Hid (PermG Y Y' q) ∧ St W w' (L.set k0 (row 69 6 (.slice (some ⟨g, 0, none⟩) q c) q (pcM Y' q)))) (fun i j _ => (intOf j).toNat - (intOf i).toNat)
  case atStart => exact ⟨m, b, Y, Nat.le_refl _, by omega, Nat.le_refl _, rfl, rfl, PermG.refl Y q, S0⟩
  case round =>
    clear S0
    obtain ⟨x, yy, Y2, hlx, hxy, hyh, rfl, rfl, hp2, S2⟩ := hrel
    have HS2 := Lib.hid S2
    clear S2
    by_cases hlt : x < yy
    · obtain ⟨h, hh⟩ : ∃ h, h = (x + yy) / 2 := ⟨_, rfl⟩
      have hhm : ((x : Int) + (yy : Int)) / 2 = (h : Int) := by omega
      have hx1 : x ≤ h := by omega
      have hy1 : h < yy := by omega
      clear hh
      have hIq : h < q := by omega
      have hJq := haq
      obtain ⟨LY, hLY⟩ : ∃ LY, LY = L.set k0 (row 69 6 (.slice (some ⟨g, 0, none⟩) q c) q (pcM Y2 q)) := ⟨_, rfl⟩
      rw [← hLY] at HS2
      have HLY := Lib.hid hLY
      clear hLY
      have HCL := Lib.hid (fun w => cmpF_any (Y2 h) (Y2 a) w)
      have HCJ : Hid (∀ w', St W w' LY → (w'.cell? ⟨g, h * 6, none⟩ = some (.string (Y2 h).dev) ∧ w'.cell? ⟨g, h * 6 + 1, none⟩ = some (.int .i64 (Y2 h).num) ∧ w'.cell? ⟨g, h * 6 + 2, none⟩ = some (.string (Y2 h).plr) ∧ w'.cell? ⟨g, h * 6 + 3, none⟩ = some (.int .i64 (Y2 h).hole) ∧ w'.cell? ⟨g, h * 6 + 4, none⟩ = some (.int .i64 (Y2 h).s) ∧ w'.cell? ⟨g, h * 6 + 5, none⟩ = some (.string (Y2 h).m)) ∧ ∀ k, w'.frozen? ⟨g, k, none⟩ = false) := Lib.hid (fun w' h => by
        rw [HLY.out] at h
        exact row_pcM h (HIX.out Y2) hIq)
      have HCK : Hid (∀ w', St W w' LY → (w'.cell? ⟨g, a * 6, none⟩ = some (.string (Y2 a).dev) ∧ w'.cell? ⟨g, a * 6 + 1, none⟩ = some (.int .i64 (Y2 a).num) ∧ w'.cell? ⟨g, a * 6 + 2, none⟩ = some (.string (Y2 a).plr) ∧ w'.cell? ⟨g, a * 6 + 3, none⟩ = some (.int .i64 (Y2 a).hole) ∧ w'.cell? ⟨g, a * 6 + 4, none⟩ = some (.int .i64 (Y2 a).s) ∧ w'.cell? ⟨g, a * 6 + 5, none⟩ = some (.string (Y2 a).m)) ∧ ∀ k, w'.frozen? ⟨g, k, none⟩ = false) := Lib.hid (fun w' h => by
        rw [HLY.out] at h
        exact row_pcM h (HIX.out Y2) hJq)
      generalize cmpN (Y2 h).num (Y2 a).num = cv at *
      generalize hya : Y2 h = ya at *
      generalize hyb : Y2 a = yb at *
      clear hya hyb
      obtain ⟨a0, a1, a2, a3, a4, a5⟩ := ya
      obtain ⟨b0, b1, b2, b3, b4, b5⟩ := yb
      unfold MsI.val at HCL
      simp only at HCL HCJ HCK
      cases hlo2 : decide (cv < 0) with
      | true =>
        go_wp2_with fail
        refine wp_cls 10 (fun w' => St W w' LY) (by kernel_rfl) (by kernel_rfl) HS2.out.drew ?_
        simp only [List.take_succ_cons, List.take_zero, List.drop_succ_cons, List.drop_zero]
        generalize hK : (fun w' => St W w' LY) = K
        intro hne
        have kS : ∀ y : Wd K, St W y.w LY := by subst hK; exact fun y => y.h
        have hK3 : ∀ w w' : World, K w → Below w.heap.size w w' → K w' := by subst hK; exact fun w w' h h' => h.ext h'
        have HC3 : Hid (∀ y : Wd K, Calls Tryz.prog 38 #[.agg #[.string a0, .int .i64 a1, .string a2, .int .i64 a3, .int .i64 a4, .string a5], .agg #[.string b0, .int .i64 b1, .string b2, .int .i64 b3, .int .i64 b4, .string b5]] y.w fun e w2 => e = .returned (.int .i64 cv) ∧ ∃ z : Wd K, w2 = z.w) := fun y => cls_below hK3 (HCL.out _)
        have y0 : ∀ y : Wd K, y.w.cell? ⟨g, h * 6, none⟩ = some (.string a0) := fun y => (HCJ.out _ (kS y)).1.1
        have y1 : ∀ y : Wd K, y.w.cell? ⟨g, h * 6 + 1, none⟩ = some (.int .i64 a1) := fun y => (HCJ.out _ (kS y)).1.2.1
        have y2 : ∀ y : Wd K, y.w.cell? ⟨g, h * 6 + 2, none⟩ = some (.string a2) := fun y => (HCJ.out _ (kS y)).1.2.2.1
        have y3 : ∀ y : Wd K, y.w.cell? ⟨g, h * 6 + 3, none⟩ = some (.int .i64 a3) := fun y => (HCJ.out _ (kS y)).1.2.2.2.1
        have y4 : ∀ y : Wd K, y.w.cell? ⟨g, h * 6 + 4, none⟩ = some (.int .i64 a4) := fun y => (HCJ.out _ (kS y)).1.2.2.2.2.1
        have y5 : ∀ y : Wd K, y.w.cell? ⟨g, h * 6 + 5, none⟩ = some (.string a5) := fun y => (HCJ.out _ (kS y)).1.2.2.2.2.2
        have y6 : ∀ y : Wd K, y.w.cell? ⟨g, a * 6, none⟩ = some (.string b0) := fun y => (HCK.out _ (kS y)).1.1
        have y7 : ∀ y : Wd K, y.w.cell? ⟨g, a * 6 + 1, none⟩ = some (.int .i64 b1) := fun y => (HCK.out _ (kS y)).1.2.1
        have y8 : ∀ y : Wd K, y.w.cell? ⟨g, a * 6 + 2, none⟩ = some (.string b2) := fun y => (HCK.out _ (kS y)).1.2.2.1
        have y9 : ∀ y : Wd K, y.w.cell? ⟨g, a * 6 + 3, none⟩ = some (.int .i64 b3) := fun y => (HCK.out _ (kS y)).1.2.2.2.1
        have y10 : ∀ y : Wd K, y.w.cell? ⟨g, a * 6 + 4, none⟩ = some (.int .i64 b4) := fun y => (HCK.out _ (kS y)).1.2.2.2.2.1
        have y11 : ∀ y : Wd K, y.w.cell? ⟨g, a * 6 + 5, none⟩ = some (.string b5) := fun y => (HCK.out _ (kS y)).1.2.2.2.2.2
        have KS := Lib.hid kS
        clear hK kS
        go_big_quiet_step ((fail))
        go_big_quiet_step ((fail))
        go_big_quiet_step ((fail))
        go_big_quiet_step ((fail))
        go_big_quiet_step ((fail))
        go_big_quiet_step ((fail))
        go_big_quiet_step ((fail))
        go_big_quiet_step ((fail))
        go_big_quiet_step ((fail))
        go_big_quiet_step ((exact HC3.out _))
        refine wpQuiet_nil ?_
        intro y
        have HSY := Lib.hid (KS.out y)
        clear y0 y1 y2 y3 y4 y5 y6 y7 y8 y9 y10 y11 hK3 HC3 hne KS HS2
        generalize y.w = w3 at *
        have hsy := HSY.out
        rw [HLY.out] at hsy
        have HSF := Lib.hid hsy
        clear hsy HSY
        go_wp2_with fail
        go_roundw
        case rel => exact ⟨h + 1, yy, Y2, by omega, by omega, by omega, by go_num, by go_num, hp2, HSF.out⟩
        case measure => simp [intOf]; omega
      | false =>
        go_wp2_with fail
        refine wp_cls 10 (fun w' => St W w' LY) (by kernel_rfl) (by kernel_rfl) HS2.out.drew ?_
        simp only [List.take_succ_cons, List.take_zero, List.drop_succ_cons, List.drop_zero]
        generalize hK : (fun w' => St W w' LY) = K
        intro hne
        have kS : ∀ y : Wd K, St W y.w LY := by subst hK; exact fun y => y.h
        have hK3 : ∀ w w' : World, K w → Below w.heap.size w w' → K w' := by subst hK; exact fun w w' h h' => h.ext h'
        have HC3 : Hid (∀ y : Wd K, Calls Tryz.prog 38 #[.agg #[.string a0, .int .i64 a1, .string a2, .int .i64 a3, .int .i64 a4, .string a5], .agg #[.string b0, .int .i64 b1, .string b2, .int .i64 b3, .int .i64 b4, .string b5]] y.w fun e w2 => e = .returned (.int .i64 cv) ∧ ∃ z : Wd K, w2 = z.w) := fun y => cls_below hK3 (HCL.out _)
        have y0 : ∀ y : Wd K, y.w.cell? ⟨g, h * 6, none⟩ = some (.string a0) := fun y => (HCJ.out _ (kS y)).1.1
        have y1 : ∀ y : Wd K, y.w.cell? ⟨g, h * 6 + 1, none⟩ = some (.int .i64 a1) := fun y => (HCJ.out _ (kS y)).1.2.1
        have y2 : ∀ y : Wd K, y.w.cell? ⟨g, h * 6 + 2, none⟩ = some (.string a2) := fun y => (HCJ.out _ (kS y)).1.2.2.1
        have y3 : ∀ y : Wd K, y.w.cell? ⟨g, h * 6 + 3, none⟩ = some (.int .i64 a3) := fun y => (HCJ.out _ (kS y)).1.2.2.2.1
        have y4 : ∀ y : Wd K, y.w.cell? ⟨g, h * 6 + 4, none⟩ = some (.int .i64 a4) := fun y => (HCJ.out _ (kS y)).1.2.2.2.2.1
        have y5 : ∀ y : Wd K, y.w.cell? ⟨g, h * 6 + 5, none⟩ = some (.string a5) := fun y => (HCJ.out _ (kS y)).1.2.2.2.2.2
        have y6 : ∀ y : Wd K, y.w.cell? ⟨g, a * 6, none⟩ = some (.string b0) := fun y => (HCK.out _ (kS y)).1.1
        have y7 : ∀ y : Wd K, y.w.cell? ⟨g, a * 6 + 1, none⟩ = some (.int .i64 b1) := fun y => (HCK.out _ (kS y)).1.2.1
        have y8 : ∀ y : Wd K, y.w.cell? ⟨g, a * 6 + 2, none⟩ = some (.string b2) := fun y => (HCK.out _ (kS y)).1.2.2.1
        have y9 : ∀ y : Wd K, y.w.cell? ⟨g, a * 6 + 3, none⟩ = some (.int .i64 b3) := fun y => (HCK.out _ (kS y)).1.2.2.2.1
        have y10 : ∀ y : Wd K, y.w.cell? ⟨g, a * 6 + 4, none⟩ = some (.int .i64 b4) := fun y => (HCK.out _ (kS y)).1.2.2.2.2.1
        have y11 : ∀ y : Wd K, y.w.cell? ⟨g, a * 6 + 5, none⟩ = some (.string b5) := fun y => (HCK.out _ (kS y)).1.2.2.2.2.2
        have KS := Lib.hid kS
        clear hK kS
        go_big_quiet_step ((fail))
        go_big_quiet_step ((fail))
        go_big_quiet_step ((fail))
        go_big_quiet_step ((fail))
        go_big_quiet_step ((fail))
        go_big_quiet_step ((fail))
        go_big_quiet_step ((fail))
        go_big_quiet_step ((fail))
        go_big_quiet_step ((fail))
        go_big_quiet_step ((exact HC3.out _))
        refine wpQuiet_nil ?_
        intro y
        have HSY := Lib.hid (KS.out y)
        clear y0 y1 y2 y3 y4 y5 y6 y7 y8 y9 y10 y11 hK3 HC3 hne KS HS2
        generalize y.w = w3 at *
        have hsy := HSY.out
        rw [HLY.out] at hsy
        have HSF := Lib.hid hsy
        clear hsy HSY
        go_wp2_with fail
        go_roundw
        case rel => exact ⟨x, h, Y2, by omega, by omega, by omega, by go_num, by go_num, hp2, HSF.out⟩
        case measure => simp [intOf]; omega
    · obtain rfl : x = yy := by omega
      clear hlt
      obtain ⟨xp, hxp⟩ : ∃ xp, xp = x - 1 := ⟨_, rfl⟩
      have hxm : (x : Int) - 1 = (xp : Int) := by omega
      have hxw : IntKind.i64.wrap ((x : Int) - 1) = (xp : Int) := by rw [hxm]; exact IntWalk.i64_in _ (by omega)
      have hxb : xp + 1 ≤ b := by omega
      have hax : a ≤ xp := by omega
      clear hxp
      go_wp2_with fail
      go_loopw [13] (fun i w' => ∃ (k : Nat) (Y' : Nat → MsI), a ≤ k ∧ k ≤ xp ∧ i = .int .i64 k ∧ Hid (PermG Y Y' q) ∧ St W w' (L.set k0 (row 69 6 (.slice (some ⟨g, 0, none⟩) q c) q (pcM Y' q)))) (fun i _ => xp - (intOf i).toNat)
      case atStart => exact ⟨a, Y2, by omega, by omega, rfl, hp2, HS2.out⟩
      case round =>
        obtain ⟨k, Y2, hka, hkb, rfl, hp2, S2⟩ := hrel
        clear HS2
        have HS2 := Lib.hid S2
        clear S2
        by_cases hlt : k < xp
        · 
          have t4 : decide ((k : Int) < (xp : Int)) = true := by simp; omega
          have t4' : decide (k < xp) = true := by simp; omega
          obtain ⟨kn, hkn⟩ : ∃ kn, kn = k + 1 := ⟨_, rfl⟩
          have hnm : (k : Int) + 1 = (kn : Int) := by omega
          have hnw : IntKind.i64.wrap ((k : Int) + 1) = (kn : Int) := by rw [hnm]; exact IntWalk.i64_in _ (by omega)
          have hIq : k < q := by omega
          have hJq : kn < q := by omega
          have HNE : Hid (k ≠ kn) := Lib.hid (by omega)
          have hkx : kn ≤ xp := by omega
          have hkk : k + 1 ≤ kn := by omega
          clear hkn
          have HPN := Lib.hid (PermG.swA hp2.out hIq hJq)
          obtain ⟨LY, hLY⟩ : ∃ LY, LY = L.set k0 (row 69 6 (.slice (some ⟨g, 0, none⟩) q c) q (pcM Y2 q)) := ⟨_, rfl⟩
          rw [← hLY] at HS2
          have HLY := Lib.hid hLY
          clear hLY
          have HCJ : Hid (∀ w', St W w' LY → (w'.cell? ⟨g, k * 6, none⟩ = some (.string (Y2 k).dev) ∧ w'.cell? ⟨g, k * 6 + 1, none⟩ = some (.int .i64 (Y2 k).num) ∧ w'.cell? ⟨g, k * 6 + 2, none⟩ = some (.string (Y2 k).plr) ∧ w'.cell? ⟨g, k * 6 + 3, none⟩ = some (.int .i64 (Y2 k).hole) ∧ w'.cell? ⟨g, k * 6 + 4, none⟩ = some (.int .i64 (Y2 k).s) ∧ w'.cell? ⟨g, k * 6 + 5, none⟩ = some (.string (Y2 k).m)) ∧ ∀ k, w'.frozen? ⟨g, k, none⟩ = false) := Lib.hid (fun w' h => by
            rw [HLY.out] at h
            exact row_pcM h (HIX.out Y2) hIq)
          have HCK : Hid (∀ w', St W w' LY → (w'.cell? ⟨g, kn * 6, none⟩ = some (.string (Y2 kn).dev) ∧ w'.cell? ⟨g, kn * 6 + 1, none⟩ = some (.int .i64 (Y2 kn).num) ∧ w'.cell? ⟨g, kn * 6 + 2, none⟩ = some (.string (Y2 kn).plr) ∧ w'.cell? ⟨g, kn * 6 + 3, none⟩ = some (.int .i64 (Y2 kn).hole) ∧ w'.cell? ⟨g, kn * 6 + 4, none⟩ = some (.int .i64 (Y2 kn).s) ∧ w'.cell? ⟨g, kn * 6 + 5, none⟩ = some (.string (Y2 kn).m)) ∧ ∀ k, w'.frozen? ⟨g, k, none⟩ = false) := Lib.hid (fun w' h => by
            rw [HLY.out] at h
            exact row_pcM h (HIX.out Y2) hJq)
          have HST : Hid (∀ w', St W w' LY → St W ((((((((((((w'.setCell ⟨g, k * 6, none⟩ (.string (Y2 kn).dev)).setCell ⟨g, k * 6 + 1, none⟩ (.int .i64 (Y2 kn).num)).setCell ⟨g, k * 6 + 2, none⟩ (.string (Y2 kn).plr)).setCell ⟨g, k * 6 + 3, none⟩ (.int .i64 (Y2 kn).hole)).setCell ⟨g, k * 6 + 4, none⟩ (.int .i64 (Y2 kn).s)).setCell ⟨g, k * 6 + 5, none⟩ (.string (Y2 kn).m)).setCell ⟨g, kn * 6, none⟩ (.string (Y2 k).dev)).setCell ⟨g, kn * 6 + 1, none⟩ (.int .i64 (Y2 k).num)).setCell ⟨g, kn * 6 + 2, none⟩ (.string (Y2 k).plr)).setCell ⟨g, kn * 6 + 3, none⟩ (.int .i64 (Y2 k).hole)).setCell ⟨g, kn * 6 + 4, none⟩ (.int .i64 (Y2 k).s)).setCell ⟨g, kn * 6 + 5, none⟩ (.string (Y2 k).m)) (L.set k0 (row 69 6 (.slice (some ⟨g, 0, none⟩) q c) q (pcM (swA Y2 k kn) q)))) := Lib.hid (fun w' h => by
            rw [HLY.out] at h
            have h1 := row_pcMset h (HIX.out Y2) hIq (Y2 kn)
            rw [HSS.out] at h1
            have h2 := row_pcMset h1 (HIX.out _) hJq (Y2 k)
            rw [HSS.out, upM_swA Y2 HNE.out] at h2
            exact h2)
          obtain ⟨Y3, hY3⟩ : ∃ Y3, Y3 = swA Y2 k kn := ⟨_, rfl⟩
          rw [← hY3] at HST HPN
          clear hY3
          generalize hya : Y2 k = ya at *
          generalize hyb : Y2 kn = yb at *
          clear hya hyb
          obtain ⟨a0, a1, a2, a3, a4, a5⟩ := ya
          obtain ⟨b0, b1, b2, b3, b4, b5⟩ := yb
          simp only at HCJ HCK HST
          go_wp2_with fail
          refine wp_pre_tail 5 15 (fun w' => ∃ n, w' = wr.drewN n) (by kernel_rfl) (by kernel_rfl) ⟨1, rfl⟩ ?_
          simp only [List.take_succ_cons, List.take_zero, List.drop_succ_cons, List.drop_zero, Nat.reduceSub]
          generalize hK : (fun w' => ∃ n, w' = wr.drewN n) = K
          intro hne
          have kS : ∀ y : Wd K, St W y.w LY := by subst hK; exact fun y => by obtain ⟨n, e⟩ := y.h; rw [e]; exact HS2.out.drewN n
          have y0 : ∀ y : Wd K, y.w.cell? ⟨g, k * 6, none⟩ = some (.string a0) := fun y => (HCJ.out _ (kS y)).1.1
          have y1 : ∀ y : Wd K, y.w.cell? ⟨g, k * 6 + 1, none⟩ = some (.int .i64 a1) := fun y => (HCJ.out _ (kS y)).1.2.1
          have y2 : ∀ y : Wd K, y.w.cell? ⟨g, k * 6 + 2, none⟩ = some (.string a2) := fun y => (HCJ.out _ (kS y)).1.2.2.1
          have y3 : ∀ y : Wd K, y.w.cell? ⟨g, k * 6 + 3, none⟩ = some (.int .i64 a3) := fun y => (HCJ.out _ (kS y)).1.2.2.2.1
          have y4 : ∀ y : Wd K, y.w.cell? ⟨g, k * 6 + 4, none⟩ = some (.int .i64 a4) := fun y => (HCJ.out _ (kS y)).1.2.2.2.2.1
          have y5 : ∀ y : Wd K, y.w.cell? ⟨g, k * 6 + 5, none⟩ = some (.string a5) := fun y => (HCJ.out _ (kS y)).1.2.2.2.2.2
          have y6 : ∀ y : Wd K, y.w.cell? ⟨g, kn * 6, none⟩ = some (.string b0) := fun y => (HCK.out _ (kS y)).1.1
          have y7 : ∀ y : Wd K, y.w.cell? ⟨g, kn * 6 + 1, none⟩ = some (.int .i64 b1) := fun y => (HCK.out _ (kS y)).1.2.1
          have y8 : ∀ y : Wd K, y.w.cell? ⟨g, kn * 6 + 2, none⟩ = some (.string b2) := fun y => (HCK.out _ (kS y)).1.2.2.1
          have y9 : ∀ y : Wd K, y.w.cell? ⟨g, kn * 6 + 3, none⟩ = some (.int .i64 b3) := fun y => (HCK.out _ (kS y)).1.2.2.2.1
          have y10 : ∀ y : Wd K, y.w.cell? ⟨g, kn * 6 + 4, none⟩ = some (.int .i64 b4) := fun y => (HCK.out _ (kS y)).1.2.2.2.2.1
          have y11 : ∀ y : Wd K, y.w.cell? ⟨g, kn * 6 + 5, none⟩ = some (.string b5) := fun y => (HCK.out _ (kS y)).1.2.2.2.2.2
          have KS := Lib.hid kS
          clear hK kS
          change wpQuiet _ _ _ _ (_ :: _ :: _ :: _ :: _ :: []) _
          iterate 5 (go_big_quiet_step ((fail)))
          refine wpQuiet_nil ?_
          repeat (go_big_quiet_step ((fail)))
          refine wpQuiet_nil ?_
          intro y
          have hsy := KS.out y
          clear y0 y1 y2 y3 y4 y5 y6 y7 y8 y9 y10 y11 hne KS HS2
          generalize y.w = w4 at *
          obtain ⟨⟨c0, c1, c2, c3, c4, c5⟩, f0⟩ := HCJ.out _ hsy
          obtain ⟨⟨d0, d1, d2, d3, d4, d5⟩, _⟩ := HCK.out _ hsy
          have f00 := f0 (k * 6)
          have f01 := f0 (k * 6 + 1)
          have f02 := f0 (k * 6 + 2)
          have f03 := f0 (k * 6 + 3)
          have f04 := f0 (k * 6 + 4)
          have f05 := f0 (k * 6 + 5)
          have f10 := f0 (kn * 6)
          have f11 := f0 (kn * 6 + 1)
          have f12 := f0 (kn * 6 + 2)
          have f13 := f0 (kn * 6 + 3)
          have f14 := f0 (kn * 6 + 4)
          have f15 := f0 (kn * 6 + 5)
          have HSG := Lib.hid (HST.out _ hsy)
          have hne9 := HNE.out
          have n0_0 : k * 6 ≠ kn * 6 := by omega
          have n0_1 : k * 6 ≠ kn * 6 + 1 := by omega
          have n0_2 : k * 6 ≠ kn * 6 + 2 := by omega
          have n0_3 : k * 6 ≠ kn * 6 + 3 := by omega
          have n0_4 : k * 6 ≠ kn * 6 + 4 := by omega
          have n0_5 : k * 6 ≠ kn * 6 + 5 := by omega
          have n1_0 : k * 6 + 1 ≠ kn * 6 := by omega
          have n1_1 : k * 6 + 1 ≠ kn * 6 + 1 := by omega
          have n1_2 : k * 6 + 1 ≠ kn * 6 + 2 := by omega
          have n1_3 : k * 6 + 1 ≠ kn * 6 + 3 := by omega
          have n1_4 : k * 6 + 1 ≠ kn * 6 + 4 := by omega
          have n1_5 : k * 6 + 1 ≠ kn * 6 + 5 := by omega
          have n2_0 : k * 6 + 2 ≠ kn * 6 := by omega
          have n2_1 : k * 6 + 2 ≠ kn * 6 + 1 := by omega
          have n2_2 : k * 6 + 2 ≠ kn * 6 + 2 := by omega
          have n2_3 : k * 6 + 2 ≠ kn * 6 + 3 := by omega
          have n2_4 : k * 6 + 2 ≠ kn * 6 + 4 := by omega
          have n2_5 : k * 6 + 2 ≠ kn * 6 + 5 := by omega
          have n3_0 : k * 6 + 3 ≠ kn * 6 := by omega
          have n3_1 : k * 6 + 3 ≠ kn * 6 + 1 := by omega
          have n3_2 : k * 6 + 3 ≠ kn * 6 + 2 := by omega
          have n3_3 : k * 6 + 3 ≠ kn * 6 + 3 := by omega
          have n3_4 : k * 6 + 3 ≠ kn * 6 + 4 := by omega
          have n3_5 : k * 6 + 3 ≠ kn * 6 + 5 := by omega
          have n4_0 : k * 6 + 4 ≠ kn * 6 := by omega
          have n4_1 : k * 6 + 4 ≠ kn * 6 + 1 := by omega
          have n4_2 : k * 6 + 4 ≠ kn * 6 + 2 := by omega
          have n4_3 : k * 6 + 4 ≠ kn * 6 + 3 := by omega
          have n4_4 : k * 6 + 4 ≠ kn * 6 + 4 := by omega
          have n4_5 : k * 6 + 4 ≠ kn * 6 + 5 := by omega
          have n5_0 : k * 6 + 5 ≠ kn * 6 := by omega
          have n5_1 : k * 6 + 5 ≠ kn * 6 + 1 := by omega
          have n5_2 : k * 6 + 5 ≠ kn * 6 + 2 := by omega
          have n5_3 : k * 6 + 5 ≠ kn * 6 + 3 := by omega
          have n5_4 : k * 6 + 5 ≠ kn * 6 + 4 := by omega
          have n5_5 : k * 6 + 5 ≠ kn * 6 + 5 := by omega
          clear hsy f0 hne9
          go_wp2_with fail
          refine NoPanic.normal ?_
          go_wp2_with fail
          go_roundw
          case rel => exact ⟨kn, Y3, by omega, by omega, by go_num, HPN, HSG.out⟩
          case measure => simp [intOf]; omega
        · have t4 : decide ((k : Int) < (xp : Int)) = false := by simp; omega
          have t4' : decide (k < xp) = false := by simp; omega
          go_wp2_with fail
          refine bodyPost_ret (results_none rfl _ _ _) rfl ?_
          exact ⟨rfl, Y2, hp2.out, HS2.out⟩
end Go.Proofs.YtnaafefcijgpkaaGreatDoor
/- The library's stable sort of messages, only that it permutes: symMerge. -/
namespace Go.Proofs.YtnaafefcijgpkaaGreatDoor
open Go.RowKit Go.Mem Go.Sheet Go.Adj
theorem sym_any : ∀ (d a m b : Nat) (W w : World) (L : List Asr) (k0 g c q : Nat) (Y : Nat → MsI) (hq : q ≤ 1000) (S : St W w L) (hL : L[k0]? = some (row 69 6 (.slice (some ⟨g, 0, none⟩) q c) q (pcM Y q))) (hd : b - a ≤ d) (ham : a < m) (hmb : m < b) (hb : b ≤ q), Calls Tryz.prog 101 #[.slice (some ⟨g, 0, none⟩) q c, .int .i64 a, .int .i64 m, .int .i64 b, .func (.func 38) #[] #[]] w fun e w' => e = .returned (.tuple #[]) ∧ ∃ Y', PermG Y Y' q ∧ St W w' (L.set k0 (row 69 6 (.slice (some ⟨g, 0, none⟩) q c) q (pcM Y' q)))
  | 0, a, m, b, W, w, L, k0, g, c, q, Y, hq, S, hL, hd, ham, hmb, hb => by omega
  | d + 1, a, m, b, W, w, L, k0, g, c, q, Y, hq, S, hL, hd, ham, hmb, hb => by
    by_cases h1 : m = a + 1
    · exact sym1_any a m b W w L k0 g c q Y hq S hL h1 hmb hb
    by_cases h2 : b = m + 1
    · exact sym2_any a m b W w L k0 g c q Y hq S hL ham h1 h2 hb
    refine sym3_any a m b W w L k0 g c q Y hq S hL ham hmb h1 h2 hb ?_ ?_
    · refine Lib.hid (fun a' m' b' w' Y' h3 h4 h5 h6 hp S' => ?_)
      refine (sym_any d a' m' b' W w' _ k0 g c q Y' hq S' (ix_row L k0 g c q Y hL Y') (by omega) h4 h5 h6).mono ?_
      rintro e w2 ⟨he, Y2, hp2, S2⟩
      rw [List.set_set] at S2
      exact ⟨he, Y2, hp.trans hp2, S2⟩
    · refine Lib.hid (fun a' m' b' w' Y' h4 h5 h6 hp S' => ?_)
      refine (rot_any a' m' b' W w' _ k0 g c q Y' hq S' (ix_row L k0 g c q Y hL Y') h4 h5 h6).mono ?_
      rintro e w2 ⟨he, Y2, hp2, S2⟩
      rw [List.set_set] at S2
      exact ⟨he, Y2, hp.trans hp2, S2⟩
set_option maxRecDepth 100000 in
set_option maxHeartbeats 16000000 in
theorem stab_any (W w : World) (L : List Asr) (k0 g c q : Nat) (Y : Nat → MsI) (hq : q ≤ 1000) (S : St W w L) (hL : L[k0]? = some (row 69 6 (.slice (some ⟨g, 0, none⟩) q c) q (pcM Y q))) (hq2 : q ≤ 39) :
    Calls Tryz.prog 70 #[.slice (some ⟨g, 0, none⟩) q c, .int .i64 q, .func (.func 38) #[] #[]] w fun e w' => e = .returned (.tuple #[]) ∧ ∃ Y', PermG Y Y' q ∧ St W w' (L.set k0 (row 69 6 (.slice (some ⟨g, 0, none⟩) q c) q (pcM Y' q))) := by
  have HIN : Hid (∀ (lo hi : Nat) w' Y', lo ≤ hi → hi ≤ q → PermG Y Y' q → St W w' (L.set k0 (row 69 6 (.slice (some ⟨g, 0, none⟩) q c) q (pcM Y' q))) → Calls Tryz.prog 100 #[.slice (some ⟨g, 0, none⟩) q c, .int .i64 lo, .int .i64 hi, .func (.func 38) #[] #[]] w' fun e w2 => e = .returned (.tuple #[]) ∧ ∃ Y2, PermG Y Y2 q ∧ St W w2 (L.set k0 (row 69 6 (.slice (some ⟨g, 0, none⟩) q c) q (pcM Y2 q)))) := Lib.hid (fun lo hi w' Y' h1 h2 hp S' => by
    refine (insM_any lo hi W w' _ k0 g c q Y' hq S' (ix_row L k0 g c q Y hL Y') h1 h2).mono ?_
    rintro e w2 ⟨he, Y2, hp2, S2⟩
    rw [List.set_set] at S2
    exact ⟨he, Y2, hp.trans hp2, S2⟩)
  have HSY : Hid (∀ w' Y', 20 < q → PermG Y Y' q → St W w' (L.set k0 (row 69 6 (.slice (some ⟨g, 0, none⟩) q c) q (pcM Y' q))) → Calls Tryz.prog 101 #[.slice (some ⟨g, 0, none⟩) q c, .int .i64 0, .int .i64 20, .int .i64 q, .func (.func 38) #[] #[]] w' fun e w2 => e = .returned (.tuple #[]) ∧ ∃ Y2, PermG Y Y2 q ∧ St W w2 (L.set k0 (row 69 6 (.slice (some ⟨g, 0, none⟩) q c) q (pcM Y2 q)))) := Lib.hid (fun w' Y' h1 hp S' => by
    refine (sym_any q 0 20 q W w' _ k0 g c q Y' hq S' (ix_row L k0 g c q Y hL Y') (by omega) (by decide) h1 (Nat.le_refl _)).mono ?_
    rintro e w2 ⟨he, Y2, hp2, S2⟩
    rw [List.set_set] at S2
    exact ⟨he, Y2, hp.trans hp2, S2⟩)
  have S0 : St W w (L.set k0 (row 69 6 (.slice (some ⟨g, 0, none⟩) q c) q (pcM Y q))) := by rw [set_self L k0 _ hL]; exact S
  have HS0 := Lib.hid S0
  clear S hL S0
  have t2 : decide ((40 : Int) ≤ (q : Int)) = false := by simp; omega
  have t2' : decide (40 ≤ q) = false := by simp; omega
  have t4 : decide ((40 : Int) < (q : Int)) = false := by simp; omega
  go_enter Tryz.func70, Tryz.ntmps70
  go_wp2_with fail
  go_loopw [7, 8] (fun i j w' => ∃ (x y : Nat) (Y' : Nat → MsI), ((x = 0 ∧ y = 20) ∨ (x = 20 ∧ y = 40 ∧ 20 ≤ q)) ∧ i = .int .i64 x ∧ j = .int .i64 y ∧ Hid (PermG Y Y' q) ∧ St W w' (L.set k0 (row 69 6 (.slice (some ⟨g, 0, none⟩) q c) q (pcM Y' q)))) (fun i j _ => 40 - (intOf j).toNat)
  case atStart => exact ⟨0, 20, Y, .inl ⟨rfl, rfl⟩, rfl, rfl, PermG.refl Y q, HS0.out⟩
  case round =>
    obtain ⟨x, yy, Y2, hxy, rfl, rfl, hp2, S2⟩ := hrel
    clear HS0
    by_cases hyq : yy ≤ q
    · obtain ⟨rfl, rfl⟩ : x = 0 ∧ yy = 20 := by omega
      have hq20 : 20 ≤ q := hyq
      have t1 : decide ((20 : Int) ≤ (q : Int)) = true := by simp; omega
      have t1' : decide (20 ≤ q) = true := by simp; omega
      have HC := Lib.hid (HIN.out 0 20 _ Y2 (by decide) hyq hp2.out S2)
      clear HIN S2 hxy
      go_wp2_with fail
      refine HC.out.mono ?_
      rintro e w5 ⟨rfl, Y5, hp5, S5⟩
      have HP5 := Lib.hid hp5
      have HS5 := Lib.hid S5
      clear hp5 S5 HC
      go_wp2_with fail
      go_roundw
      case rel => exact ⟨20, 40, Y5, .inr ⟨rfl, rfl, hq20⟩, by go_num, by go_num, HP5, HS5.out⟩
      case measure => simp [intOf]
    · have hxq : x ≤ q := by omega
      have t1 : decide ((yy : Int) ≤ (q : Int)) = false := by simp; omega
      have t1' : decide (yy ≤ q) = false := by simp; omega
      have HC := Lib.hid (HIN.out x q _ Y2 hxq (Nat.le_refl _) hp2.out S2)
      clear HIN S2 hxy
      go_wp2_with fail
      refine HC.out.mono ?_
      rintro e w5 ⟨rfl, Y5, hp5, S5⟩
      have HP5 := Lib.hid hp5
      have HS5 := Lib.hid S5
      clear hp5 S5 HC hp2
      go_wp2_with fail
      go_loopw [6] (fun i w' => ∃ (z : Nat) (Y' : Nat → MsI), (z = 20 ∨ z = 40) ∧ i = .int .i64 z ∧ Hid (PermG Y Y' q) ∧ St W w' (L.set k0 (row 69 6 (.slice (some ⟨g, 0, none⟩) q c) q (pcM Y' q)))) (fun i _ => 40 - (intOf i).toNat)
      case atStart => exact ⟨20, Y5, .inl rfl, rfl, HP5, HS5.out⟩
      case round =>
        obtain ⟨z, Y6, hz, rfl, hp6, S6⟩ := hrel
        clear HP5 HS5
        have HS6 := Lib.hid S6
        clear S6
        by_cases hzq : z < q
        · obtain rfl : z = 20 := by omega
          have t5 : decide ((20 : Int) < (q : Int)) = true := by simp; omega
          have t5' : decide (20 < q) = true := by simp; omega
          have HC := Lib.hid (HSY.out _ Y6 hzq hp6.out HS6.out)
          clear HSY
          go_wp2_with fail
          go_loopw [7, 8] (fun i j w' => i = .int .i64 0 ∧ j = .int .i64 40 ∧ w' = wr) (fun _ _ _ => 0)
          case atStart => exact ⟨by go_num, by go_num, rfl⟩
          case round =>
            obtain ⟨rfl, rfl, rfl⟩ := hrel
            go_wp2_with fail
            refine HC.out.mono ?_
            rintro e w7 ⟨rfl, Y7, hp7, S7⟩
            have HP7 := Lib.hid hp7
            have HS7 := Lib.hid S7
            clear hp7 S7 HC
            go_wp2_with fail
            go_roundw
            case rel => exact ⟨40, Y7, .inr rfl, by go_num, HP7, HS7.out⟩
            case measure => simp [intOf]
        · have t5 : decide ((z : Int) < (q : Int)) = false := by simp; omega
          have t5' : decide (z < q) = false := by simp; omega
          go_wp2_with fail
          go_end0
          exact ⟨rfl, Y6, hp6.out, HS6.out⟩
set_option maxRecDepth 100000 in
set_option maxHeartbeats 4000000 in
theorem sortM_any (W w : World) (L : List Asr) (k0 g c q : Nat) (Y : Nat → MsI) (hq : q ≤ 1000) (S : St W w L) (hL : L[k0]? = some (row 69 6 (.slice (some ⟨g, 0, none⟩) q c) q (pcM Y q))) (hq2 : q ≤ 39) :
    Calls Tryz.prog 37 #[.slice (some ⟨g, 0, none⟩) q c, .func (.func 38) #[] #[]] w fun e w' => e = .returned (.tuple #[]) ∧ ∃ Y', PermG Y Y' q ∧ St W w' (L.set k0 (row 69 6 (.slice (some ⟨g, 0, none⟩) q c) q (pcM Y' q))) := by
  have HC := Lib.hid (stab_any W w L k0 g c q Y hq S hL hq2)
  clear S hL
  go_enter Tryz.func37, Tryz.ntmps37
  go_wp2_with fail
  refine HC.out.mono ?_
  rintro e w2 ⟨rfl, Y2, hp2, S2⟩
  have HP2 := Lib.hid hp2
  have HS2 := Lib.hid S2
  clear hp2 S2
  go_wp2_with fail
  go_end0
  exact ⟨rfl, Y2, HP2.out, HS2.out⟩
end Go.Proofs.YtnaafefcijgpkaaGreatDoor
/- The stable sort of a row of messages, with or without an address. -/
namespace Go.Proofs.YtnaafefcijgpkaaGreatDoor
open Go.RowKit Go.Mem Go.Sheet Go.Adj
theorem sortR_any (W w : World) (L : List Asr) (k0 q : Nat) (v : Value) (Y : Nat → MsI) (hq : q ≤ 39) (S : St W w L) (hL : L[k0]? = some (row 69 6 v q (pcM Y q))) :
    Calls Tryz.prog 37 #[v, .func (.func 38) #[] #[]] w fun e w' => e = .returned (.tuple #[]) ∧ ∃ Y', PermG Y Y' q ∧ St W w' (L.set k0 (row 69 6 v q (pcM Y' q))) := by
  rcases Nat.eq_zero_or_pos q with h0 | h0
  · subst h0
    obtain ⟨A, c, rfl, _, _, _⟩ := (S.row_rd hL).open_
    refine (sortM_0 A c w).mono ?_
    rintro e w' ⟨he, rfl⟩
    exact ⟨he, Y, PermG.refl Y 0, by rw [set_self L k0 _ hL]; exact S⟩
  · obtain ⟨g, cap, hv, _⟩ := S.row_form hL h0
    subst hv
    exact sortM_any W w L k0 g cap q Y (by omega) S hL hq
end Go.Proofs.YtnaafefcijgpkaaGreatDoor
/- What Follow writes into the rows of entries: plain; a row's cells. -/
namespace Go.Adj
open Go.RowKit Go.Mem
def vgE (G : Nat → Nat) (nh i : Nat) : Value := .slice (some ⟨G i, 0, none⟩) nh nh
/-- the rows of entries when the first j messages are written -/
def wrE (ms : List MbI) (nh : Nat) (Y : Nat → MsI) : Nat → Nat → List EI
  | 0 => fun _ => List.replicate nh ⟨0, bd⟩
  | j + 1 => updN (wrE ms nh Y j) (memI ms (Y j).plr).toNat ((wrE ms nh Y j (memI ms (Y j).plr).toNat).set ((Y j).hole - 1).toNat ⟨(Y j).s, (Y j).m⟩)
theorem wr_succ (ms : List MbI) (nh : Nat) (Y : Nat → MsI) (j : Nat) : wrE ms nh Y (j + 1) = updN (wrE ms nh Y j) (memI ms (Y j).plr).toNat ((wrE ms nh Y j (memI ms (Y j).plr).toNat).set ((Y j).hole - 1).toNat ⟨(Y j).s, (Y j).m⟩) := rfl
theorem wr_len (ms : List MbI) (nh : Nat) (Y : Nat → MsI) : ∀ j k, (wrE ms nh Y j k).length = nh
  | 0, _ => List.length_replicate
  | j + 1, k => by
    rw [wr_succ]
    unfold updN
    split
    · rw [List.length_set]; exact wr_len ms nh Y j _
    · exact wr_len ms nh Y j k
theorem wr_cases (ms : List MbI) (nh : Nat) (Y : Nat → MsI) {k i : Nat} (hi : i < nh) : ∀ m, (∀ a, a < m → 1 ≤ (Y a).hole) →
    (eAt (wrE ms nh Y m k) i = ⟨0, bd⟩ ∧ ∀ a, a < m → ¬ ((memI ms (Y a).plr).toNat = k ∧ (Y a).hole = (i : Int) + 1)) ∨
    ∃ a, a < m ∧ (memI ms (Y a).plr).toNat = k ∧ (Y a).hole = (i : Int) + 1 ∧ eAt (wrE ms nh Y m k) i = ⟨(Y a).s, (Y a).m⟩
  | 0, _ => .inl ⟨eAt_eq (by unfold wrE; rw [List.getElem?_replicate, if_pos hi]), fun a ha => absurd ha (by omega)⟩
  | m + 1, hh => by
    have ih := wr_cases ms nh Y (k := k) hi m fun a ha => hh a (by omega)
    have h1 := hh m (by omega)
    by_cases e : (memI ms (Y m).plr).toNat = k ∧ (Y m).hole = (i : Int) + 1
    · obtain ⟨e1, e2⟩ := e
      refine .inr ⟨m, by omega, e1, e2, eAt_eq ?_⟩
      rw [wr_succ]
      unfold updN
      rw [if_pos e1.symm, List.getElem?_set, if_pos (by omega), if_pos (by rw [wr_len]; omega)]
    · have hs : eAt (wrE ms nh Y (m + 1) k) i = eAt (wrE ms nh Y m k) i := by
        rw [wr_succ]
        unfold updN
        split
        · rename_i e1
          subst e1
          have : ((Y m).hole - 1).toNat ≠ i := fun e2 => e ⟨rfl, by omega⟩
          unfold eAt
          rw [List.getD_eq_getElem?_getD, List.getD_eq_getElem?_getD, List.getElem?_set, if_neg this]
        · rfl
      rcases ih with ⟨a1, a2⟩ | ⟨a, a1, a2, a3, a4⟩
      · refine .inl ⟨hs.trans a1, fun a ha => ?_⟩
        by_cases h2 : a = m
        · subst h2; exact e
        · exact a2 a (by omega)
      · exact .inr ⟨a, by omega, a2, a3, hs.trans a4⟩
theorem wr_good (ms : List MbI) (nh : Nat) (Y : Nat → MsI) (m k i : Nat) (hi : i < nh) (h : ∀ a, a < m → 1 ≤ (Y a).hole ∧ GoodE ⟨(Y a).s, (Y a).m⟩) : GoodE (eAt (wrE ms nh Y m k) i) := by
  rcases wr_cases ms nh Y (k := k) hi m fun a ha => (h a ha).1 with ⟨e, _⟩ | ⟨a, ha, _, _, e⟩
  · rw [e]; exact .inr ⟨.inr rfl, rfl⟩
  · rw [e]; exact (h a ha).2
theorem updN_const {α : Type} (x : α) (k : Nat) : updN (fun _ => x) k x = fun _ => x := by
  funext i; unfold updN; split <;> rfl
theorem entV_grow (f : Nat → ByteArray) (G : Nat → Nat) (nh k g : Nat) : (entV f (vgE G nh) k).push { key := .string (f k), val := .slice (some ⟨g, 0, none⟩) nh nh, born := k } = entV f (vgE (updN G k g) nh) (k + 1) := by
  have e : entV f (vgE G nh) k = entV f (vgE (updN G k g) nh) k := entV_congr f _ _ k fun i hi => by
    unfold vgE updN
    rw [if_neg (by omega)]
  have e2 : vgE (updN G k g) nh k = .slice (some ⟨g, 0, none⟩) nh nh := by
    unfold vgE updN
    rw [if_pos rfl]
  rw [e, ← e2]
  exact entV_push f _ k
end Go.Adj
namespace Go.Mem
open Go.RowKit Go.Adj
theorem St.rowsE_at {W w : World} {L : List Asr} {i k j n nh : Nat} {T : TypeId} {G : Nat → Nat} {E : Nat → List EI} (h : St W w L) (hi : L[i]? = some (rowsE T G n nh E)) (hk : k < n) (hj : j < nh) :
    w.cell? ⟨G k, j * 2, none⟩ = some (.int .i64 (eAt (E k) j).s) ∧ w.cell? ⟨G k, j * 2 + 1, none⟩ = some (.string (eAt (E k) j).m) ∧ ∀ q, w.frozen? ⟨G k, q, none⟩ = false := by
  obtain ⟨F, h1, ⟨h2, _⟩⟩ := h.get hi
  obtain ⟨h3, h4, h5⟩ := h2 k hk
  have hx : (E k)[j]? = some (eAt (E k) j) := by
    have : j < (E k).length := by omega
    unfold eAt
    rw [List.getD_eq_getElem?_getD, List.getElem?_eq_getElem this]
    rfl
  refine ⟨?_, ?_, fun q => by simp [World.frozen?, h3]⟩
  · rw [cell_of_row w (G k) (j * 2) _ T (0, 0) h3]
    have := flatMap_at (f := EI.cells) (s := 2) (j := 0) (fun _ _ => rfl) hx rfl
    simpa using this
  · rw [cell_of_row w (G k) (j * 2 + 1) _ T (0, 0) h3]
    have := flatMap_at (f := EI.cells) (s := 2) (j := 1) (fun _ _ => rfl) hx rfl
    simpa using this
end Go.Mem
