/- Part 24 of the walks of the golf union's program: UF18. -/
import Derived.Test.YtnaafefcijgpkaaGreatDoorB23
set_option linter.unusedVariables false
set_option linter.unusedSimpArgs false
set_option linter.unusedSectionVars false
set_option linter.constructorNameAsVariable false
/- The library's stable sort of messages, only that it permutes: symMerge. -/
namespace Go.Proofs.YtnaafefcijgpkaaGreatDoor
open Go.RowKit Go.Mem Go.Sheet Go.Adj
set_option maxRecDepth 100000 in
set_option maxHeartbeats 32000000 in
theorem sym3_any (a m b : Nat) (W w : World) (L : List Asr) (k0 g c q : Nat) (Y : Nat → MsI) (hq : q ≤ 1000) (S : St W w L) (hL : L[k0]? = some (row 69 6 (.slice (some ⟨g, 0, none⟩) q c) q (pcM Y q))) (ham : a < m) (hmb : m < b) (ha1 : m ≠ a + 1) (hb1 : b ≠ m + 1) (hb : b ≤ q)
    (HIH : Hid (∀ (a' m' b' : Nat) w' Y', b' - a' < b - a → a' < m' → m' < b' → b' ≤ q → PermG Y Y' q → St W w' (L.set k0 (row 69 6 (.slice (some ⟨g, 0, none⟩) q c) q (pcM Y' q))) → Calls Tryz.prog 101 #[.slice (some ⟨g, 0, none⟩) q c, .int .i64 a', .int .i64 m', .int .i64 b', .func (.func 38) #[] #[]] w' fun e w2 => e = .returned (.tuple #[]) ∧ ∃ Y2, PermG Y Y2 q ∧ St W w2 (L.set k0 (row 69 6 (.slice (some ⟨g, 0, none⟩) q c) q (pcM Y2 q))))) (HROT : Hid (∀ (a' m' b' : Nat) w' Y', a' < m' → m' < b' → b' ≤ q → PermG Y Y' q → St W w' (L.set k0 (row 69 6 (.slice (some ⟨g, 0, none⟩) q c) q (pcM Y' q))) → Calls Tryz.prog 120 #[.slice (some ⟨g, 0, none⟩) q c, .int .i64 a', .int .i64 m', .int .i64 b', .func (.func 38) #[] #[]] w' fun e w2 => e = .returned (.tuple #[]) ∧ ∃ Y2, PermG Y Y2 q ∧ St W w2 (L.set k0 (row 69 6 (.slice (some ⟨g, 0, none⟩) q c) q (pcM Y2 q))))) : Calls Tryz.prog 101 #[.slice (some ⟨g, 0, none⟩) q c, .int .i64 a, .int .i64 m, .int .i64 b, .func (.func 38) #[] #[]] w fun e w' => e = .returned (.tuple #[]) ∧ ∃ Y', PermG Y Y' q ∧ St W w' (L.set k0 (row 69 6 (.slice (some ⟨g, 0, none⟩) q c) q (pcM Y' q))) := by
  have HIX := Lib.hid (ix_row L k0 g c q Y hL)
  have HSS : Hid (∀ A B : Asr, (L.set k0 A).set k0 B = L.set k0 B) := fun A B => List.set_set ..
  have S0 : St W w (L.set k0 (row 69 6 (.slice (some ⟨g, 0, none⟩) q c) q (pcM Y q))) := by rw [set_self L k0 _ hL]; exact S
  clear S hL
  obtain ⟨da, hda⟩ : ∃ d, d = m - a := ⟨_, rfl⟩
  have hma : (m : Int) - (a : Int) = (da : Int) := by omega
  have hmw : IntKind.i64.wrap ((m : Int) - (a : Int)) = (da : Int) := by rw [hma]; exact IntWalk.i64_in _ (by omega)
  have t1 : ((da : Int) == 1) = false := by simp; omega
  have t1' : (da == 1) = false := by simp; omega
  obtain ⟨db, hdb⟩ : ∃ d, d = b - m := ⟨_, rfl⟩
  have hmb' : (b : Int) - (m : Int) = (db : Int) := by omega
  have hmbw : IntKind.i64.wrap ((b : Int) - (m : Int)) = (db : Int) := by rw [hmb']; exact IntWalk.i64_in _ (by omega)
  have t2 : ((db : Int) == 1) = false := by simp; omega
  have t2' : (db == 1) = false := by simp; omega
  obtain ⟨mid, hmid⟩ : ∃ mid, mid = (a + b) / 2 := ⟨_, rfl⟩
  have hmidm : ((a : Int) + (b : Int)) / 2 = (mid : Int) := by omega
  obtain ⟨n0, hn0⟩ : ∃ n0, n0 = mid + m := ⟨_, rfl⟩
  have hnm : (mid : Int) + (m : Int) = (n0 : Int) := by omega
  have hnw : IntKind.i64.wrap ((mid : Int) + (m : Int)) = (n0 : Int) := by rw [hnm]; exact IntWalk.i64_in _ (by omega)
  obtain ⟨p0, hp0⟩ : ∃ p0, p0 = n0 - 1 := ⟨_, rfl⟩
  have hpm0 : (n0 : Int) - 1 = (p0 : Int) := by omega
  have hpw0 : IntKind.i64.wrap ((n0 : Int) - 1) = (p0 : Int) := by rw [hpm0]; exact IntWalk.i64_in _ (by omega)
  have hg1 : a < mid := by omega
  have hg2 : mid < b := by omega
  have hg3 : p0 + 1 ≤ n0 := by omega
  have hg4 : n0 ≤ p0 + 1 := by omega
  have hg5 : n0 ≤ mid + m := by omega
  have hg6 : mid + m ≤ n0 := by omega
  have hg7 : 2 * mid ≤ a + b := by omega
  have hg8 : a + b ≤ 2 * mid + 1 := by omega
  clear hda hdb hmid hn0 hp0 hma hmb'
  have hE := enters Tryz.func38 (by kernel_rfl) rfl
  unfold Enters at hE
  go_enter Tryz.func101, Tryz.ntmps101
  by_cases hmm : mid < m
  · have t3 : decide ((mid : Int) < (m : Int)) = true := by simp; omega
    have t3' : decide (mid < m) = true := by simp; omega
    obtain ⟨lo, hlo⟩ : ∃ lo, lo = n0 - b := ⟨_, rfl⟩
    have hlm : (n0 : Int) - (b : Int) = (lo : Int) := by omega
    have hlw : IntKind.i64.wrap ((n0 : Int) - (b : Int)) = (lo : Int) := by rw [hlm]; exact IntWalk.i64_in _ (by omega)
    have hlo3 : mid ≤ b := by omega
    have hlo4 : n0 ≤ b + lo := by omega
    have hlo5 : mid ≤ n0 := by omega
    have hlo6 : lo ≤ mid := by omega
    clear hlo
    go_wp2_with fail
    go_loopw [20, 21] (fun i j w' => ∃ (x yy : Nat) (Y' : Nat → MsI), lo ≤ x ∧ x ≤ yy ∧ yy ≤ mid ∧ i = .int .i64 x ∧ j = .int .i64 yy ∧ Hid (PermG Y Y' q) ∧ St W w' (L.set k0 (row 69 6 (.slice (some ⟨g, 0, none⟩) q c) q (pcM Y' q)))) (fun i j _ => (intOf j).toNat - (intOf i).toNat)
    case atStart => exact ⟨lo, mid, Y, Nat.le_refl _, hlo6, Nat.le_refl _, rfl, rfl, PermG.refl Y q, S0⟩
    case round =>
      clear S0
      obtain ⟨x, yy, Y2, hlx, hxy, hyh, rfl, rfl, hp2, S2⟩ := hrel
      have HS2 := Lib.hid S2
      clear S2
      by_cases hlt : x < yy
      · obtain ⟨h, hh⟩ : ∃ h, h = (x + yy) / 2 := ⟨_, rfl⟩
        have hhm : ((x : Int) + (yy : Int)) / 2 = (h : Int) := by omega
        have hx1 : x ≤ h := by omega
        have hy1 : h < yy := by omega
        clear hh
        obtain ⟨pc, hpc⟩ : ∃ pc, pc = p0 - h := ⟨_, rfl⟩
        have hpm : (p0 : Int) - (h : Int) = (pc : Int) := by omega
        have hpw : IntKind.i64.wrap ((p0 : Int) - (h : Int)) = (pc : Int) := by rw [hpm]; exact IntWalk.i64_in _ (by omega)
        have hIq : pc < q := by omega
        have hJq : h < q := by omega
        clear hpc
        obtain ⟨LY, hLY⟩ : ∃ LY, LY = L.set k0 (row 69 6 (.slice (some ⟨g, 0, none⟩) q c) q (pcM Y2 q)) := ⟨_, rfl⟩
        rw [← hLY] at HS2
        have HLY := Lib.hid hLY
        clear hLY
        have HCL := Lib.hid (fun w => cmpF_any (Y2 pc) (Y2 h) w)
        have HCJ : Hid (∀ w', St W w' LY → (w'.cell? ⟨g, pc * 6, none⟩ = some (.string (Y2 pc).dev) ∧ w'.cell? ⟨g, pc * 6 + 1, none⟩ = some (.int .i64 (Y2 pc).num) ∧ w'.cell? ⟨g, pc * 6 + 2, none⟩ = some (.string (Y2 pc).plr) ∧ w'.cell? ⟨g, pc * 6 + 3, none⟩ = some (.int .i64 (Y2 pc).hole) ∧ w'.cell? ⟨g, pc * 6 + 4, none⟩ = some (.int .i64 (Y2 pc).s) ∧ w'.cell? ⟨g, pc * 6 + 5, none⟩ = some (.string (Y2 pc).m)) ∧ ∀ k, w'.frozen? ⟨g, k, none⟩ = false) := Lib.hid (fun w' h => by
          rw [HLY.out] at h
          exact row_pcM h (HIX.out Y2) hIq)
        have HCK : Hid (∀ w', St W w' LY → (w'.cell? ⟨g, h * 6, none⟩ = some (.string (Y2 h).dev) ∧ w'.cell? ⟨g, h * 6 + 1, none⟩ = some (.int .i64 (Y2 h).num) ∧ w'.cell? ⟨g, h * 6 + 2, none⟩ = some (.string (Y2 h).plr) ∧ w'.cell? ⟨g, h * 6 + 3, none⟩ = some (.int .i64 (Y2 h).hole) ∧ w'.cell? ⟨g, h * 6 + 4, none⟩ = some (.int .i64 (Y2 h).s) ∧ w'.cell? ⟨g, h * 6 + 5, none⟩ = some (.string (Y2 h).m)) ∧ ∀ k, w'.frozen? ⟨g, k, none⟩ = false) := Lib.hid (fun w' h => by
          rw [HLY.out] at h
          exact row_pcM h (HIX.out Y2) hJq)
        generalize cmpN (Y2 pc).num (Y2 h).num = cv at *
        generalize hya : Y2 pc = ya at *
        generalize hyb : Y2 h = yb at *
        clear hya hyb
        obtain ⟨a0, a1, a2, a3, a4, a5⟩ := ya
        obtain ⟨b0, b1, b2, b3, b4, b5⟩ := yb
        unfold MsI.val at HCL
        simp only at HCL HCJ HCK
        cases hlo2 : decide (cv < 0) with
        | true =>
          go_wp2_with fail
          refine wp_cls 12 (fun w' => St W w' LY) (by kernel_rfl) (by kernel_rfl) HS2.out.drew ?_
          simp only [List.take_succ_cons, List.take_zero, List.drop_succ_cons, List.drop_zero]
          generalize hK : (fun w' => St W w' LY) = K
          intro hne
          have kS : ∀ y : Wd K, St W y.w LY := by subst hK; exact fun y => y.h
          have hK3 : ∀ w w' : World, K w → Below w.heap.size w w' → K w' := by subst hK; exact fun w w' h h' => h.ext h'
          have HC3 : Hid (∀ y : Wd K, Calls Tryz.prog 38 #[.agg #[.string a0, .int .i64 a1, .string a2, .int .i64 a3, .int .i64 a4, .string a5], .agg #[.string b0, .int .i64 b1, .string b2, .int .i64 b3, .int .i64 b4, .string b5]] y.w fun e w2 => e = .returned (.int .i64 cv) ∧ ∃ z : Wd K, w2 = z.w) := fun y => cls_below hK3 (HCL.out _)
          have y0 : ∀ y : Wd K, y.w.cell? ⟨g, pc * 6, none⟩ = some (.string a0) := fun y => (HCJ.out _ (kS y)).1.1
          have y1 : ∀ y : Wd K, y.w.cell? ⟨g, pc * 6 + 1, none⟩ = some (.int .i64 a1) := fun y => (HCJ.out _ (kS y)).1.2.1
          have y2 : ∀ y : Wd K, y.w.cell? ⟨g, pc * 6 + 2, none⟩ = some (.string a2) := fun y => (HCJ.out _ (kS y)).1.2.2.1
          have y3 : ∀ y : Wd K, y.w.cell? ⟨g, pc * 6 + 3, none⟩ = some (.int .i64 a3) := fun y => (HCJ.out _ (kS y)).1.2.2.2.1
          have y4 : ∀ y : Wd K, y.w.cell? ⟨g, pc * 6 + 4, none⟩ = some (.int .i64 a4) := fun y => (HCJ.out _ (kS y)).1.2.2.2.2.1
          have y5 : ∀ y : Wd K, y.w.cell? ⟨g, pc * 6 + 5, none⟩ = some (.string a5) := fun y => (HCJ.out _ (kS y)).1.2.2.2.2.2
          have y6 : ∀ y : Wd K, y.w.cell? ⟨g, h * 6, none⟩ = some (.string b0) := fun y => (HCK.out _ (kS y)).1.1
          have y7 : ∀ y : Wd K, y.w.cell? ⟨g, h * 6 + 1, none⟩ = some (.int .i64 b1) := fun y => (HCK.out _ (kS y)).1.2.1
          have y8 : ∀ y : Wd K, y.w.cell? ⟨g, h * 6 + 2, none⟩ = some (.string b2) := fun y => (HCK.out _ (kS y)).1.2.2.1
          have y9 : ∀ y : Wd K, y.w.cell? ⟨g, h * 6 + 3, none⟩ = some (.int .i64 b3) := fun y => (HCK.out _ (kS y)).1.2.2.2.1
          have y10 : ∀ y : Wd K, y.w.cell? ⟨g, h * 6 + 4, none⟩ = some (.int .i64 b4) := fun y => (HCK.out _ (kS y)).1.2.2.2.2.1
          have y11 : ∀ y : Wd K, y.w.cell? ⟨g, h * 6 + 5, none⟩ = some (.string b5) := fun y => (HCK.out _ (kS y)).1.2.2.2.2.2
          have KS := Lib.hid kS
          clear hK kS
          go_big_quiet_step ((fail))
          go_big_quiet_step ((fail))
          go_big_quiet_step ((fail))
          go_big_quiet_step ((fail))
          go_big_quiet_step ((fail))
          go_big_quiet_step ((fail))
          go_big_quiet_step ((fail))
          go_big_quiet_step ((fail))
          go_big_quiet_step ((fail))
          go_big_quiet_step ((fail))
          go_big_quiet_step ((fail))
          go_big_quiet_step ((exact HC3.out _))
          refine wpQuiet_nil ?_
          intro y
          have HSY := Lib.hid (KS.out y)
          clear y0 y1 y2 y3 y4 y5 y6 y7 y8 y9 y10 y11 hK3 HC3 hne KS HS2
          generalize y.w = w3 at *
          have hsy := HSY.out
          rw [HLY.out] at hsy
          have HSF := Lib.hid hsy
          clear hsy HSY
          go_wp2_with fail
          go_roundw
          case rel => exact ⟨x, h, Y2, by omega, by omega, by omega, by go_num, by go_num, hp2, HSF.out⟩
          case measure => simp [intOf]; omega
        | false =>
          go_wp2_with fail
          refine wp_cls 12 (fun w' => St W w' LY) (by kernel_rfl) (by kernel_rfl) HS2.out.drew ?_
          simp only [List.take_succ_cons, List.take_zero, List.drop_succ_cons, List.drop_zero]
          generalize hK : (fun w' => St W w' LY) = K
          intro hne
          have kS : ∀ y : Wd K, St W y.w LY := by subst hK; exact fun y => y.h
          have hK3 : ∀ w w' : World, K w → Below w.heap.size w w' → K w' := by subst hK; exact fun w w' h h' => h.ext h'
          have HC3 : Hid (∀ y : Wd K, Calls Tryz.prog 38 #[.agg #[.string a0, .int .i64 a1, .string a2, .int .i64 a3, .int .i64 a4, .string a5], .agg #[.string b0, .int .i64 b1, .string b2, .int .i64 b3, .int .i64 b4, .string b5]] y.w fun e w2 => e = .returned (.int .i64 cv) ∧ ∃ z : Wd K, w2 = z.w) := fun y => cls_below hK3 (HCL.out _)
          have y0 : ∀ y : Wd K, y.w.cell? ⟨g, pc * 6, none⟩ = some (.string a0) := fun y => (HCJ.out _ (kS y)).1.1
          have y1 : ∀ y : Wd K, y.w.cell? ⟨g, pc * 6 + 1, none⟩ = some (.int .i64 a1) := fun y => (HCJ.out _ (kS y)).1.2.1
          have y2 : ∀ y : Wd K, y.w.cell? ⟨g, pc * 6 + 2, none⟩ = some (.string a2) := fun y => (HCJ.out _ (kS y)).1.2.2.1
          have y3 : ∀ y : Wd K, y.w.cell? ⟨g, pc * 6 + 3, none⟩ = some (.int .i64 a3) := fun y => (HCJ.out _ (kS y)).1.2.2.2.1
          have y4 : ∀ y : Wd K, y.w.cell? ⟨g, pc * 6 + 4, none⟩ = some (.int .i64 a4) := fun y => (HCJ.out _ (kS y)).1.2.2.2.2.1
          have y5 : ∀ y : Wd K, y.w.cell? ⟨g, pc * 6 + 5, none⟩ = some (.string a5) := fun y => (HCJ.out _ (kS y)).1.2.2.2.2.2
          have y6 : ∀ y : Wd K, y.w.cell? ⟨g, h * 6, none⟩ = some (.string b0) := fun y => (HCK.out _ (kS y)).1.1
          have y7 : ∀ y : Wd K, y.w.cell? ⟨g, h * 6 + 1, none⟩ = some (.int .i64 b1) := fun y => (HCK.out _ (kS y)).1.2.1
          have y8 : ∀ y : Wd K, y.w.cell? ⟨g, h * 6 + 2, none⟩ = some (.string b2) := fun y => (HCK.out _ (kS y)).1.2.2.1
          have y9 : ∀ y : Wd K, y.w.cell? ⟨g, h * 6 + 3, none⟩ = some (.int .i64 b3) := fun y => (HCK.out _ (kS y)).1.2.2.2.1
          have y10 : ∀ y : Wd K, y.w.cell? ⟨g, h * 6 + 4, none⟩ = some (.int .i64 b4) := fun y => (HCK.out _ (kS y)).1.2.2.2.2.1
          have y11 : ∀ y : Wd K, y.w.cell? ⟨g, h * 6 + 5, none⟩ = some (.string b5) := fun y => (HCK.out _ (kS y)).1.2.2.2.2.2
          have KS := Lib.hid kS
          clear hK kS
          go_big_quiet_step ((fail))
          go_big_quiet_step ((fail))
          go_big_quiet_step ((fail))
          go_big_quiet_step ((fail))
          go_big_quiet_step ((fail))
          go_big_quiet_step ((fail))
          go_big_quiet_step ((fail))
          go_big_quiet_step ((fail))
          go_big_quiet_step ((fail))
          go_big_quiet_step ((fail))
          go_big_quiet_step ((fail))
          go_big_quiet_step ((exact HC3.out _))
          refine wpQuiet_nil ?_
          intro y
          have HSY := Lib.hid (KS.out y)
          clear y0 y1 y2 y3 y4 y5 y6 y7 y8 y9 y10 y11 hK3 HC3 hne KS HS2
          generalize y.w = w3 at *
          have hsy := HSY.out
          rw [HLY.out] at hsy
          have HSF := Lib.hid hsy
          clear hsy HSY
          go_wp2_with fail
          go_roundw
          case rel => exact ⟨h + 1, yy, Y2, by omega, by omega, by omega, by go_num, by go_num, hp2, HSF.out⟩
          case measure => simp [intOf]; omega
      · obtain rfl : x = yy := by omega
        clear hlt
        obtain ⟨en, hen⟩ : ∃ en, en = n0 - x := ⟨_, rfl⟩
        have henm : (n0 : Int) - (x : Int) = (en : Int) := by omega
        have henw : IntKind.i64.wrap ((n0 : Int) - (x : Int)) = (en : Int) := by rw [henm]; exact IntWalk.i64_in _ (by omega)
        have henb : en ≤ b := by omega
        clear hen
        by_cases hAf1 : x < m
        · by_cases hBf1 : m < en
          · skip
            by_cases hAf2 : a < x
            · by_cases hBf2 : x < mid
              · skip
                by_cases hAf3 : mid < en
                · by_cases hBf3 : en < b
                  · skip
                    have HC0 := Lib.hid (fun w' Y' hp S' => HROT.out x m en w' Y' (by omega) (by omega) (by omega) hp S')
                    have HC1 := Lib.hid (fun w' Y' hp S' => HIH.out a x mid w' Y' (by omega) (by omega) (by omega) (by omega) hp S')
                    have HC2 := Lib.hid (fun w' Y' hp S' => HIH.out mid en b w' Y' (by omega) (by omega) (by omega) (by omega) hp S')
                    have t50 : decide ((x : Int) < (m : Int)) = true := by simp; omega
                    have t50' : decide (x < m) = true := by simp; omega
                    have t51 : decide ((m : Int) < (en : Int)) = true := by simp; omega
                    have t51' : decide (m < en) = true := by simp; omega
                    have t60 : decide ((a : Int) < (x : Int)) = true := by simp; omega
                    have t60' : decide (a < x) = true := by simp; omega
                    have t61 : decide ((x : Int) < (mid : Int)) = true := by simp; omega
                    have t61' : decide (x < mid) = true := by simp; omega
                    have t70 : decide ((mid : Int) < (en : Int)) = true := by simp; omega
                    have t70' : decide (mid < en) = true := by simp; omega
                    have t71 : decide ((en : Int) < (b : Int)) = true := by simp; omega
                    have t71' : decide (en < b) = true := by simp; omega
                    go_wp2_with fail
                    refine (HC0.out _ Y2 hp2.out HS2.out).mono ?_
                    rintro e w5 ⟨rfl, Y5, hp5, S5⟩
                    have HP5 := Lib.hid hp5
                    have HS5 := Lib.hid S5
                    clear hp5 S5
                    go_wp2_with fail
                    refine (HC1.out _ Y5 HP5.out HS5.out).mono ?_
                    rintro e w6 ⟨rfl, Y6, hp6, S6⟩
                    have HP6 := Lib.hid hp6
                    have HS6 := Lib.hid S6
                    clear hp6 S6
                    go_wp2_with fail
                    refine (HC2.out _ Y6 HP6.out HS6.out).mono ?_
                    rintro e w7 ⟨rfl, Y7, hp7, S7⟩
                    have HP7 := Lib.hid hp7
                    have HS7 := Lib.hid S7
                    clear hp7 S7
                    go_wp2_with fail
                    go_end0
                    exact ⟨rfl, Y7, HP7.out, HS7.out⟩
                  · skip
                    have HC0 := Lib.hid (fun w' Y' hp S' => HROT.out x m en w' Y' (by omega) (by omega) (by omega) hp S')
                    have HC1 := Lib.hid (fun w' Y' hp S' => HIH.out a x mid w' Y' (by omega) (by omega) (by omega) (by omega) hp S')
                    have t50 : decide ((x : Int) < (m : Int)) = true := by simp; omega
                    have t50' : decide (x < m) = true := by simp; omega
                    have t51 : decide ((m : Int) < (en : Int)) = true := by simp; omega
                    have t51' : decide (m < en) = true := by simp; omega
                    have t60 : decide ((a : Int) < (x : Int)) = true := by simp; omega
                    have t60' : decide (a < x) = true := by simp; omega
                    have t61 : decide ((x : Int) < (mid : Int)) = true := by simp; omega
                    have t61' : decide (x < mid) = true := by simp; omega
                    have t70 : decide ((mid : Int) < (en : Int)) = true := by simp; omega
                    have t70' : decide (mid < en) = true := by simp; omega
                    have t71 : decide ((en : Int) < (b : Int)) = false := by simp; omega
                    have t71' : decide (en < b) = false := by simp; omega
                    go_wp2_with fail
                    refine (HC0.out _ Y2 hp2.out HS2.out).mono ?_
                    rintro e w5 ⟨rfl, Y5, hp5, S5⟩
                    have HP5 := Lib.hid hp5
                    have HS5 := Lib.hid S5
                    clear hp5 S5
                    go_wp2_with fail
                    refine (HC1.out _ Y5 HP5.out HS5.out).mono ?_
                    rintro e w6 ⟨rfl, Y6, hp6, S6⟩
                    have HP6 := Lib.hid hp6
                    have HS6 := Lib.hid S6
                    clear hp6 S6
                    go_wp2_with fail
                    go_end0
                    exact ⟨rfl, Y6, HP6.out, HS6.out⟩
                · skip
                  have HC0 := Lib.hid (fun w' Y' hp S' => HROT.out x m en w' Y' (by omega) (by omega) (by omega) hp S')
                  have HC1 := Lib.hid (fun w' Y' hp S' => HIH.out a x mid w' Y' (by omega) (by omega) (by omega) (by omega) hp S')
                  have t50 : decide ((x : Int) < (m : Int)) = true := by simp; omega
                  have t50' : decide (x < m) = true := by simp; omega
                  have t51 : decide ((m : Int) < (en : Int)) = true := by simp; omega
                  have t51' : decide (m < en) = true := by simp; omega
                  have t60 : decide ((a : Int) < (x : Int)) = true := by simp; omega
                  have t60' : decide (a < x) = true := by simp; omega
                  have t61 : decide ((x : Int) < (mid : Int)) = true := by simp; omega
                  have t61' : decide (x < mid) = true := by simp; omega
                  have t70 : decide ((mid : Int) < (en : Int)) = false := by simp; omega
                  have t70' : decide (mid < en) = false := by simp; omega
                  go_wp2_with fail
                  refine (HC0.out _ Y2 hp2.out HS2.out).mono ?_
                  rintro e w5 ⟨rfl, Y5, hp5, S5⟩
                  have HP5 := Lib.hid hp5
                  have HS5 := Lib.hid S5
                  clear hp5 S5
                  go_wp2_with fail
                  refine (HC1.out _ Y5 HP5.out HS5.out).mono ?_
                  rintro e w6 ⟨rfl, Y6, hp6, S6⟩
                  have HP6 := Lib.hid hp6
                  have HS6 := Lib.hid S6
                  clear hp6 S6
                  go_wp2_with fail
                  go_end0
                  exact ⟨rfl, Y6, HP6.out, HS6.out⟩
              · skip
                by_cases hAf3 : mid < en
                · by_cases hBf3 : en < b
                  · skip
                    have HC0 := Lib.hid (fun w' Y' hp S' => HROT.out x m en w' Y' (by omega) (by omega) (by omega) hp S')
                    have HC1 := Lib.hid (fun w' Y' hp S' => HIH.out mid en b w' Y' (by omega) (by omega) (by omega) (by omega) hp S')
                    have t50 : decide ((x : Int) < (m : Int)) = true := by simp; omega
                    have t50' : decide (x < m) = true := by simp; omega
                    have t51 : decide ((m : Int) < (en : Int)) = true := by simp; omega
                    have t51' : decide (m < en) = true := by simp; omega
                    have t60 : decide ((a : Int) < (x : Int)) = true := by simp; omega
                    have t60' : decide (a < x) = true := by simp; omega
                    have t61 : decide ((x : Int) < (mid : Int)) = false := by simp; omega
                    have t61' : decide (x < mid) = false := by simp; omega
                    have t70 : decide ((mid : Int) < (en : Int)) = true := by simp; omega
                    have t70' : decide (mid < en) = true := by simp; omega
                    have t71 : decide ((en : Int) < (b : Int)) = true := by simp; omega
                    have t71' : decide (en < b) = true := by simp; omega
                    go_wp2_with fail
                    refine (HC0.out _ Y2 hp2.out HS2.out).mono ?_
                    rintro e w5 ⟨rfl, Y5, hp5, S5⟩
                    have HP5 := Lib.hid hp5
                    have HS5 := Lib.hid S5
                    clear hp5 S5
                    go_wp2_with fail
                    refine (HC1.out _ Y5 HP5.out HS5.out).mono ?_
                    rintro e w6 ⟨rfl, Y6, hp6, S6⟩
                    have HP6 := Lib.hid hp6
                    have HS6 := Lib.hid S6
                    clear hp6 S6
                    go_wp2_with fail
                    go_end0
                    exact ⟨rfl, Y6, HP6.out, HS6.out⟩
                  · skip
                    have HC0 := Lib.hid (fun w' Y' hp S' => HROT.out x m en w' Y' (by omega) (by omega) (by omega) hp S')
                    have t50 : decide ((x : Int) < (m : Int)) = true := by simp; omega
                    have t50' : decide (x < m) = true := by simp; omega
                    have t51 : decide ((m : Int) < (en : Int)) = true := by simp; omega
                    have t51' : decide (m < en) = true := by simp; omega
                    have t60 : decide ((a : Int) < (x : Int)) = true := by simp; omega
                    have t60' : decide (a < x) = true := by simp; omega
                    have t61 : decide ((x : Int) < (mid : Int)) = false := by simp; omega
                    have t61' : decide (x < mid) = false := by simp; omega
                    have t70 : decide ((mid : Int) < (en : Int)) = true := by simp; omega
                    have t70' : decide (mid < en) = true := by simp; omega
                    have t71 : decide ((en : Int) < (b : Int)) = false := by simp; omega
                    have t71' : decide (en < b) = false := by simp; omega
                    go_wp2_with fail
                    refine (HC0.out _ Y2 hp2.out HS2.out).mono ?_
                    rintro e w5 ⟨rfl, Y5, hp5, S5⟩
                    have HP5 := Lib.hid hp5
                    have HS5 := Lib.hid S5
                    clear hp5 S5
                    go_wp2_with fail
                    go_end0
                    exact ⟨rfl, Y5, HP5.out, HS5.out⟩
                · skip
                  have HC0 := Lib.hid (fun w' Y' hp S' => HROT.out x m en w' Y' (by omega) (by omega) (by omega) hp S')
                  have t50 : decide ((x : Int) < (m : Int)) = true := by simp; omega
                  have t50' : decide (x < m) = true := by simp; omega
                  have t51 : decide ((m : Int) < (en : Int)) = true := by simp; omega
                  have t51' : decide (m < en) = true := by simp; omega
                  have t60 : decide ((a : Int) < (x : Int)) = true := by simp; omega
                  have t60' : decide (a < x) = true := by simp; omega
                  have t61 : decide ((x : Int) < (mid : Int)) = false := by simp; omega
                  have t61' : decide (x < mid) = false := by simp; omega
                  have t70 : decide ((mid : Int) < (en : Int)) = false := by simp; omega
                  have t70' : decide (mid < en) = false := by simp; omega
                  go_wp2_with fail
                  refine (HC0.out _ Y2 hp2.out HS2.out).mono ?_
                  rintro e w5 ⟨rfl, Y5, hp5, S5⟩
                  have HP5 := Lib.hid hp5
                  have HS5 := Lib.hid S5
                  clear hp5 S5
                  go_wp2_with fail
                  go_end0
                  exact ⟨rfl, Y5, HP5.out, HS5.out⟩
            · skip
              by_cases hAf3 : mid < en
              · by_cases hBf3 : en < b
                · skip
                  have HC0 := Lib.hid (fun w' Y' hp S' => HROT.out x m en w' Y' (by omega) (by omega) (by omega) hp S')
                  have HC1 := Lib.hid (fun w' Y' hp S' => HIH.out mid en b w' Y' (by omega) (by omega) (by omega) (by omega) hp S')
                  have t50 : decide ((x : Int) < (m : Int)) = true := by simp; omega
                  have t50' : decide (x < m) = true := by simp; omega
                  have t51 : decide ((m : Int) < (en : Int)) = true := by simp; omega
                  have t51' : decide (m < en) = true := by simp; omega
                  have t60 : decide ((a : Int) < (x : Int)) = false := by simp; omega
                  have t60' : decide (a < x) = false := by simp; omega
                  have t70 : decide ((mid : Int) < (en : Int)) = true := by simp; omega
                  have t70' : decide (mid < en) = true := by simp; omega
                  have t71 : decide ((en : Int) < (b : Int)) = true := by simp; omega
                  have t71' : decide (en < b) = true := by simp; omega
                  go_wp2_with fail
                  refine (HC0.out _ Y2 hp2.out HS2.out).mono ?_
                  rintro e w5 ⟨rfl, Y5, hp5, S5⟩
                  have HP5 := Lib.hid hp5
                  have HS5 := Lib.hid S5
                  clear hp5 S5
                  go_wp2_with fail
                  refine (HC1.out _ Y5 HP5.out HS5.out).mono ?_
                  rintro e w6 ⟨rfl, Y6, hp6, S6⟩
                  have HP6 := Lib.hid hp6
                  have HS6 := Lib.hid S6
                  clear hp6 S6
                  go_wp2_with fail
                  go_end0
                  exact ⟨rfl, Y6, HP6.out, HS6.out⟩
                · skip
                  have HC0 := Lib.hid (fun w' Y' hp S' => HROT.out x m en w' Y' (by omega) (by omega) (by omega) hp S')
                  have t50 : decide ((x : Int) < (m : Int)) = true := by simp; omega
                  have t50' : decide (x < m) = true := by simp; omega
                  have t51 : decide ((m : Int) < (en : Int)) = true := by simp; omega
                  have t51' : decide (m < en) = true := by simp; omega
                  have t60 : decide ((a : Int) < (x : Int)) = false := by simp; omega
                  have t60' : decide (a < x) = false := by simp; omega
                  have t70 : decide ((mid : Int) < (en : Int)) = true := by simp; omega
                  have t70' : decide (mid < en) = true := by simp; omega
                  have t71 : decide ((en : Int) < (b : Int)) = false := by simp; omega
                  have t71' : decide (en < b) = false := by simp; omega
                  go_wp2_with fail
                  refine (HC0.out _ Y2 hp2.out HS2.out).mono ?_
                  rintro e w5 ⟨rfl, Y5, hp5, S5⟩
                  have HP5 := Lib.hid hp5
                  have HS5 := Lib.hid S5
                  clear hp5 S5
                  go_wp2_with fail
                  go_end0
                  exact ⟨rfl, Y5, HP5.out, HS5.out⟩
              · skip
                have HC0 := Lib.hid (fun w' Y' hp S' => HROT.out x m en w' Y' (by omega) (by omega) (by omega) hp S')
                have t50 : decide ((x : Int) < (m : Int)) = true := by simp; omega
                have t50' : decide (x < m) = true := by simp; omega
                have t51 : decide ((m : Int) < (en : Int)) = true := by simp; omega
                have t51' : decide (m < en) = true := by simp; omega
                have t60 : decide ((a : Int) < (x : Int)) = false := by simp; omega
                have t60' : decide (a < x) = false := by simp; omega
                have t70 : decide ((mid : Int) < (en : Int)) = false := by simp; omega
                have t70' : decide (mid < en) = false := by simp; omega
                go_wp2_with fail
                refine (HC0.out _ Y2 hp2.out HS2.out).mono ?_
                rintro e w5 ⟨rfl, Y5, hp5, S5⟩
                have HP5 := Lib.hid hp5
                have HS5 := Lib.hid S5
                clear hp5 S5
                go_wp2_with fail
                go_end0
                exact ⟨rfl, Y5, HP5.out, HS5.out⟩
          · skip
            by_cases hAf2 : a < x
            · by_cases hBf2 : x < mid
              · skip
                by_cases hAf3 : mid < en
                · by_cases hBf3 : en < b
                  · skip
                    have HC0 := Lib.hid (fun w' Y' hp S' => HIH.out a x mid w' Y' (by omega) (by omega) (by omega) (by omega) hp S')
                    have HC1 := Lib.hid (fun w' Y' hp S' => HIH.out mid en b w' Y' (by omega) (by omega) (by omega) (by omega) hp S')
                    have t50 : decide ((x : Int) < (m : Int)) = true := by simp; omega
                    have t50' : decide (x < m) = true := by simp; omega
                    have t51 : decide ((m : Int) < (en : Int)) = false := by simp; omega
                    have t51' : decide (m < en) = false := by simp; omega
                    have t60 : decide ((a : Int) < (x : Int)) = true := by simp; omega
                    have t60' : decide (a < x) = true := by simp; omega
                    have t61 : decide ((x : Int) < (mid : Int)) = true := by simp; omega
                    have t61' : decide (x < mid) = true := by simp; omega
                    have t70 : decide ((mid : Int) < (en : Int)) = true := by simp; omega
                    have t70' : decide (mid < en) = true := by simp; omega
                    have t71 : decide ((en : Int) < (b : Int)) = true := by simp; omega
                    have t71' : decide (en < b) = true := by simp; omega
                    go_wp2_with fail
                    refine (HC0.out _ Y2 hp2.out HS2.out).mono ?_
                    rintro e w5 ⟨rfl, Y5, hp5, S5⟩
                    have HP5 := Lib.hid hp5
                    have HS5 := Lib.hid S5
                    clear hp5 S5
                    go_wp2_with fail
                    refine (HC1.out _ Y5 HP5.out HS5.out).mono ?_
                    rintro e w6 ⟨rfl, Y6, hp6, S6⟩
                    have HP6 := Lib.hid hp6
                    have HS6 := Lib.hid S6
                    clear hp6 S6
                    go_wp2_with fail
                    go_end0
                    exact ⟨rfl, Y6, HP6.out, HS6.out⟩
                  · skip
                    have HC0 := Lib.hid (fun w' Y' hp S' => HIH.out a x mid w' Y' (by omega) (by omega) (by omega) (by omega) hp S')
                    have t50 : decide ((x : Int) < (m : Int)) = true := by simp; omega
                    have t50' : decide (x < m) = true := by simp; omega
                    have t51 : decide ((m : Int) < (en : Int)) = false := by simp; omega
                    have t51' : decide (m < en) = false := by simp; omega
                    have t60 : decide ((a : Int) < (x : Int)) = true := by simp; omega
                    have t60' : decide (a < x) = true := by simp; omega
                    have t61 : decide ((x : Int) < (mid : Int)) = true := by simp; omega
                    have t61' : decide (x < mid) = true := by simp; omega
                    have t70 : decide ((mid : Int) < (en : Int)) = true := by simp; omega
                    have t70' : decide (mid < en) = true := by simp; omega
                    have t71 : decide ((en : Int) < (b : Int)) = false := by simp; omega
                    have t71' : decide (en < b) = false := by simp; omega
                    go_wp2_with fail
                    refine (HC0.out _ Y2 hp2.out HS2.out).mono ?_
                    rintro e w5 ⟨rfl, Y5, hp5, S5⟩
                    have HP5 := Lib.hid hp5
                    have HS5 := Lib.hid S5
                    clear hp5 S5
                    go_wp2_with fail
                    go_end0
                    exact ⟨rfl, Y5, HP5.out, HS5.out⟩
                · skip
                  have HC0 := Lib.hid (fun w' Y' hp S' => HIH.out a x mid w' Y' (by omega) (by omega) (by omega) (by omega) hp S')
                  have t50 : decide ((x : Int) < (m : Int)) = true := by simp; omega
                  have t50' : decide (x < m) = true := by simp; omega
                  have t51 : decide ((m : Int) < (en : Int)) = false := by simp; omega
                  have t51' : decide (m < en) = false := by simp; omega
                  have t60 : decide ((a : Int) < (x : Int)) = true := by simp; omega
                  have t60' : decide (a < x) = true := by simp; omega
                  have t61 : decide ((x : Int) < (mid : Int)) = true := by simp; omega
                  have t61' : decide (x < mid) = true := by simp; omega
                  have t70 : decide ((mid : Int) < (en : Int)) = false := by simp; omega
                  have t70' : decide (mid < en) = false := by simp; omega
                  go_wp2_with fail
                  refine (HC0.out _ Y2 hp2.out HS2.out).mono ?_
                  rintro e w5 ⟨rfl, Y5, hp5, S5⟩
                  have HP5 := Lib.hid hp5
                  have HS5 := Lib.hid S5
                  clear hp5 S5
                  go_wp2_with fail
                  go_end0
                  exact ⟨rfl, Y5, HP5.out, HS5.out⟩
              · skip
                by_cases hAf3 : mid < en
                · by_cases hBf3 : en < b
                  · skip
                    have HC0 := Lib.hid (fun w' Y' hp S' => HIH.out mid en b w' Y' (by omega) (by omega) (by omega) (by omega) hp S')
                    have t50 : decide ((x : Int) < (m : Int)) = true := by simp; omega
                    have t50' : decide (x < m) = true := by simp; omega
                    have t51 : decide ((m : Int) < (en : Int)) = false := by simp; omega
                    have t51' : decide (m < en) = false := by simp; omega
                    have t60 : decide ((a : Int) < (x : Int)) = true := by simp; omega
                    have t60' : decide (a < x) = true := by simp; omega
                    have t61 : decide ((x : Int) < (mid : Int)) = false := by simp; omega
                    have t61' : decide (x < mid) = false := by simp; omega
                    have t70 : decide ((mid : Int) < (en : Int)) = true := by simp; omega
                    have t70' : decide (mid < en) = true := by simp; omega
                    have t71 : decide ((en : Int) < (b : Int)) = true := by simp; omega
                    have t71' : decide (en < b) = true := by simp; omega
                    go_wp2_with fail
                    refine (HC0.out _ Y2 hp2.out HS2.out).mono ?_
                    rintro e w5 ⟨rfl, Y5, hp5, S5⟩
                    have HP5 := Lib.hid hp5
                    have HS5 := Lib.hid S5
                    clear hp5 S5
                    go_wp2_with fail
                    go_end0
                    exact ⟨rfl, Y5, HP5.out, HS5.out⟩
                  · skip
                    have t50 : decide ((x : Int) < (m : Int)) = true := by simp; omega
                    have t50' : decide (x < m) = true := by simp; omega
                    have t51 : decide ((m : Int) < (en : Int)) = false := by simp; omega
                    have t51' : decide (m < en) = false := by simp; omega
                    have t60 : decide ((a : Int) < (x : Int)) = true := by simp; omega
                    have t60' : decide (a < x) = true := by simp; omega
                    have t61 : decide ((x : Int) < (mid : Int)) = false := by simp; omega
                    have t61' : decide (x < mid) = false := by simp; omega
                    have t70 : decide ((mid : Int) < (en : Int)) = true := by simp; omega
                    have t70' : decide (mid < en) = true := by simp; omega
                    have t71 : decide ((en : Int) < (b : Int)) = false := by simp; omega
                    have t71' : decide (en < b) = false := by simp; omega
                    go_wp2_with fail
                    go_end0
                    exact ⟨rfl, Y2, hp2.out, HS2.out⟩
                · skip
                  have t50 : decide ((x : Int) < (m : Int)) = true := by simp; omega
                  have t50' : decide (x < m) = true := by simp; omega
                  have t51 : decide ((m : Int) < (en : Int)) = false := by simp; omega
                  have t51' : decide (m < en) = false := by simp; omega
                  have t60 : decide ((a : Int) < (x : Int)) = true := by simp; omega
                  have t60' : decide (a < x) = true := by simp; omega
                  have t61 : decide ((x : Int) < (mid : Int)) = false := by simp; omega
                  have t61' : decide (x < mid) = false := by simp; omega
                  have t70 : decide ((mid : Int) < (en : Int)) = false := by simp; omega
                  have t70' : decide (mid < en) = false := by simp; omega
                  go_wp2_with fail
                  go_end0
                  exact ⟨rfl, Y2, hp2.out, HS2.out⟩
            · skip
              by_cases hAf3 : mid < en
              · by_cases hBf3 : en < b
                · skip
                  have HC0 := Lib.hid (fun w' Y' hp S' => HIH.out mid en b w' Y' (by omega) (by omega) (by omega) (by omega) hp S')
                  have t50 : decide ((x : Int) < (m : Int)) = true := by simp; omega
                  have t50' : decide (x < m) = true := by simp; omega
                  have t51 : decide ((m : Int) < (en : Int)) = false := by simp; omega
                  have t51' : decide (m < en) = false := by simp; omega
                  have t60 : decide ((a : Int) < (x : Int)) = false := by simp; omega
                  have t60' : decide (a < x) = false := by simp; omega
                  have t70 : decide ((mid : Int) < (en : Int)) = true := by simp; omega
                  have t70' : decide (mid < en) = true := by simp; omega
                  have t71 : decide ((en : Int) < (b : Int)) = true := by simp; omega
                  have t71' : decide (en < b) = true := by simp; omega
                  go_wp2_with fail
                  refine (HC0.out _ Y2 hp2.out HS2.out).mono ?_
                  rintro e w5 ⟨rfl, Y5, hp5, S5⟩
                  have HP5 := Lib.hid hp5
                  have HS5 := Lib.hid S5
                  clear hp5 S5
                  go_wp2_with fail
                  go_end0
                  exact ⟨rfl, Y5, HP5.out, HS5.out⟩
                · skip
                  have t50 : decide ((x : Int) < (m : Int)) = true := by simp; omega
                  have t50' : decide (x < m) = true := by simp; omega
                  have t51 : decide ((m : Int) < (en : Int)) = false := by simp; omega
                  have t51' : decide (m < en) = false := by simp; omega
                  have t60 : decide ((a : Int) < (x : Int)) = false := by simp; omega
                  have t60' : decide (a < x) = false := by simp; omega
                  have t70 : decide ((mid : Int) < (en : Int)) = true := by simp; omega
                  have t70' : decide (mid < en) = true := by simp; omega
                  have t71 : decide ((en : Int) < (b : Int)) = false := by simp; omega
                  have t71' : decide (en < b) = false := by simp; omega
                  go_wp2_with fail
                  go_end0
                  exact ⟨rfl, Y2, hp2.out, HS2.out⟩
              · skip
                have t50 : decide ((x : Int) < (m : Int)) = true := by simp; omega
                have t50' : decide (x < m) = true := by simp; omega
                have t51 : decide ((m : Int) < (en : Int)) = false := by simp; omega
                have t51' : decide (m < en) = false := by simp; omega
                have t60 : decide ((a : Int) < (x : Int)) = false := by simp; omega
                have t60' : decide (a < x) = false := by simp; omega
                have t70 : decide ((mid : Int) < (en : Int)) = false := by simp; omega
                have t70' : decide (mid < en) = false := by simp; omega
                go_wp2_with fail
                go_end0
                exact ⟨rfl, Y2, hp2.out, HS2.out⟩
        · skip
          by_cases hAf2 : a < x
          · by_cases hBf2 : x < mid
            · skip
              by_cases hAf3 : mid < en
              · by_cases hBf3 : en < b
                · skip
                  have HC0 := Lib.hid (fun w' Y' hp S' => HIH.out a x mid w' Y' (by omega) (by omega) (by omega) (by omega) hp S')
                  have HC1 := Lib.hid (fun w' Y' hp S' => HIH.out mid en b w' Y' (by omega) (by omega) (by omega) (by omega) hp S')
                  have t50 : decide ((x : Int) < (m : Int)) = false := by simp; omega
                  have t50' : decide (x < m) = false := by simp; omega
                  have t60 : decide ((a : Int) < (x : Int)) = true := by simp; omega
                  have t60' : decide (a < x) = true := by simp; omega
                  have t61 : decide ((x : Int) < (mid : Int)) = true := by simp; omega
                  have t61' : decide (x < mid) = true := by simp; omega
                  have t70 : decide ((mid : Int) < (en : Int)) = true := by simp; omega
                  have t70' : decide (mid < en) = true := by simp; omega
                  have t71 : decide ((en : Int) < (b : Int)) = true := by simp; omega
                  have t71' : decide (en < b) = true := by simp; omega
                  go_wp2_with fail
                  refine (HC0.out _ Y2 hp2.out HS2.out).mono ?_
                  rintro e w5 ⟨rfl, Y5, hp5, S5⟩
                  have HP5 := Lib.hid hp5
                  have HS5 := Lib.hid S5
                  clear hp5 S5
                  go_wp2_with fail
                  refine (HC1.out _ Y5 HP5.out HS5.out).mono ?_
                  rintro e w6 ⟨rfl, Y6, hp6, S6⟩
                  have HP6 := Lib.hid hp6
                  have HS6 := Lib.hid S6
                  clear hp6 S6
                  go_wp2_with fail
                  go_end0
                  exact ⟨rfl, Y6, HP6.out, HS6.out⟩
                · skip
                  have HC0 := Lib.hid (fun w' Y' hp S' => HIH.out a x mid w' Y' (by omega) (by omega) (by omega) (by omega) hp S')
                  have t50 : decide ((x : Int) < (m : Int)) = false := by simp; omega
                  have t50' : decide (x < m) = false := by simp; omega
                  have t60 : decide ((a : Int) < (x : Int)) = true := by simp; omega
                  have t60' : decide (a < x) = true := by simp; omega
                  have t61 : decide ((x : Int) < (mid : Int)) = true := by simp; omega
                  have t61' : decide (x < mid) = true := by simp; omega
                  have t70 : decide ((mid : Int) < (en : Int)) = true := by simp; omega
                  have t70' : decide (mid < en) = true := by simp; omega
                  have t71 : decide ((en : Int) < (b : Int)) = false := by simp; omega
                  have t71' : decide (en < b) = false := by simp; omega
                  go_wp2_with fail
                  refine (HC0.out _ Y2 hp2.out HS2.out).mono ?_
                  rintro e w5 ⟨rfl, Y5, hp5, S5⟩
                  have HP5 := Lib.hid hp5
                  have HS5 := Lib.hid S5
                  clear hp5 S5
                  go_wp2_with fail
                  go_end0
                  exact ⟨rfl, Y5, HP5.out, HS5.out⟩
              · skip
                have HC0 := Lib.hid (fun w' Y' hp S' => HIH.out a x mid w' Y' (by omega) (by omega) (by omega) (by omega) hp S')
                have t50 : decide ((x : Int) < (m : Int)) = false := by simp; omega
                have t50' : decide (x < m) = false := by simp; omega
                have t60 : decide ((a : Int) < (x : Int)) = true := by simp; omega
                have t60' : decide (a < x) = true := by simp; omega
                have t61 : decide ((x : Int) < (mid : Int)) = true := by simp; omega
                have t61' : decide (x < mid) = true := by simp; omega
                have t70 : decide ((mid : Int) < (en : Int)) = false := by simp; omega
                have t70' : decide (mid < en) = false := by simp; omega
                go_wp2_with fail
                refine (HC0.out _ Y2 hp2.out HS2.out).mono ?_
                rintro e w5 ⟨rfl, Y5, hp5, S5⟩
                have HP5 := Lib.hid hp5
                have HS5 := Lib.hid S5
                clear hp5 S5
                go_wp2_with fail
                go_end0
                exact ⟨rfl, Y5, HP5.out, HS5.out⟩
            · skip
              by_cases hAf3 : mid < en
              · by_cases hBf3 : en < b
                · skip
                  have HC0 := Lib.hid (fun w' Y' hp S' => HIH.out mid en b w' Y' (by omega) (by omega) (by omega) (by omega) hp S')
                  have t50 : decide ((x : Int) < (m : Int)) = false := by simp; omega
                  have t50' : decide (x < m) = false := by simp; omega
                  have t60 : decide ((a : Int) < (x : Int)) = true := by simp; omega
                  have t60' : decide (a < x) = true := by simp; omega
                  have t61 : decide ((x : Int) < (mid : Int)) = false := by simp; omega
                  have t61' : decide (x < mid) = false := by simp; omega
                  have t70 : decide ((mid : Int) < (en : Int)) = true := by simp; omega
                  have t70' : decide (mid < en) = true := by simp; omega
                  have t71 : decide ((en : Int) < (b : Int)) = true := by simp; omega
                  have t71' : decide (en < b) = true := by simp; omega
                  go_wp2_with fail
                  refine (HC0.out _ Y2 hp2.out HS2.out).mono ?_
                  rintro e w5 ⟨rfl, Y5, hp5, S5⟩
                  have HP5 := Lib.hid hp5
                  have HS5 := Lib.hid S5
                  clear hp5 S5
                  go_wp2_with fail
                  go_end0
                  exact ⟨rfl, Y5, HP5.out, HS5.out⟩
                · skip
                  have t50 : decide ((x : Int) < (m : Int)) = false := by simp; omega
                  have t50' : decide (x < m) = false := by simp; omega
                  have t60 : decide ((a : Int) < (x : Int)) = true := by simp; omega
                  have t60' : decide (a < x) = true := by simp; omega
                  have t61 : decide ((x : Int) < (mid : Int)) = false := by simp; omega
                  have t61' : decide (x < mid) = false := by simp; omega
                  have t70 : decide ((mid : Int) < (en : Int)) = true := by simp; omega
                  have t70' : decide (mid < en) = true := by simp; omega
                  have t71 : decide ((en : Int) < (b : Int)) = false := by simp; omega
                  have t71' : decide (en < b) = false := by simp; omega
                  go_wp2_with fail
                  go_end0
                  exact ⟨rfl, Y2, hp2.out, HS2.out⟩
              · skip
                have t50 : decide ((x : Int) < (m : Int)) = false := by simp; omega
                have t50' : decide (x < m) = false := by simp; omega
                have t60 : decide ((a : Int) < (x : Int)) = true := by simp; omega
                have t60' : decide (a < x) = true := by simp; omega
                have t61 : decide ((x : Int) < (mid : Int)) = false := by simp; omega
                have t61' : decide (x < mid) = false := by simp; omega
                have t70 : decide ((mid : Int) < (en : Int)) = false := by simp; omega
                have t70' : decide (mid < en) = false := by simp; omega
                go_wp2_with fail
                go_end0
                exact ⟨rfl, Y2, hp2.out, HS2.out⟩
          · skip
            by_cases hAf3 : mid < en
            · by_cases hBf3 : en < b
              · skip
                have HC0 := Lib.hid (fun w' Y' hp S' => HIH.out mid en b w' Y' (by omega) (by omega) (by omega) (by omega) hp S')
                have t50 : decide ((x : Int) < (m : Int)) = false := by simp; omega
                have t50' : decide (x < m) = false := by simp; omega
                have t60 : decide ((a : Int) < (x : Int)) = false := by simp; omega
                have t60' : decide (a < x) = false := by simp; omega
                have t70 : decide ((mid : Int) < (en : Int)) = true := by simp; omega
                have t70' : decide (mid < en) = true := by simp; omega
                have t71 : decide ((en : Int) < (b : Int)) = true := by simp; omega
                have t71' : decide (en < b) = true := by simp; omega
                go_wp2_with fail
                refine (HC0.out _ Y2 hp2.out HS2.out).mono ?_
                rintro e w5 ⟨rfl, Y5, hp5, S5⟩
                have HP5 := Lib.hid hp5
                have HS5 := Lib.hid S5
                clear hp5 S5
                go_wp2_with fail
                go_end0
                exact ⟨rfl, Y5, HP5.out, HS5.out⟩
              · skip
                have t50 : decide ((x : Int) < (m : Int)) = false := by simp; omega
                have t50' : decide (x < m) = false := by simp; omega
                have t60 : decide ((a : Int) < (x : Int)) = false := by simp; omega
                have t60' : decide (a < x) = false := by simp; omega
                have t70 : decide ((mid : Int) < (en : Int)) = true := by simp; omega
                have t70' : decide (mid < en) = true := by simp; omega
                have t71 : decide ((en : Int) < (b : Int)) = false := by simp; omega
                have t71' : decide (en < b) = false := by simp; omega
                go_wp2_with fail
                go_end0
                exact ⟨rfl, Y2, hp2.out, HS2.out⟩
            · skip
              have t50 : decide ((x : Int) < (m : Int)) = false := by simp; omega
              have t50' : decide (x < m) = false := by simp; omega
              have t60 : decide ((a : Int) < (x : Int)) = false := by simp; omega
              have t60' : decide (a < x) = false := by simp; omega
              have t70 : decide ((mid : Int) < (en : Int)) = false := by simp; omega
              have t70' : decide (mid < en) = false := by simp; omega
              go_wp2_with fail
              go_end0
              exact ⟨rfl, Y2, hp2.out, HS2.out⟩
  · have t3 : decide ((mid : Int) < (m : Int)) = false := by simp; omega
    have t3' : decide (mid < m) = false := by simp; omega
    have hlo3 : m ≤ b := by omega
    have hlo4 : n0 ≤ b + a := by omega
    have hlo5 : m ≤ n0 := by omega
    have hlo6 : a ≤ m := by omega
    go_wp2_with fail
    go_loopw [20, 21] (fun i j w' => ∃ (x yy : Nat) (Y' : Nat → MsI), a ≤ x ∧ x ≤ yy ∧ yy ≤ m ∧ i = .int .i64 x ∧ j = .int .i64 yy ∧ Hid (PermG Y Y' q) ∧ St W w' (L.set k0 (row 69 6 (.slice (some ⟨g, 0, none⟩) q c) q (pcM Y' q)))) (fun i j _ => (intOf j).toNat - (intOf i).toNat)
    case atStart => exact ⟨a, m, Y, Nat.le_refl _, hlo6, Nat.le_refl _, rfl, rfl, PermG.refl Y q, S0⟩
    case round =>
      clear S0
      obtain ⟨x, yy, Y2, hlx, hxy, hyh, rfl, rfl, hp2, S2⟩ := hrel
      have HS2 := Lib.hid S2
      clear S2
      by_cases hlt : x < yy
      · obtain ⟨h, hh⟩ : ∃ h, h = (x + yy) / 2 := ⟨_, rfl⟩
        have hhm : ((x : Int) + (yy : Int)) / 2 = (h : Int) := by omega
        have hx1 : x ≤ h := by omega
        have hy1 : h < yy := by omega
        clear hh
        obtain ⟨pc, hpc⟩ : ∃ pc, pc = p0 - h := ⟨_, rfl⟩
        have hpm : (p0 : Int) - (h : Int) = (pc : Int) := by omega
        have hpw : IntKind.i64.wrap ((p0 : Int) - (h : Int)) = (pc : Int) := by rw [hpm]; exact IntWalk.i64_in _ (by omega)
        have hIq : pc < q := by omega
        have hJq : h < q := by omega
        clear hpc
        obtain ⟨LY, hLY⟩ : ∃ LY, LY = L.set k0 (row 69 6 (.slice (some ⟨g, 0, none⟩) q c) q (pcM Y2 q)) := ⟨_, rfl⟩
        rw [← hLY] at HS2
        have HLY := Lib.hid hLY
        clear hLY
        have HCL := Lib.hid (fun w => cmpF_any (Y2 pc) (Y2 h) w)
        have HCJ : Hid (∀ w', St W w' LY → (w'.cell? ⟨g, pc * 6, none⟩ = some (.string (Y2 pc).dev) ∧ w'.cell? ⟨g, pc * 6 + 1, none⟩ = some (.int .i64 (Y2 pc).num) ∧ w'.cell? ⟨g, pc * 6 + 2, none⟩ = some (.string (Y2 pc).plr) ∧ w'.cell? ⟨g, pc * 6 + 3, none⟩ = some (.int .i64 (Y2 pc).hole) ∧ w'.cell? ⟨g, pc * 6 + 4, none⟩ = some (.int .i64 (Y2 pc).s) ∧ w'.cell? ⟨g, pc * 6 + 5, none⟩ = some (.string (Y2 pc).m)) ∧ ∀ k, w'.frozen? ⟨g, k, none⟩ = false) := Lib.hid (fun w' h => by
          rw [HLY.out] at h
          exact row_pcM h (HIX.out Y2) hIq)
        have HCK : Hid (∀ w', St W w' LY → (w'.cell? ⟨g, h * 6, none⟩ = some (.string (Y2 h).dev) ∧ w'.cell? ⟨g, h * 6 + 1, none⟩ = some (.int .i64 (Y2 h).num) ∧ w'.cell? ⟨g, h * 6 + 2, none⟩ = some (.string (Y2 h).plr) ∧ w'.cell? ⟨g, h * 6 + 3, none⟩ = some (.int .i64 (Y2 h).hole) ∧ w'.cell? ⟨g, h * 6 + 4, none⟩ = some (.int .i64 (Y2 h).s) ∧ w'.cell? ⟨g, h * 6 + 5, none⟩ = some (.string (Y2 h).m)) ∧ ∀ k, w'.frozen? ⟨g, k, none⟩ = false) := Lib.hid (fun w' h => by
          rw [HLY.out] at h
          exact row_pcM h (HIX.out Y2) hJq)
        generalize cmpN (Y2 pc).num (Y2 h).num = cv at *
        generalize hya : Y2 pc = ya at *
        generalize hyb : Y2 h = yb at *
        clear hya hyb
        obtain ⟨a0, a1, a2, a3, a4, a5⟩ := ya
        obtain ⟨b0, b1, b2, b3, b4, b5⟩ := yb
        unfold MsI.val at HCL
        simp only at HCL HCJ HCK
        cases hlo2 : decide (cv < 0) with
        | true =>
          go_wp2_with fail
          refine wp_cls 12 (fun w' => St W w' LY) (by kernel_rfl) (by kernel_rfl) HS2.out.drew ?_
          simp only [List.take_succ_cons, List.take_zero, List.drop_succ_cons, List.drop_zero]
          generalize hK : (fun w' => St W w' LY) = K
          intro hne
          have kS : ∀ y : Wd K, St W y.w LY := by subst hK; exact fun y => y.h
          have hK3 : ∀ w w' : World, K w → Below w.heap.size w w' → K w' := by subst hK; exact fun w w' h h' => h.ext h'
          have HC3 : Hid (∀ y : Wd K, Calls Tryz.prog 38 #[.agg #[.string a0, .int .i64 a1, .string a2, .int .i64 a3, .int .i64 a4, .string a5], .agg #[.string b0, .int .i64 b1, .string b2, .int .i64 b3, .int .i64 b4, .string b5]] y.w fun e w2 => e = .returned (.int .i64 cv) ∧ ∃ z : Wd K, w2 = z.w) := fun y => cls_below hK3 (HCL.out _)
          have y0 : ∀ y : Wd K, y.w.cell? ⟨g, pc * 6, none⟩ = some (.string a0) := fun y => (HCJ.out _ (kS y)).1.1
          have y1 : ∀ y : Wd K, y.w.cell? ⟨g, pc * 6 + 1, none⟩ = some (.int .i64 a1) := fun y => (HCJ.out _ (kS y)).1.2.1
          have y2 : ∀ y : Wd K, y.w.cell? ⟨g, pc * 6 + 2, none⟩ = some (.string a2) := fun y => (HCJ.out _ (kS y)).1.2.2.1
          have y3 : ∀ y : Wd K, y.w.cell? ⟨g, pc * 6 + 3, none⟩ = some (.int .i64 a3) := fun y => (HCJ.out _ (kS y)).1.2.2.2.1
          have y4 : ∀ y : Wd K, y.w.cell? ⟨g, pc * 6 + 4, none⟩ = some (.int .i64 a4) := fun y => (HCJ.out _ (kS y)).1.2.2.2.2.1
          have y5 : ∀ y : Wd K, y.w.cell? ⟨g, pc * 6 + 5, none⟩ = some (.string a5) := fun y => (HCJ.out _ (kS y)).1.2.2.2.2.2
          have y6 : ∀ y : Wd K, y.w.cell? ⟨g, h * 6, none⟩ = some (.string b0) := fun y => (HCK.out _ (kS y)).1.1
          have y7 : ∀ y : Wd K, y.w.cell? ⟨g, h * 6 + 1, none⟩ = some (.int .i64 b1) := fun y => (HCK.out _ (kS y)).1.2.1
          have y8 : ∀ y : Wd K, y.w.cell? ⟨g, h * 6 + 2, none⟩ = some (.string b2) := fun y => (HCK.out _ (kS y)).1.2.2.1
          have y9 : ∀ y : Wd K, y.w.cell? ⟨g, h * 6 + 3, none⟩ = some (.int .i64 b3) := fun y => (HCK.out _ (kS y)).1.2.2.2.1
          have y10 : ∀ y : Wd K, y.w.cell? ⟨g, h * 6 + 4, none⟩ = some (.int .i64 b4) := fun y => (HCK.out _ (kS y)).1.2.2.2.2.1
          have y11 : ∀ y : Wd K, y.w.cell? ⟨g, h * 6 + 5, none⟩ = some (.string b5) := fun y => (HCK.out _ (kS y)).1.2.2.2.2.2
          have KS := Lib.hid kS
          clear hK kS
          go_big_quiet_step ((fail))
          go_big_quiet_step ((fail))
          go_big_quiet_step ((fail))
          go_big_quiet_step ((fail))
          go_big_quiet_step ((fail))
          go_big_quiet_step ((fail))
          go_big_quiet_step ((fail))
          go_big_quiet_step ((fail))
          go_big_quiet_step ((fail))
          go_big_quiet_step ((fail))
          go_big_quiet_step ((fail))
          go_big_quiet_step ((exact HC3.out _))
          refine wpQuiet_nil ?_
          intro y
          have HSY := Lib.hid (KS.out y)
          clear y0 y1 y2 y3 y4 y5 y6 y7 y8 y9 y10 y11 hK3 HC3 hne KS HS2
          generalize y.w = w3 at *
          have hsy := HSY.out
          rw [HLY.out] at hsy
          have HSF := Lib.hid hsy
          clear hsy HSY
          go_wp2_with fail
          go_roundw
          case rel => exact ⟨x, h, Y2, by omega, by omega, by omega, by go_num, by go_num, hp2, HSF.out⟩
          case measure => simp [intOf]; omega
        | false =>
          go_wp2_with fail
          refine wp_cls 12 (fun w' => St W w' LY) (by kernel_rfl) (by kernel_rfl) HS2.out.drew ?_
          simp only [List.take_succ_cons, List.take_zero, List.drop_succ_cons, List.drop_zero]
          generalize hK : (fun w' => St W w' LY) = K
          intro hne
          have kS : ∀ y : Wd K, St W y.w LY := by subst hK; exact fun y => y.h
          have hK3 : ∀ w w' : World, K w → Below w.heap.size w w' → K w' := by subst hK; exact fun w w' h h' => h.ext h'
          have HC3 : Hid (∀ y : Wd K, Calls Tryz.prog 38 #[.agg #[.string a0, .int .i64 a1, .string a2, .int .i64 a3, .int .i64 a4, .string a5], .agg #[.string b0, .int .i64 b1, .string b2, .int .i64 b3, .int .i64 b4, .string b5]] y.w fun e w2 => e = .returned (.int .i64 cv) ∧ ∃ z : Wd K, w2 = z.w) := fun y => cls_below hK3 (HCL.out _)
          have y0 : ∀ y : Wd K, y.w.cell? ⟨g, pc * 6, none⟩ = some (.string a0) := fun y => (HCJ.out _ (kS y)).1.1
          have y1 : ∀ y : Wd K, y.w.cell? ⟨g, pc * 6 + 1, none⟩ = some (.int .i64 a1) := fun y => (HCJ.out _ (kS y)).1.2.1
          have y2 : ∀ y : Wd K, y.w.cell? ⟨g, pc * 6 + 2, none⟩ = some (.string a2) := fun y => (HCJ.out _ (kS y)).1.2.2.1
          have y3 : ∀ y : Wd K, y.w.cell? ⟨g, pc * 6 + 3, none⟩ = some (.int .i64 a3) := fun y => (HCJ.out _ (kS y)).1.2.2.2.1
          have y4 : ∀ y : Wd K, y.w.cell? ⟨g, pc * 6 + 4, none⟩ = some (.int .i64 a4) := fun y => (HCJ.out _ (kS y)).1.2.2.2.2.1
          have y5 : ∀ y : Wd K, y.w.cell? ⟨g, pc * 6 + 5, none⟩ = some (.string a5) := fun y => (HCJ.out _ (kS y)).1.2.2.2.2.2
          have y6 : ∀ y : Wd K, y.w.cell? ⟨g, h * 6, none⟩ = some (.string b0) := fun y => (HCK.out _ (kS y)).1.1
          have y7 : ∀ y : Wd K, y.w.cell? ⟨g, h * 6 + 1, none⟩ = some (.int .i64 b1) := fun y => (HCK.out _ (kS y)).1.2.1
          have y8 : ∀ y : Wd K, y.w.cell? ⟨g, h * 6 + 2, none⟩ = some (.string b2) := fun y => (HCK.out _ (kS y)).1.2.2.1
          have y9 : ∀ y : Wd K, y.w.cell? ⟨g, h * 6 + 3, none⟩ = some (.int .i64 b3) := fun y => (HCK.out _ (kS y)).1.2.2.2.1
          have y10 : ∀ y : Wd K, y.w.cell? ⟨g, h * 6 + 4, none⟩ = some (.int .i64 b4) := fun y => (HCK.out _ (kS y)).1.2.2.2.2.1
          have y11 : ∀ y : Wd K, y.w.cell? ⟨g, h * 6 + 5, none⟩ = some (.string b5) := fun y => (HCK.out _ (kS y)).1.2.2.2.2.2
          have KS := Lib.hid kS
          clear hK kS
          go_big_quiet_step ((fail))
          go_big_quiet_step ((fail))
          go_big_quiet_step ((fail))
          go_big_quiet_step ((fail))
          go_big_quiet_step ((fail))
          go_big_quiet_step ((fail))
          go_big_quiet_step ((fail))
          go_big_quiet_step ((fail))
          go_big_quiet_step ((fail))
          go_big_quiet_step ((fail))
          go_big_quiet_step ((fail))
          go_big_quiet_step ((exact HC3.out _))
          refine wpQuiet_nil ?_
          intro y
          have HSY := Lib.hid (KS.out y)
          clear y0 y1 y2 y3 y4 y5 y6 y7 y8 y9 y10 y11 hK3 HC3 hne KS HS2
          generalize y.w = w3 at *
          have hsy := HSY.out
          rw [HLY.out] at hsy
          have HSF := Lib.hid hsy
          clear hsy HSY
          go_wp2_with fail
          go_roundw
          case rel => exact ⟨h + 1, yy, Y2, by omega, by omega, by omega, by go_num, by go_num, hp2, HSF.out⟩
          case measure => simp [intOf]; omega
      · obtain rfl : x = yy := by omega
        clear hlt
        obtain ⟨en, hen⟩ : ∃ en, en = n0 - x := ⟨_, rfl⟩
        have henm : (n0 : Int) - (x : Int) = (en : Int) := by omega
        have henw : IntKind.i64.wrap ((n0 : Int) - (x : Int)) = (en : Int) := by rw [henm]; exact IntWalk.i64_in _ (by omega)
        have henb : en ≤ b := by omega
        clear hen
        by_cases hAf1 : x < m
        · by_cases hBf1 : m < en
          · skip
            by_cases hAf2 : a < x
            · by_cases hBf2 : x < mid
              · skip
                by_cases hAf3 : mid < en
                · by_cases hBf3 : en < b
                  · skip
                    have HC0 := Lib.hid (fun w' Y' hp S' => HROT.out x m en w' Y' (by omega) (by omega) (by omega) hp S')
                    have HC1 := Lib.hid (fun w' Y' hp S' => HIH.out a x mid w' Y' (by omega) (by omega) (by omega) (by omega) hp S')
                    have HC2 := Lib.hid (fun w' Y' hp S' => HIH.out mid en b w' Y' (by omega) (by omega) (by omega) (by omega) hp S')
                    have t50 : decide ((x : Int) < (m : Int)) = true := by simp; omega
                    have t50' : decide (x < m) = true := by simp; omega
                    have t51 : decide ((m : Int) < (en : Int)) = true := by simp; omega
                    have t51' : decide (m < en) = true := by simp; omega
                    have t60 : decide ((a : Int) < (x : Int)) = true := by simp; omega
                    have t60' : decide (a < x) = true := by simp; omega
                    have t61 : decide ((x : Int) < (mid : Int)) = true := by simp; omega
                    have t61' : decide (x < mid) = true := by simp; omega
                    have t70 : decide ((mid : Int) < (en : Int)) = true := by simp; omega
                    have t70' : decide (mid < en) = true := by simp; omega
                    have t71 : decide ((en : Int) < (b : Int)) = true := by simp; omega
                    have t71' : decide (en < b) = true := by simp; omega
                    go_wp2_with fail
                    refine (HC0.out _ Y2 hp2.out HS2.out).mono ?_
                    rintro e w5 ⟨rfl, Y5, hp5, S5⟩
                    have HP5 := Lib.hid hp5
                    have HS5 := Lib.hid S5
                    clear hp5 S5
                    go_wp2_with fail
                    refine (HC1.out _ Y5 HP5.out HS5.out).mono ?_
                    rintro e w6 ⟨rfl, Y6, hp6, S6⟩
                    have HP6 := Lib.hid hp6
                    have HS6 := Lib.hid S6
                    clear hp6 S6
                    go_wp2_with fail
                    refine (HC2.out _ Y6 HP6.out HS6.out).mono ?_
                    rintro e w7 ⟨rfl, Y7, hp7, S7⟩
                    have HP7 := Lib.hid hp7
                    have HS7 := Lib.hid S7
                    clear hp7 S7
                    go_wp2_with fail
                    go_end0
                    exact ⟨rfl, Y7, HP7.out, HS7.out⟩
                  · skip
                    have HC0 := Lib.hid (fun w' Y' hp S' => HROT.out x m en w' Y' (by omega) (by omega) (by omega) hp S')
                    have HC1 := Lib.hid (fun w' Y' hp S' => HIH.out a x mid w' Y' (by omega) (by omega) (by omega) (by omega) hp S')
                    have t50 : decide ((x : Int) < (m : Int)) = true := by simp; omega
                    have t50' : decide (x < m) = true := by simp; omega
                    have t51 : decide ((m : Int) < (en : Int)) = true := by simp; omega
                    have t51' : decide (m < en) = true := by simp; omega
                    have t60 : decide ((a : Int) < (x : Int)) = true := by simp; omega
                    have t60' : decide (a < x) = true := by simp; omega
                    have t61 : decide ((x : Int) < (mid : Int)) = true := by simp; omega
                    have t61' : decide (x < mid) = true := by simp; omega
                    have t70 : decide ((mid : Int) < (en : Int)) = true := by simp; omega
                    have t70' : decide (mid < en) = true := by simp; omega
                    have t71 : decide ((en : Int) < (b : Int)) = false := by simp; omega
                    have t71' : decide (en < b) = false := by simp; omega
                    go_wp2_with fail
                    refine (HC0.out _ Y2 hp2.out HS2.out).mono ?_
                    rintro e w5 ⟨rfl, Y5, hp5, S5⟩
                    have HP5 := Lib.hid hp5
                    have HS5 := Lib.hid S5
                    clear hp5 S5
                    go_wp2_with fail
                    refine (HC1.out _ Y5 HP5.out HS5.out).mono ?_
                    rintro e w6 ⟨rfl, Y6, hp6, S6⟩
                    have HP6 := Lib.hid hp6
                    have HS6 := Lib.hid S6
                    clear hp6 S6
                    go_wp2_with fail
                    go_end0
                    exact ⟨rfl, Y6, HP6.out, HS6.out⟩
                · skip
                  have HC0 := Lib.hid (fun w' Y' hp S' => HROT.out x m en w' Y' (by omega) (by omega) (by omega) hp S')
                  have HC1 := Lib.hid (fun w' Y' hp S' => HIH.out a x mid w' Y' (by omega) (by omega) (by omega) (by omega) hp S')
                  have t50 : decide ((x : Int) < (m : Int)) = true := by simp; omega
                  have t50' : decide (x < m) = true := by simp; omega
                  have t51 : decide ((m : Int) < (en : Int)) = true := by simp; omega
                  have t51' : decide (m < en) = true := by simp; omega
                  have t60 : decide ((a : Int) < (x : Int)) = true := by simp; omega
                  have t60' : decide (a < x) = true := by simp; omega
                  have t61 : decide ((x : Int) < (mid : Int)) = true := by simp; omega
                  have t61' : decide (x < mid) = true := by simp; omega
                  have t70 : decide ((mid : Int) < (en : Int)) = false := by simp; omega
                  have t70' : decide (mid < en) = false := by simp; omega
                  go_wp2_with fail
                  refine (HC0.out _ Y2 hp2.out HS2.out).mono ?_
                  rintro e w5 ⟨rfl, Y5, hp5, S5⟩
                  have HP5 := Lib.hid hp5
                  have HS5 := Lib.hid S5
                  clear hp5 S5
                  go_wp2_with fail
                  refine (HC1.out _ Y5 HP5.out HS5.out).mono ?_
                  rintro e w6 ⟨rfl, Y6, hp6, S6⟩
                  have HP6 := Lib.hid hp6
                  have HS6 := Lib.hid S6
                  clear hp6 S6
                  go_wp2_with fail
                  go_end0
                  exact ⟨rfl, Y6, HP6.out, HS6.out⟩
              · skip
                by_cases hAf3 : mid < en
                · by_cases hBf3 : en < b
                  · skip
                    have HC0 := Lib.hid (fun w' Y' hp S' => HROT.out x m en w' Y' (by omega) (by omega) (by omega) hp S')
                    have HC1 := Lib.hid (fun w' Y' hp S' => HIH.out mid en b w' Y' (by omega) (by omega) (by omega) (by omega) hp S')
                    have t50 : decide ((x : Int) < (m : Int)) = true := by simp; omega
                    have t50' : decide (x < m) = true := by simp; omega
                    have t51 : decide ((m : Int) < (en : Int)) = true := by simp; omega
                    have t51' : decide (m < en) = true := by simp; omega
                    have t60 : decide ((a : Int) < (x : Int)) = true := by simp; omega
                    have t60' : decide (a < x) = true := by simp; omega
                    have t61 : decide ((x : Int) < (mid : Int)) = false := by simp; omega
                    have t61' : decide (x < mid) = false := by simp; omega
                    have t70 : decide ((mid : Int) < (en : Int)) = true := by simp; omega
                    have t70' : decide (mid < en) = true := by simp; omega
                    have t71 : decide ((en : Int) < (b : Int)) = true := by simp; omega
                    have t71' : decide (en < b) = true := by simp; omega
                    go_wp2_with fail
                    refine (HC0.out _ Y2 hp2.out HS2.out).mono ?_
                    rintro e w5 ⟨rfl, Y5, hp5, S5⟩
                    have HP5 := Lib.hid hp5
                    have HS5 := Lib.hid S5
                    clear hp5 S5
                    go_wp2_with fail
                    refine (HC1.out _ Y5 HP5.out HS5.out).mono ?_
                    rintro e w6 ⟨rfl, Y6, hp6, S6⟩
                    have HP6 := Lib.hid hp6
                    have HS6 := Lib.hid S6
                    clear hp6 S6
                    go_wp2_with fail
                    go_end0
                    exact ⟨rfl, Y6, HP6.out, HS6.out⟩
                  · skip
                    have HC0 := Lib.hid (fun w' Y' hp S' => HROT.out x m en w' Y' (by omega) (by omega) (by omega) hp S')
                    have t50 : decide ((x : Int) < (m : Int)) = true := by simp; omega
                    have t50' : decide (x < m) = true := by simp; omega
                    have t51 : decide ((m : Int) < (en : Int)) = true := by simp; omega
                    have t51' : decide (m < en) = true := by simp; omega
                    have t60 : decide ((a : Int) < (x : Int)) = true := by simp; omega
                    have t60' : decide (a < x) = true := by simp; omega
                    have t61 : decide ((x : Int) < (mid : Int)) = false := by simp; omega
                    have t61' : decide (x < mid) = false := by simp; omega
                    have t70 : decide ((mid : Int) < (en : Int)) = true := by simp; omega
                    have t70' : decide (mid < en) = true := by simp; omega
                    have t71 : decide ((en : Int) < (b : Int)) = false := by simp; omega
                    have t71' : decide (en < b) = false := by simp; omega
                    go_wp2_with fail
                    refine (HC0.out _ Y2 hp2.out HS2.out).mono ?_
                    rintro e w5 ⟨rfl, Y5, hp5, S5⟩
                    have HP5 := Lib.hid hp5
                    have HS5 := Lib.hid S5
                    clear hp5 S5
                    go_wp2_with fail
                    go_end0
                    exact ⟨rfl, Y5, HP5.out, HS5.out⟩
                · skip
                  have HC0 := Lib.hid (fun w' Y' hp S' => HROT.out x m en w' Y' (by omega) (by omega) (by omega) hp S')
                  have t50 : decide ((x : Int) < (m : Int)) = true := by simp; omega
                  have t50' : decide (x < m) = true := by simp; omega
                  have t51 : decide ((m : Int) < (en : Int)) = true := by simp; omega
                  have t51' : decide (m < en) = true := by simp; omega
                  have t60 : decide ((a : Int) < (x : Int)) = true := by simp; omega
                  have t60' : decide (a < x) = true := by simp; omega
                  have t61 : decide ((x : Int) < (mid : Int)) = false := by simp; omega
                  have t61' : decide (x < mid) = false := by simp; omega
                  have t70 : decide ((mid : Int) < (en : Int)) = false := by simp; omega
                  have t70' : decide (mid < en) = false := by simp; omega
                  go_wp2_with fail
                  refine (HC0.out _ Y2 hp2.out HS2.out).mono ?_
                  rintro e w5 ⟨rfl, Y5, hp5, S5⟩
                  have HP5 := Lib.hid hp5
                  have HS5 := Lib.hid S5
                  clear hp5 S5
                  go_wp2_with fail
                  go_end0
                  exact ⟨rfl, Y5, HP5.out, HS5.out⟩
            · skip
              by_cases hAf3 : mid < en
              · by_cases hBf3 : en < b
                · skip
                  have HC0 := Lib.hid (fun w' Y' hp S' => HROT.out x m en w' Y' (by omega) (by omega) (by omega) hp S')
                  have HC1 := Lib.hid (fun w' Y' hp S' => HIH.out mid en b w' Y' (by omega) (by omega) (by omega) (by omega) hp S')
                  have t50 : decide ((x : Int) < (m : Int)) = true := by simp; omega
                  have t50' : decide (x < m) = true := by simp; omega
                  have t51 : decide ((m : Int) < (en : Int)) = true := by simp; omega
                  have t51' : decide (m < en) = true := by simp; omega
                  have t60 : decide ((a : Int) < (x : Int)) = false := by simp; omega
                  have t60' : decide (a < x) = false := by simp; omega
                  have t70 : decide ((mid : Int) < (en : Int)) = true := by simp; omega
                  have t70' : decide (mid < en) = true := by simp; omega
                  have t71 : decide ((en : Int) < (b : Int)) = true := by simp; omega
                  have t71' : decide (en < b) = true := by simp; omega
                  go_wp2_with fail
                  refine (HC0.out _ Y2 hp2.out HS2.out).mono ?_
                  rintro e w5 ⟨rfl, Y5, hp5, S5⟩
                  have HP5 := Lib.hid hp5
                  have HS5 := Lib.hid S5
                  clear hp5 S5
                  go_wp2_with fail
                  refine (HC1.out _ Y5 HP5.out HS5.out).mono ?_
                  rintro e w6 ⟨rfl, Y6, hp6, S6⟩
                  have HP6 := Lib.hid hp6
                  have HS6 := Lib.hid S6
                  clear hp6 S6
                  go_wp2_with fail
                  go_end0
                  exact ⟨rfl, Y6, HP6.out, HS6.out⟩
                · skip
                  have HC0 := Lib.hid (fun w' Y' hp S' => HROT.out x m en w' Y' (by omega) (by omega) (by omega) hp S')
                  have t50 : decide ((x : Int) < (m : Int)) = true := by simp; omega
                  have t50' : decide (x < m) = true := by simp; omega
                  have t51 : decide ((m : Int) < (en : Int)) = true := by simp; omega
                  have t51' : decide (m < en) = true := by simp; omega
                  have t60 : decide ((a : Int) < (x : Int)) = false := by simp; omega
                  have t60' : decide (a < x) = false := by simp; omega
                  have t70 : decide ((mid : Int) < (en : Int)) = true := by simp; omega
                  have t70' : decide (mid < en) = true := by simp; omega
                  have t71 : decide ((en : Int) < (b : Int)) = false := by simp; omega
                  have t71' : decide (en < b) = false := by simp; omega
                  go_wp2_with fail
                  refine (HC0.out _ Y2 hp2.out HS2.out).mono ?_
                  rintro e w5 ⟨rfl, Y5, hp5, S5⟩
                  have HP5 := Lib.hid hp5
                  have HS5 := Lib.hid S5
                  clear hp5 S5
                  go_wp2_with fail
                  go_end0
                  exact ⟨rfl, Y5, HP5.out, HS5.out⟩
              · skip
                have HC0 := Lib.hid (fun w' Y' hp S' => HROT.out x m en w' Y' (by omega) (by omega) (by omega) hp S')
                have t50 : decide ((x : Int) < (m : Int)) = true := by simp; omega
                have t50' : decide (x < m) = true := by simp; omega
                have t51 : decide ((m : Int) < (en : Int)) = true := by simp; omega
                have t51' : decide (m < en) = true := by simp; omega
                have t60 : decide ((a : Int) < (x : Int)) = false := by simp; omega
                have t60' : decide (a < x) = false := by simp; omega
                have t70 : decide ((mid : Int) < (en : Int)) = false := by simp; omega
                have t70' : decide (mid < en) = false := by simp; omega
                go_wp2_with fail
                refine (HC0.out _ Y2 hp2.out HS2.out).mono ?_
                rintro e w5 ⟨rfl, Y5, hp5, S5⟩
                have HP5 := Lib.hid hp5
                have HS5 := Lib.hid S5
                clear hp5 S5
                go_wp2_with fail
                go_end0
                exact ⟨rfl, Y5, HP5.out, HS5.out⟩
          · skip
            by_cases hAf2 : a < x
            · by_cases hBf2 : x < mid
              · skip
                by_cases hAf3 : mid < en
                · by_cases hBf3 : en < b
                  · skip
                    have HC0 := Lib.hid (fun w' Y' hp S' => HIH.out a x mid w' Y' (by omega) (by omega) (by omega) (by omega) hp S')
                    have HC1 := Lib.hid (fun w' Y' hp S' => HIH.out mid en b w' Y' (by omega) (by omega) (by omega) (by omega) hp S')
                    have t50 : decide ((x : Int) < (m : Int)) = true := by simp; omega
                    have t50' : decide (x < m) = true := by simp; omega
                    have t51 : decide ((m : Int) < (en : Int)) = false := by simp; omega
                    have t51' : decide (m < en) = false := by simp; omega
                    have t60 : decide ((a : Int) < (x : Int)) = true := by simp; omega
                    have t60' : decide (a < x) = true := by simp; omega
                    have t61 : decide ((x : Int) < (mid : Int)) = true := by simp; omega
                    have t61' : decide (x < mid) = true := by simp; omega
                    have t70 : decide ((mid : Int) < (en : Int)) = true := by simp; omega
                    have t70' : decide (mid < en) = true := by simp; omega
                    have t71 : decide ((en : Int) < (b : Int)) = true := by simp; omega
                    have t71' : decide (en < b) = true := by simp; omega
                    go_wp2_with fail
                    refine (HC0.out _ Y2 hp2.out HS2.out).mono ?_
                    rintro e w5 ⟨rfl, Y5, hp5, S5⟩
                    have HP5 := Lib.hid hp5
                    have HS5 := Lib.hid S5
                    clear hp5 S5
                    go_wp2_with fail
                    refine (HC1.out _ Y5 HP5.out HS5.out).mono ?_
                    rintro e w6 ⟨rfl, Y6, hp6, S6⟩
                    have HP6 := Lib.hid hp6
                    have HS6 := Lib.hid S6
                    clear hp6 S6
                    go_wp2_with fail
                    go_end0
                    exact ⟨rfl, Y6, HP6.out, HS6.out⟩
                  · skip
                    have HC0 := Lib.hid (fun w' Y' hp S' => HIH.out a x mid w' Y' (by omega) (by omega) (by omega) (by omega) hp S')
                    have t50 : decide ((x : Int) < (m : Int)) = true := by simp; omega
                    have t50' : decide (x < m) = true := by simp; omega
                    have t51 : decide ((m : Int) < (en : Int)) = false := by simp; omega
                    have t51' : decide (m < en) = false := by simp; omega
                    have t60 : decide ((a : Int) < (x : Int)) = true := by simp; omega
                    have t60' : decide (a < x) = true := by simp; omega
                    have t61 : decide ((x : Int) < (mid : Int)) = true := by simp; omega
                    have t61' : decide (x < mid) = true := by simp; omega
                    have t70 : decide ((mid : Int) < (en : Int)) = true := by simp; omega
                    have t70' : decide (mid < en) = true := by simp; omega
                    have t71 : decide ((en : Int) < (b : Int)) = false := by simp; omega
                    have t71' : decide (en < b) = false := by simp; omega
                    go_wp2_with fail
                    refine (HC0.out _ Y2 hp2.out HS2.out).mono ?_
                    rintro e w5 ⟨rfl, Y5, hp5, S5⟩
                    have HP5 := Lib.hid hp5
                    have HS5 := Lib.hid S5
                    clear hp5 S5
                    go_wp2_with fail
                    go_end0
                    exact ⟨rfl, Y5, HP5.out, HS5.out⟩
                · skip
                  have HC0 := Lib.hid (fun w' Y' hp S' => HIH.out a x mid w' Y' (by omega) (by omega) (by omega) (by omega) hp S')
                  have t50 : decide ((x : Int) < (m : Int)) = true := by simp; omega
                  have t50' : decide (x < m) = true := by simp; omega
                  have t51 : decide ((m : Int) < (en : Int)) = false := by simp; omega
                  have t51' : decide (m < en) = false := by simp; omega
                  have t60 : decide ((a : Int) < (x : Int)) = true := by simp; omega
                  have t60' : decide (a < x) = true := by simp; omega
                  have t61 : decide ((x : Int) < (mid : Int)) = true := by simp; omega
                  have t61' : decide (x < mid) = true := by simp; omega
                  have t70 : decide ((mid : Int) < (en : Int)) = false := by simp; omega
                  have t70' : decide (mid < en) = false := by simp; omega
                  go_wp2_with fail
                  refine (HC0.out _ Y2 hp2.out HS2.out).mono ?_
                  rintro e w5 ⟨rfl, Y5, hp5, S5⟩
                  have HP5 := Lib.hid hp5
                  have HS5 := Lib.hid S5
                  clear hp5 S5
                  go_wp2_with fail
                  go_end0
                  exact ⟨rfl, Y5, HP5.out, HS5.out⟩
              · skip
                by_cases hAf3 : mid < en
                · by_cases hBf3 : en < b
                  · skip
                    have HC0 := Lib.hid (fun w' Y' hp S' => HIH.out mid en b w' Y' (by omega) (by omega) (by omega) (by omega) hp S')
                    have t50 : decide ((x : Int) < (m : Int)) = true := by simp; omega
                    have t50' : decide (x < m) = true := by simp; omega
                    have t51 : decide ((m : Int) < (en : Int)) = false := by simp; omega
                    have t51' : decide (m < en) = false := by simp; omega
                    have t60 : decide ((a : Int) < (x : Int)) = true := by simp; omega
                    have t60' : decide (a < x) = true := by simp; omega
                    have t61 : decide ((x : Int) < (mid : Int)) = false := by simp; omega
                    have t61' : decide (x < mid) = false := by simp; omega
                    have t70 : decide ((mid : Int) < (en : Int)) = true := by simp; omega
                    have t70' : decide (mid < en) = true := by simp; omega
                    have t71 : decide ((en : Int) < (b : Int)) = true := by simp; omega
                    have t71' : decide (en < b) = true := by simp; omega
                    go_wp2_with fail
                    refine (HC0.out _ Y2 hp2.out HS2.out).mono ?_
                    rintro e w5 ⟨rfl, Y5, hp5, S5⟩
                    have HP5 := Lib.hid hp5
                    have HS5 := Lib.hid S5
                    clear hp5 S5
                    go_wp2_with fail
                    go_end0
                    exact ⟨rfl, Y5, HP5.out, HS5.out⟩
                  · skip
                    have t50 : decide ((x : Int) < (m : Int)) = true := by simp; omega
                    have t50' : decide (x < m) = true := by simp; omega
                    have t51 : decide ((m : Int) < (en : Int)) = false := by simp; omega
                    have t51' : decide (m < en) = false := by simp; omega
                    have t60 : decide ((a : Int) < (x : Int)) = true := by simp; omega
                    have t60' : decide (a < x) = true := by simp; omega
                    have t61 : decide ((x : Int) < (mid : Int)) = false := by simp; omega
                    have t61' : decide (x < mid) = false := by simp; omega
                    have t70 : decide ((mid : Int) < (en : Int)) = true := by simp; omega
                    have t70' : decide (mid < en) = true := by simp; omega
                    have t71 : decide ((en : Int) < (b : Int)) = false := by simp; omega
                    have t71' : decide (en < b) = false := by simp; omega
                    go_wp2_with fail
                    go_end0
                    exact ⟨rfl, Y2, hp2.out, HS2.out⟩
                · skip
                  have t50 : decide ((x : Int) < (m : Int)) = true := by simp; omega
                  have t50' : decide (x < m) = true := by simp; omega
                  have t51 : decide ((m : Int) < (en : Int)) = false := by simp; omega
                  have t51' : decide (m < en) = false := by simp; omega
                  have t60 : decide ((a : Int) < (x : Int)) = true := by simp; omega
                  have t60' : decide (a < x) = true := by simp; omega
                  have t61 : decide ((x : Int) < (mid : Int)) = false := by simp; omega
                  have t61' : decide (x < mid) = false := by simp; omega
                  have t70 : decide ((mid : Int) < (en : Int)) = false := by simp; omega
                  have t70' : decide (mid < en) = false := by simp; omega
                  go_wp2_with fail
                  go_end0
                  exact ⟨rfl, Y2, hp2.out, HS2.out⟩
            · skip
              by_cases hAf3 : mid < en
              · by_cases hBf3 : en < b
                · skip
                  have HC0 := Lib.hid (fun w' Y' hp S' => HIH.out mid en b w' Y' (by omega) (by omega) (by omega) (by omega) hp S')
                  have t50 : decide ((x : Int) < (m : Int)) = true := by simp; omega
                  have t50' : decide (x < m) = true := by simp; omega
                  have t51 : decide ((m : Int) < (en : Int)) = false := by simp; omega
                  have t51' : decide (m < en) = false := by simp; omega
                  have t60 : decide ((a : Int) < (x : Int)) = false := by simp; omega
                  have t60' : decide (a < x) = false := by simp; omega
                  have t70 : decide ((mid : Int) < (en : Int)) = true := by simp; omega
                  have t70' : decide (mid < en) = true := by simp; omega
                  have t71 : decide ((en : Int) < (b : Int)) = true := by simp; omega
                  have t71' : decide (en < b) = true := by simp; omega
                  go_wp2_with fail
                  refine (HC0.out _ Y2 hp2.out HS2.out).mono ?_
                  rintro e w5 ⟨rfl, Y5, hp5, S5⟩
                  have HP5 := Lib.hid hp5
                  have HS5 := Lib.hid S5
                  clear hp5 S5
                  go_wp2_with fail
                  go_end0
                  exact ⟨rfl, Y5, HP5.out, HS5.out⟩
                · skip
                  have t50 : decide ((x : Int) < (m : Int)) = true := by simp; omega
                  have t50' : decide (x < m) = true := by simp; omega
                  have t51 : decide ((m : Int) < (en : Int)) = false := by simp; omega
                  have t51' : decide (m < en) = false := by simp; omega
                  have t60 : decide ((a : Int) < (x : Int)) = false := by simp; omega
                  have t60' : decide (a < x) = false := by simp; omega
                  have t70 : decide ((mid : Int) < (en : Int)) = true := by simp; omega
                  have t70' : decide (mid < en) = true := by simp; omega
                  have t71 : decide ((en : Int) < (b : Int)) = false := by simp; omega
                  have t71' : decide (en < b) = false := by simp; omega
                  go_wp2_with fail
                  go_end0
                  exact ⟨rfl, Y2, hp2.out, HS2.out⟩
              · skip
                have t50 : decide ((x : Int) < (m : Int)) = true := by simp; omega
                have t50' : decide (x < m) = true := by simp; omega
                have t51 : decide ((m : Int) < (en : Int)) = false := by simp; omega
                have t51' : decide (m < en) = false := by simp; omega
                have t60 : decide ((a : Int) < (x : Int)) = false := by simp; omega
                have t60' : decide (a < x) = false := by simp; omega
                have t70 : decide ((mid : Int) < (en : Int)) = false := by simp; omega
                have t70' : decide (mid < en) = false := by simp; omega
                go_wp2_with fail
                go_end0
                exact ⟨rfl, Y2, hp2.out, HS2.out⟩
        · skip
          by_cases hAf2 : a < x
          · by_cases hBf2 : x < mid
            · skip
              by_cases hAf3 : mid < en
              · by_cases hBf3 : en < b
                · skip
                  have HC0 := Lib.hid (fun w' Y' hp S' => HIH.out a x mid w' Y' (by omega) (by omega) (by omega) (by omega) hp S')
                  have HC1 := Lib.hid (fun w' Y' hp S' => HIH.out mid en b w' Y' (by omega) (by omega) (by omega) (by omega) hp S')
                  have t50 : decide ((x : Int) < (m : Int)) = false := by simp; omega
                  have t50' : decide (x < m) = false := by simp; omega
                  have t60 : decide ((a : Int) < (x : Int)) = true := by simp; omega
                  have t60' : decide (a < x) = true := by simp; omega
                  have t61 : decide ((x : Int) < (mid : Int)) = true := by simp; omega
                  have t61' : decide (x < mid) = true := by simp; omega
                  have t70 : decide ((mid : Int) < (en : Int)) = true := by simp; omega
                  have t70' : decide (mid < en) = true := by simp; omega
                  have t71 : decide ((en : Int) < (b : Int)) = true := by simp; omega
                  have t71' : decide (en < b) = true := by simp; omega
                  go_wp2_with fail
                  refine (HC0.out _ Y2 hp2.out HS2.out).mono ?_
                  rintro e w5 ⟨rfl, Y5, hp5, S5⟩
                  have HP5 := Lib.hid hp5
                  have HS5 := Lib.hid S5
                  clear hp5 S5
                  go_wp2_with fail
                  refine (HC1.out _ Y5 HP5.out HS5.out).mono ?_
                  rintro e w6 ⟨rfl, Y6, hp6, S6⟩
                  have HP6 := Lib.hid hp6
                  have HS6 := Lib.hid S6
                  clear hp6 S6
                  go_wp2_with fail
                  go_end0
                  exact ⟨rfl, Y6, HP6.out, HS6.out⟩
                · skip
                  have HC0 := Lib.hid (fun w' Y' hp S' => HIH.out a x mid w' Y' (by omega) (by omega) (by omega) (by omega) hp S')
                  have t50 : decide ((x : Int) < (m : Int)) = false := by simp; omega
                  have t50' : decide (x < m) = false := by simp; omega
                  have t60 : decide ((a : Int) < (x : Int)) = true := by simp; omega
                  have t60' : decide (a < x) = true := by simp; omega
                  have t61 : decide ((x : Int) < (mid : Int)) = true := by simp; omega
                  have t61' : decide (x < mid) = true := by simp; omega
                  have t70 : decide ((mid : Int) < (en : Int)) = true := by simp; omega
                  have t70' : decide (mid < en) = true := by simp; omega
                  have t71 : decide ((en : Int) < (b : Int)) = false := by simp; omega
                  have t71' : decide (en < b) = false := by simp; omega
                  go_wp2_with fail
                  refine (HC0.out _ Y2 hp2.out HS2.out).mono ?_
                  rintro e w5 ⟨rfl, Y5, hp5, S5⟩
                  have HP5 := Lib.hid hp5
                  have HS5 := Lib.hid S5
                  clear hp5 S5
                  go_wp2_with fail
                  go_end0
                  exact ⟨rfl, Y5, HP5.out, HS5.out⟩
              · skip
                have HC0 := Lib.hid (fun w' Y' hp S' => HIH.out a x mid w' Y' (by omega) (by omega) (by omega) (by omega) hp S')
                have t50 : decide ((x : Int) < (m : Int)) = false := by simp; omega
                have t50' : decide (x < m) = false := by simp; omega
                have t60 : decide ((a : Int) < (x : Int)) = true := by simp; omega
                have t60' : decide (a < x) = true := by simp; omega
                have t61 : decide ((x : Int) < (mid : Int)) = true := by simp; omega
                have t61' : decide (x < mid) = true := by simp; omega
                have t70 : decide ((mid : Int) < (en : Int)) = false := by simp; omega
                have t70' : decide (mid < en) = false := by simp; omega
                go_wp2_with fail
                refine (HC0.out _ Y2 hp2.out HS2.out).mono ?_
                rintro e w5 ⟨rfl, Y5, hp5, S5⟩
                have HP5 := Lib.hid hp5
                have HS5 := Lib.hid S5
                clear hp5 S5
                go_wp2_with fail
                go_end0
                exact ⟨rfl, Y5, HP5.out, HS5.out⟩
            · skip
              by_cases hAf3 : mid < en
              · by_cases hBf3 : en < b
                · skip
                  have HC0 := Lib.hid (fun w' Y' hp S' => HIH.out mid en b w' Y' (by omega) (by omega) (by omega) (by omega) hp S')
                  have t50 : decide ((x : Int) < (m : Int)) = false := by simp; omega
                  have t50' : decide (x < m) = false := by simp; omega
                  have t60 : decide ((a : Int) < (x : Int)) = true := by simp; omega
                  have t60' : decide (a < x) = true := by simp; omega
                  have t61 : decide ((x : Int) < (mid : Int)) = false := by simp; omega
                  have t61' : decide (x < mid) = false := by simp; omega
                  have t70 : decide ((mid : Int) < (en : Int)) = true := by simp; omega
                  have t70' : decide (mid < en) = true := by simp; omega
                  have t71 : decide ((en : Int) < (b : Int)) = true := by simp; omega
                  have t71' : decide (en < b) = true := by simp; omega
                  go_wp2_with fail
                  refine (HC0.out _ Y2 hp2.out HS2.out).mono ?_
                  rintro e w5 ⟨rfl, Y5, hp5, S5⟩
                  have HP5 := Lib.hid hp5
                  have HS5 := Lib.hid S5
                  clear hp5 S5
                  go_wp2_with fail
                  go_end0
                  exact ⟨rfl, Y5, HP5.out, HS5.out⟩
                · skip
                  have t50 : decide ((x : Int) < (m : Int)) = false := by simp; omega
                  have t50' : decide (x < m) = false := by simp; omega
                  have t60 : decide ((a : Int) < (x : Int)) = true := by simp; omega
                  have t60' : decide (a < x) = true := by simp; omega
                  have t61 : decide ((x : Int) < (mid : Int)) = false := by simp; omega
                  have t61' : decide (x < mid) = false := by simp; omega
                  have t70 : decide ((mid : Int) < (en : Int)) = true := by simp; omega
                  have t70' : decide (mid < en) = true := by simp; omega
                  have t71 : decide ((en : Int) < (b : Int)) = false := by simp; omega
                  have t71' : decide (en < b) = false := by simp; omega
                  go_wp2_with fail
                  go_end0
                  exact ⟨rfl, Y2, hp2.out, HS2.out⟩
              · skip
                have t50 : decide ((x : Int) < (m : Int)) = false := by simp; omega
                have t50' : decide (x < m) = false := by simp; omega
                have t60 : decide ((a : Int) < (x : Int)) = true := by simp; omega
                have t60' : decide (a < x) = true := by simp; omega
                have t61 : decide ((x : Int) < (mid : Int)) = false := by simp; omega
                have t61' : decide (x < mid) = false := by simp; omega
                have t70 : decide ((mid : Int) < (en : Int)) = false := by simp; omega
                have t70' : decide (mid < en) = false := by simp; omega
                go_wp2_with fail
                go_end0
                exact ⟨rfl, Y2, hp2.out, HS2.out⟩
          · skip
            by_cases hAf3 : mid < en
            · by_cases hBf3 : en < b
              · skip
                have HC0 := Lib.hid (fun w' Y' hp S' => HIH.out mid en b w' Y' (by omega) (by omega) (by omega) (by omega) hp S')
                have t50 : decide ((x : Int) < (m : Int)) = false := by simp; omega
                have t50' : decide (x < m) = false := by simp; omega
                have t60 : decide ((a : Int) < (x : Int)) = false := by simp; omega
                have t60' : decide (a < x) = false := by simp; omega
                have t70 : decide ((mid : Int) < (en : Int)) = true := by simp; omega
                have t70' : decide (mid < en) = true := by simp; omega
                have t71 : decide ((en : Int) < (b : Int)) = true := by simp; omega
                have t71' : decide (en < b) = true := by simp; omega
                go_wp2_with fail
                refine (HC0.out _ Y2 hp2.out HS2.out).mono ?_
                rintro e w5 ⟨rfl, Y5, hp5, S5⟩
                have HP5 := Lib.hid hp5
                have HS5 := Lib.hid S5
                clear hp5 S5
                go_wp2_with fail
                go_end0
                exact ⟨rfl, Y5, HP5.out, HS5.out⟩
              · skip
                have t50 : decide ((x : Int) < (m : Int)) = false := by simp; omega
                have t50' : decide (x < m) = false := by simp; omega
                have t60 : decide ((a : Int) < (x : Int)) = false := by simp; omega
                have t60' : decide (a < x) = false := by simp; omega
                have t70 : decide ((mid : Int) < (en : Int)) = true := by simp; omega
                have t70' : decide (mid < en) = true := by simp; omega
                have t71 : decide ((en : Int) < (b : Int)) = false := by simp; omega
                have t71' : decide (en < b) = false := by simp; omega
                go_wp2_with fail
                go_end0
                exact ⟨rfl, Y2, hp2.out, HS2.out⟩
            · skip
              have t50 : decide ((x : Int) < (m : Int)) = false := by simp; omega
              have t50' : decide (x < m) = false := by simp; omega
              have t60 : decide ((a : Int) < (x : Int)) = false := by simp; omega
              have t60' : decide (a < x) = false := by simp; omega
              have t70 : decide ((mid : Int) < (en : Int)) = false := by simp; omega
              have t70' : decide (mid < en) = false := by simp; omega
              go_wp2_with fail
              go_end0
              exact ⟨rfl, Y2, hp2.out, HS2.out⟩
end Go.Proofs.YtnaafefcijgpkaaGreatDoor
