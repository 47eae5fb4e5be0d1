/- Part 23 of the walks of the golf union's program: UF15, UF17. -/
import Derived.Test.YtnaafefcijgpkaaGreatDoorB22
set_option linter.unusedVariables false
set_option linter.unusedSimpArgs false
set_option linter.unusedSectionVars false
set_option linter.constructorNameAsVariable false
/- The library's stable sort of messages, only that it permutes: swapRange, rotate. -/
namespace Go.Proofs.YtnaafefcijgpkaaGreatDoor
open Go.RowKit Go.Mem Go.Sheet Go.Adj
set_option maxRecDepth 100000 in
set_option maxHeartbeats 16000000 in
theorem swR_any (a b m : Nat) (W w : World) (L : List Asr) (k0 g c q : Nat) (Y : Nat → MsI) (hq : q ≤ 1000) (S : St W w L) (hL : L[k0]? = some (row 69 6 (.slice (some ⟨g, 0, none⟩) q c) q (pcM Y q))) (ha : a + m ≤ q) (hb : b + m ≤ q) (hab : a ≠ b) :
    Calls Tryz.prog 127 #[.slice (some ⟨g, 0, none⟩) q c, .int .i64 a, .int .i64 b, .int .i64 m, .func (.func 38) #[] #[]] w fun e w' => e = .returned (.tuple #[]) ∧ ∃ Y', PermG Y Y' q ∧ St W w' (L.set k0 (row 69 6 (.slice (some ⟨g, 0, none⟩) q c) q (pcM Y' q))) := by
  have HIX := Lib.hid (ix_row L k0 g c q Y hL)
  have HSS : Hid (∀ A B : Asr, (L.set k0 A).set k0 B = L.set k0 B) := fun A B => List.set_set ..
  have S0 : St W w (L.set k0 (row 69 6 (.slice (some ⟨g, 0, none⟩) q c) q (pcM Y q))) := by rw [set_self L k0 _ hL]; exact S
  clear S hL
  go_enter Tryz.func127, Tryz.ntmps127
  go_wp2
  go_loopw [10] (fun i w' => ∃ (k : Nat) (Y' : Nat → MsI), k ≤ m ∧ i = .int .i64 k ∧ Hid (PermG Y Y' q) ∧ St W w' (L.set k0 (row 69 6 (.slice (some ⟨g, 0, none⟩) q c) q (pcM Y' q)))) (fun i _ => m - (intOf i).toNat)
  case atStart => exact ⟨0, Y, Nat.zero_le _, rfl, PermG.refl Y q, S0⟩
  case round =>
    obtain ⟨k, Y2, hk, rfl, hp2, S2⟩ := hrel
    clear S0
    have HS2 := Lib.hid S2
    clear S2
    by_cases hlt : k < m
    · 
      obtain ⟨LY, hLY⟩ : ∃ LY, LY = L.set k0 (row 69 6 (.slice (some ⟨g, 0, none⟩) q c) q (pcM Y2 q)) := ⟨_, rfl⟩
      rw [← hLY] at HS2
      have HLY := Lib.hid hLY
      clear hLY
      obtain ⟨I, hI⟩ : ∃ I, I = a + k := ⟨_, rfl⟩
      obtain ⟨J, hJ⟩ : ∃ J, J = b + k := ⟨_, rfl⟩
      have hIm : (a : Int) + (k : Int) = (I : Int) := by omega
      have hIw : IntKind.i64.wrap ((a : Int) + (k : Int)) = (I : Int) := by rw [hIm]; exact IntWalk.i64_in _ (by omega)
      have hJm : (b : Int) + (k : Int) = (J : Int) := by omega
      have hJw : IntKind.i64.wrap ((b : Int) + (k : Int)) = (J : Int) := by rw [hJm]; exact IntWalk.i64_in _ (by omega)
      have hIq : I < q := by omega
      have hJq : J < q := by omega
      have HNE : Hid (I ≠ J) := Lib.hid (by omega)
      have HPN := Lib.hid (PermG.swA hp2.out hIq hJq)
      have HCJ : Hid (∀ w', St W w' LY → (w'.cell? ⟨g, I * 6, none⟩ = some (.string (Y2 I).dev) ∧ w'.cell? ⟨g, I * 6 + 1, none⟩ = some (.int .i64 (Y2 I).num) ∧ w'.cell? ⟨g, I * 6 + 2, none⟩ = some (.string (Y2 I).plr) ∧ w'.cell? ⟨g, I * 6 + 3, none⟩ = some (.int .i64 (Y2 I).hole) ∧ w'.cell? ⟨g, I * 6 + 4, none⟩ = some (.int .i64 (Y2 I).s) ∧ w'.cell? ⟨g, I * 6 + 5, none⟩ = some (.string (Y2 I).m)) ∧ ∀ k, w'.frozen? ⟨g, k, none⟩ = false) := Lib.hid (fun w' h => by
        rw [HLY.out] at h
        exact row_pcM h (HIX.out Y2) hIq)
      have HCK : Hid (∀ w', St W w' LY → (w'.cell? ⟨g, J * 6, none⟩ = some (.string (Y2 J).dev) ∧ w'.cell? ⟨g, J * 6 + 1, none⟩ = some (.int .i64 (Y2 J).num) ∧ w'.cell? ⟨g, J * 6 + 2, none⟩ = some (.string (Y2 J).plr) ∧ w'.cell? ⟨g, J * 6 + 3, none⟩ = some (.int .i64 (Y2 J).hole) ∧ w'.cell? ⟨g, J * 6 + 4, none⟩ = some (.int .i64 (Y2 J).s) ∧ w'.cell? ⟨g, J * 6 + 5, none⟩ = some (.string (Y2 J).m)) ∧ ∀ k, w'.frozen? ⟨g, k, none⟩ = false) := Lib.hid (fun w' h => by
        rw [HLY.out] at h
        exact row_pcM h (HIX.out Y2) hJq)
      have HST : Hid (∀ w', St W w' LY → St W ((((((((((((w'.setCell ⟨g, I * 6, none⟩ (.string (Y2 J).dev)).setCell ⟨g, I * 6 + 1, none⟩ (.int .i64 (Y2 J).num)).setCell ⟨g, I * 6 + 2, none⟩ (.string (Y2 J).plr)).setCell ⟨g, I * 6 + 3, none⟩ (.int .i64 (Y2 J).hole)).setCell ⟨g, I * 6 + 4, none⟩ (.int .i64 (Y2 J).s)).setCell ⟨g, I * 6 + 5, none⟩ (.string (Y2 J).m)).setCell ⟨g, J * 6, none⟩ (.string (Y2 I).dev)).setCell ⟨g, J * 6 + 1, none⟩ (.int .i64 (Y2 I).num)).setCell ⟨g, J * 6 + 2, none⟩ (.string (Y2 I).plr)).setCell ⟨g, J * 6 + 3, none⟩ (.int .i64 (Y2 I).hole)).setCell ⟨g, J * 6 + 4, none⟩ (.int .i64 (Y2 I).s)).setCell ⟨g, J * 6 + 5, none⟩ (.string (Y2 I).m)) (L.set k0 (row 69 6 (.slice (some ⟨g, 0, none⟩) q c) q (pcM (swA Y2 I J) q)))) := Lib.hid (fun w' h => by
        rw [HLY.out] at h
        have h1 := row_pcMset h (HIX.out Y2) hIq (Y2 J)
        rw [HSS.out] at h1
        have h2 := row_pcMset h1 (HIX.out _) hJq (Y2 I)
        rw [HSS.out, upM_swA Y2 HNE.out] at h2
        exact h2)
      obtain ⟨Y3, hY3⟩ : ∃ Y3, Y3 = swA Y2 I J := ⟨_, rfl⟩
      rw [← hY3] at HST HPN
      clear hI hJ hY3
      generalize hya : Y2 I = ya at *
      generalize hyb : Y2 J = yb at *
      clear hya hyb
      obtain ⟨a0, a1, a2, a3, a4, a5⟩ := ya
      obtain ⟨b0, b1, b2, b3, b4, b5⟩ := yb
      simp only at HCJ HCK HST
      go_wp2_with fail
      refine wp_pre_tail 8 21 (fun w' => ∃ n, w' = wr.drewN n) (by kernel_rfl) (by kernel_rfl) ⟨1, rfl⟩ ?_
      simp only [List.take_succ_cons, List.take_zero, List.drop_succ_cons, List.drop_zero, Nat.reduceSub]
      generalize hK : (fun w' => ∃ n, w' = wr.drewN n) = K
      intro hne
      have kS : ∀ y : Wd K, St W y.w LY := by subst hK; exact fun y => by obtain ⟨n, e⟩ := y.h; rw [e]; exact HS2.out.drewN n
      have y0 : ∀ y : Wd K, y.w.cell? ⟨g, I * 6, none⟩ = some (.string a0) := fun y => (HCJ.out _ (kS y)).1.1
      have y1 : ∀ y : Wd K, y.w.cell? ⟨g, I * 6 + 1, none⟩ = some (.int .i64 a1) := fun y => (HCJ.out _ (kS y)).1.2.1
      have y2 : ∀ y : Wd K, y.w.cell? ⟨g, I * 6 + 2, none⟩ = some (.string a2) := fun y => (HCJ.out _ (kS y)).1.2.2.1
      have y3 : ∀ y : Wd K, y.w.cell? ⟨g, I * 6 + 3, none⟩ = some (.int .i64 a3) := fun y => (HCJ.out _ (kS y)).1.2.2.2.1
      have y4 : ∀ y : Wd K, y.w.cell? ⟨g, I * 6 + 4, none⟩ = some (.int .i64 a4) := fun y => (HCJ.out _ (kS y)).1.2.2.2.2.1
      have y5 : ∀ y : Wd K, y.w.cell? ⟨g, I * 6 + 5, none⟩ = some (.string a5) := fun y => (HCJ.out _ (kS y)).1.2.2.2.2.2
      have y6 : ∀ y : Wd K, y.w.cell? ⟨g, J * 6, none⟩ = some (.string b0) := fun y => (HCK.out _ (kS y)).1.1
      have y7 : ∀ y : Wd K, y.w.cell? ⟨g, J * 6 + 1, none⟩ = some (.int .i64 b1) := fun y => (HCK.out _ (kS y)).1.2.1
      have y8 : ∀ y : Wd K, y.w.cell? ⟨g, J * 6 + 2, none⟩ = some (.string b2) := fun y => (HCK.out _ (kS y)).1.2.2.1
      have y9 : ∀ y : Wd K, y.w.cell? ⟨g, J * 6 + 3, none⟩ = some (.int .i64 b3) := fun y => (HCK.out _ (kS y)).1.2.2.2.1
      have y10 : ∀ y : Wd K, y.w.cell? ⟨g, J * 6 + 4, none⟩ = some (.int .i64 b4) := fun y => (HCK.out _ (kS y)).1.2.2.2.2.1
      have y11 : ∀ y : Wd K, y.w.cell? ⟨g, J * 6 + 5, none⟩ = some (.string b5) := fun y => (HCK.out _ (kS y)).1.2.2.2.2.2
      have KS := Lib.hid kS
      clear hK kS
      change wpQuiet _ _ _ _ (_ :: _ :: _ :: _ :: _ :: _ :: _ :: _ :: []) _
      iterate 8 (go_big_quiet_step ((fail)))
      refine wpQuiet_nil ?_
      repeat (go_big_quiet_step ((fail)))
      refine wpQuiet_nil ?_
      intro y
      have hsy := KS.out y
      clear y0 y1 y2 y3 y4 y5 y6 y7 y8 y9 y10 y11 hne KS HS2
      generalize y.w = w4 at *
      obtain ⟨⟨c0, c1, c2, c3, c4, c5⟩, f0⟩ := HCJ.out _ hsy
      obtain ⟨⟨d0, d1, d2, d3, d4, d5⟩, _⟩ := HCK.out _ hsy
      have f00 := f0 (I * 6)
      have f01 := f0 (I * 6 + 1)
      have f02 := f0 (I * 6 + 2)
      have f03 := f0 (I * 6 + 3)
      have f04 := f0 (I * 6 + 4)
      have f05 := f0 (I * 6 + 5)
      have f10 := f0 (J * 6)
      have f11 := f0 (J * 6 + 1)
      have f12 := f0 (J * 6 + 2)
      have f13 := f0 (J * 6 + 3)
      have f14 := f0 (J * 6 + 4)
      have f15 := f0 (J * 6 + 5)
      have HSG := Lib.hid (HST.out _ hsy)
      have hne9 := HNE.out
      have n0_0 : I * 6 ≠ J * 6 := by omega
      have n0_1 : I * 6 ≠ J * 6 + 1 := by omega
      have n0_2 : I * 6 ≠ J * 6 + 2 := by omega
      have n0_3 : I * 6 ≠ J * 6 + 3 := by omega
      have n0_4 : I * 6 ≠ J * 6 + 4 := by omega
      have n0_5 : I * 6 ≠ J * 6 + 5 := by omega
      have n1_0 : I * 6 + 1 ≠ J * 6 := by omega
      have n1_1 : I * 6 + 1 ≠ J * 6 + 1 := by omega
      have n1_2 : I * 6 + 1 ≠ J * 6 + 2 := by omega
      have n1_3 : I * 6 + 1 ≠ J * 6 + 3 := by omega
      have n1_4 : I * 6 + 1 ≠ J * 6 + 4 := by omega
      have n1_5 : I * 6 + 1 ≠ J * 6 + 5 := by omega
      have n2_0 : I * 6 + 2 ≠ J * 6 := by omega
      have n2_1 : I * 6 + 2 ≠ J * 6 + 1 := by omega
      have n2_2 : I * 6 + 2 ≠ J * 6 + 2 := by omega
      have n2_3 : I * 6 + 2 ≠ J * 6 + 3 := by omega
      have n2_4 : I * 6 + 2 ≠ J * 6 + 4 := by omega
      have n2_5 : I * 6 + 2 ≠ J * 6 + 5 := by omega
      have n3_0 : I * 6 + 3 ≠ J * 6 := by omega
      have n3_1 : I * 6 + 3 ≠ J * 6 + 1 := by omega
      have n3_2 : I * 6 + 3 ≠ J * 6 + 2 := by omega
      have n3_3 : I * 6 + 3 ≠ J * 6 + 3 := by omega
      have n3_4 : I * 6 + 3 ≠ J * 6 + 4 := by omega
      have n3_5 : I * 6 + 3 ≠ J * 6 + 5 := by omega
      have n4_0 : I * 6 + 4 ≠ J * 6 := by omega
      have n4_1 : I * 6 + 4 ≠ J * 6 + 1 := by omega
      have n4_2 : I * 6 + 4 ≠ J * 6 + 2 := by omega
      have n4_3 : I * 6 + 4 ≠ J * 6 + 3 := by omega
      have n4_4 : I * 6 + 4 ≠ J * 6 + 4 := by omega
      have n4_5 : I * 6 + 4 ≠ J * 6 + 5 := by omega
      have n5_0 : I * 6 + 5 ≠ J * 6 := by omega
      have n5_1 : I * 6 + 5 ≠ J * 6 + 1 := by omega
      have n5_2 : I * 6 + 5 ≠ J * 6 + 2 := by omega
      have n5_3 : I * 6 + 5 ≠ J * 6 + 3 := by omega
      have n5_4 : I * 6 + 5 ≠ J * 6 + 4 := by omega
      have n5_5 : I * 6 + 5 ≠ J * 6 + 5 := by omega
      clear hsy f0 hne9
      go_wp2_with fail
      refine NoPanic.normal ?_
      go_wp2_with fail
      go_roundw
      case rel => exact ⟨k + 1, Y3, by omega, by go_num, HPN, HSG.out⟩
      case measure => simp [intOf]; omega
    · go_wp2_with fail
      go_end0
      exact ⟨rfl, Y2, hp2.out, HS2.out⟩
set_option maxRecDepth 100000 in
set_option maxHeartbeats 16000000 in
theorem rot_any (a m b : Nat) (W w : World) (L : List Asr) (k0 g c q : Nat) (Y : Nat → MsI) (hq : q ≤ 1000) (S : St W w L) (hL : L[k0]? = some (row 69 6 (.slice (some ⟨g, 0, none⟩) q c) q (pcM Y q))) (ham : a < m) (hmb : m < b) (hb : b ≤ q) :
    Calls Tryz.prog 120 #[.slice (some ⟨g, 0, none⟩) q c, .int .i64 a, .int .i64 m, .int .i64 b, .func (.func 38) #[] #[]] w fun e w' => e = .returned (.tuple #[]) ∧ ∃ Y', PermG Y Y' q ∧ St W w' (L.set k0 (row 69 6 (.slice (some ⟨g, 0, none⟩) q c) q (pcM Y' q))) := by
  have HIX := Lib.hid (ix_row L k0 g c q Y hL)
  have HSS : Hid (∀ A B : Asr, (L.set k0 A).set k0 B = L.set k0 B) := fun A B => List.set_set ..
  have S0 : St W w (L.set k0 (row 69 6 (.slice (some ⟨g, 0, none⟩) q c) q (pcM Y q))) := by rw [set_self L k0 _ hL]; exact S
  clear S hL
  have HSR : Hid (∀ (a' b' m' : Nat) w' Y', a' + m' ≤ q → b' + m' ≤ q → a' ≠ b' → PermG Y Y' q → St W w' (L.set k0 (row 69 6 (.slice (some ⟨g, 0, none⟩) q c) q (pcM Y' q))) → Calls Tryz.prog 127 #[.slice (some ⟨g, 0, none⟩) q c, .int .i64 a', .int .i64 b', .int .i64 m', .func (.func 38) #[] #[]] w' fun e w2 => e = .returned (.tuple #[]) ∧ ∃ Y2, PermG Y Y2 q ∧ St W w2 (L.set k0 (row 69 6 (.slice (some ⟨g, 0, none⟩) q c) q (pcM Y2 q)))) := Lib.hid (fun a' b' m' w' Y' h1 h2 h3 hp S' => by
    refine (swR_any a' b' m' W w' _ k0 g c q Y' hq S' (HIX.out Y') h1 h2 h3).mono ?_
    rintro e w2 ⟨he, Y2, hp2, S2⟩
    rw [HSS] at S2
    exact ⟨he, Y2, hp.trans hp2, S2⟩)
  clear HIX HSS
  go_enter Tryz.func120, Tryz.ntmps120
  go_wp2
  go_loopw [10, 11] (fun i j w' => ∃ (x y : Nat) (Y' : Nat → MsI), 1 ≤ x ∧ 1 ≤ y ∧ x ≤ m ∧ m + y ≤ q ∧ i = .int .i64 x ∧ j = .int .i64 y ∧ Hid (PermG Y Y' q) ∧ St W w' (L.set k0 (row 69 6 (.slice (some ⟨g, 0, none⟩) q c) q (pcM Y' q)))) (fun i j _ => (intOf i).toNat + (intOf j).toNat)
  case atStart => exact ⟨m - a, b - m, Y, by omega, by omega, by omega, by omega, by go_num, by go_num, PermG.refl Y q, S0⟩
  case round =>
    obtain ⟨x, y, Y2, hx1, hy1, hxm, hyq, rfl, rfl, hp2, S2⟩ := hrel
    clear S0
    have HS2 := Lib.hid S2
    clear S2
    obtain ⟨u, hu⟩ : ∃ u, u = m - x := ⟨_, rfl⟩
    have hum : (m : Int) - (x : Int) = (u : Int) := by omega
    have huw : IntKind.i64.wrap ((m : Int) - (x : Int)) = (u : Int) := by rw [hum]; exact IntWalk.i64_in _ (by omega)
    rcases Nat.lt_trichotomy x y with hlt | hlt | hlt
    · have t1 : ((x : Int) == (y : Int)) = false := by simp; omega
      have t1' : (x == y) = false := by simp; omega
      have t2 : decide ((y : Int) < (x : Int)) = false := by simp; omega
      have t2' : decide (y < x) = false := by simp; omega
      obtain ⟨z, hz⟩ : ∃ z, z = m + y - x := ⟨_, rfl⟩
      have hzm : (m : Int) + (y : Int) - (x : Int) = (z : Int) := by omega
      have hzw : IntKind.i64.wrap ((m : Int) + (y : Int) - (x : Int)) = (z : Int) := by rw [hzm]; exact IntWalk.i64_in _ (by omega)
      have HC := Lib.hid (HSR.out u z x _ Y2 (by omega) (by omega) (by omega) hp2.out HS2.out)
      clear HS2 HSR hu hz
      go_wp2_with (go_at_call 127; refine HC.out.mono ?_; rintro e w2 ⟨rfl, Y3, hp3, S3⟩; have HP3 := Lib.hid hp3; have HS3 := Lib.hid S3; clear hp3 S3)
      go_roundw
      case rel => exact ⟨x, y - x, Y3, hx1, by omega, hxm, by omega, rfl, by go_num, HP3, HS3.out⟩
      case measure => simp [intOf]; omega
    · subst hlt
      have t1 : ((x : Int) == (x : Int)) = true := by simp
      have HC := Lib.hid (HSR.out u m x _ Y2 (by omega) (by omega) (by omega) hp2.out HS2.out)
      clear HS2 HSR hu
      go_wp2_with (go_at_call 127; refine HC.out.mono ?_; rintro e w2 ⟨rfl, Y3, hp3, S3⟩; have HP3 := Lib.hid hp3; have HS3 := Lib.hid S3; clear hp3 S3)
      go_end0
      exact ⟨rfl, Y3, HP3.out, HS3.out⟩
    · have t1 : ((x : Int) == (y : Int)) = false := by simp; omega
      have t1' : (x == y) = false := by simp; omega
      have t2 : decide ((y : Int) < (x : Int)) = true := by simp; omega
      have t2' : decide (y < x) = true := by simp; omega
      have HC := Lib.hid (HSR.out u m y _ Y2 (by omega) (by omega) (by omega) hp2.out HS2.out)
      clear HS2 HSR hu
      go_wp2_with (go_at_call 127; refine HC.out.mono ?_; rintro e w2 ⟨rfl, Y3, hp3, S3⟩; have HP3 := Lib.hid hp3; have HS3 := Lib.hid S3; clear hp3 S3)
      go_roundw
      case rel => exact ⟨x - y, y, Y3, by omega, hy1, by omega, hyq, by go_num, rfl, HP3, HS3.out⟩
      case measure => simp [intOf]; omega
end Go.Proofs.YtnaafefcijgpkaaGreatDoor
/- The library's stable sort of messages, only that it permutes: symMerge. -/
namespace Go.Proofs.YtnaafefcijgpkaaGreatDoor
open Go.RowKit Go.Mem Go.Sheet Go.Adj
set_option maxRecDepth 100000 in
set_option maxHeartbeats 16000000 in
theorem sym2_any (a m b : Nat) (W w : World) (L : List Asr) (k0 g c q : Nat) (Y : Nat → MsI) (hq : q ≤ 1000) (S : St W w L) (hL : L[k0]? = some (row 69 6 (.slice (some ⟨g, 0, none⟩) q c) q (pcM Y q))) (ham : a < m) (ha1 : m ≠ a + 1) (hmb : b = m + 1) (hb : b ≤ q) : Calls Tryz.prog 101 #[.slice (some ⟨g, 0, none⟩) q c, .int .i64 a, .int .i64 m, .int .i64 b, .func (.func 38) #[] #[]] w fun e w' => e = .returned (.tuple #[]) ∧ ∃ Y', PermG Y Y' q ∧ St W w' (L.set k0 (row 69 6 (.slice (some ⟨g, 0, none⟩) q c) q (pcM Y' q))) := by
  have HIX := Lib.hid (ix_row L k0 g c q Y hL)
  have HSS : Hid (∀ A B : Asr, (L.set k0 A).set k0 B = L.set k0 B) := fun A B => List.set_set ..
  have S0 : St W w (L.set k0 (row 69 6 (.slice (some ⟨g, 0, none⟩) q c) q (pcM Y q))) := by rw [set_self L k0 _ hL]; exact S
  clear S hL
  obtain ⟨da, hda⟩ : ∃ d, d = m - a := ⟨_, rfl⟩
  have hma : (m : Int) - (a : Int) = (da : Int) := by omega
  have hmw : IntKind.i64.wrap ((m : Int) - (a : Int)) = (da : Int) := by rw [hma]; exact IntWalk.i64_in _ (by omega)
  have t1 : ((da : Int) == 1) = false := by simp; omega
  have t1' : (da == 1) = false := by simp; omega
  have hbm : (b : Int) - (m : Int) = 1 := by omega
  have hmq : m < q := by omega
  clear hda hmb ha1
  have hE := enters Tryz.func38 (by kernel_rfl) rfl
  unfold Enters at hE
  go_enter Tryz.func101, Tryz.ntmps101
  go_wp2_with fail
  go_loopw [14, 15] (fun i j w' => ∃ (x yy : Nat) (Y' : Nat → MsI), a ≤ x ∧ x ≤ yy ∧ yy ≤ m ∧ i = .int .i64 x ∧ j = .int .i64 yy ∧ Hid (PermG Y Y' q) ∧ St W w' (L.set k0 (row 69 6 (.slice (some ⟨g, 0, none⟩) q c) q (pcM Y' q)))) (fun i j _ => (intOf j).toNat - (intOf i).toNat)
  case atStart => exact ⟨a, m, Y, Nat.le_refl _, by omega, Nat.le_refl _, rfl, rfl, PermG.refl Y q, S0⟩
  case round =>
    clear S0
    obtain ⟨x, yy, Y2, hlx, hxy, hyh, rfl, rfl, hp2, S2⟩ := hrel
    have HS2 := Lib.hid S2
    clear S2
    by_cases hlt : x < yy
    · obtain ⟨h, hh⟩ : ∃ h, h = (x + yy) / 2 := ⟨_, rfl⟩
      have hhm : ((x : Int) + (yy : Int)) / 2 = (h : Int) := by omega
      have hx1 : x ≤ h := by omega
      have hy1 : h < yy := by omega
      clear hh
      have hIq := hmq
      have hJq : h < q := by omega
      obtain ⟨LY, hLY⟩ : ∃ LY, LY = L.set k0 (row 69 6 (.slice (some ⟨g, 0, none⟩) q c) q (pcM Y2 q)) := ⟨_, rfl⟩
      rw [← hLY] at HS2
      have HLY := Lib.hid hLY
      clear hLY
      have HCL := Lib.hid (fun w => cmpF_any (Y2 m) (Y2 h) w)
      have HCJ : Hid (∀ w', St W w' LY → (w'.cell? ⟨g, m * 6, none⟩ = some (.string (Y2 m).dev) ∧ w'.cell? ⟨g, m * 6 + 1, none⟩ = some (.int .i64 (Y2 m).num) ∧ w'.cell? ⟨g, m * 6 + 2, none⟩ = some (.string (Y2 m).plr) ∧ w'.cell? ⟨g, m * 6 + 3, none⟩ = some (.int .i64 (Y2 m).hole) ∧ w'.cell? ⟨g, m * 6 + 4, none⟩ = some (.int .i64 (Y2 m).s) ∧ w'.cell? ⟨g, m * 6 + 5, none⟩ = some (.string (Y2 m).m)) ∧ ∀ k, w'.frozen? ⟨g, k, none⟩ = false) := Lib.hid (fun w' h => by
        rw [HLY.out] at h
        exact row_pcM h (HIX.out Y2) hIq)
      have HCK : Hid (∀ w', St W w' LY → (w'.cell? ⟨g, h * 6, none⟩ = some (.string (Y2 h).dev) ∧ w'.cell? ⟨g, h * 6 + 1, none⟩ = some (.int .i64 (Y2 h).num) ∧ w'.cell? ⟨g, h * 6 + 2, none⟩ = some (.string (Y2 h).plr) ∧ w'.cell? ⟨g, h * 6 + 3, none⟩ = some (.int .i64 (Y2 h).hole) ∧ w'.cell? ⟨g, h * 6 + 4, none⟩ = some (.int .i64 (Y2 h).s) ∧ w'.cell? ⟨g, h * 6 + 5, none⟩ = some (.string (Y2 h).m)) ∧ ∀ k, w'.frozen? ⟨g, k, none⟩ = false) := Lib.hid (fun w' h => by
        rw [HLY.out] at h
        exact row_pcM h (HIX.out Y2) hJq)
      generalize cmpN (Y2 m).num (Y2 h).num = cv at *
      generalize hya : Y2 m = ya at *
      generalize hyb : Y2 h = yb at *
      clear hya hyb
      obtain ⟨a0, a1, a2, a3, a4, a5⟩ := ya
      obtain ⟨b0, b1, b2, b3, b4, b5⟩ := yb
      unfold MsI.val at HCL
      simp only at HCL HCJ HCK
      cases hlo2 : decide (cv < 0) with
      | true =>
        go_wp2_with fail
        refine wp_cls 10 (fun w' => St W w' LY) (by kernel_rfl) (by kernel_rfl) HS2.out.drew ?_
        simp only [List.take_succ_cons, List.take_zero, List.drop_succ_cons, List.drop_zero]
        generalize hK : (fun w' => St W w' LY) = K
        intro hne
        have kS : ∀ y : Wd K, St W y.w LY := by subst hK; exact fun y => y.h
        have hK3 : ∀ w w' : World, K w → Below w.heap.size w w' → K w' := by subst hK; exact fun w w' h h' => h.ext h'
        have HC3 : Hid (∀ y : Wd K, Calls Tryz.prog 38 #[.agg #[.string a0, .int .i64 a1, .string a2, .int .i64 a3, .int .i64 a4, .string a5], .agg #[.string b0, .int .i64 b1, .string b2, .int .i64 b3, .int .i64 b4, .string b5]] y.w fun e w2 => e = .returned (.int .i64 cv) ∧ ∃ z : Wd K, w2 = z.w) := fun y => cls_below hK3 (HCL.out _)
        have y0 : ∀ y : Wd K, y.w.cell? ⟨g, m * 6, none⟩ = some (.string a0) := fun y => (HCJ.out _ (kS y)).1.1
        have y1 : ∀ y : Wd K, y.w.cell? ⟨g, m * 6 + 1, none⟩ = some (.int .i64 a1) := fun y => (HCJ.out _ (kS y)).1.2.1
        have y2 : ∀ y : Wd K, y.w.cell? ⟨g, m * 6 + 2, none⟩ = some (.string a2) := fun y => (HCJ.out _ (kS y)).1.2.2.1
        have y3 : ∀ y : Wd K, y.w.cell? ⟨g, m * 6 + 3, none⟩ = some (.int .i64 a3) := fun y => (HCJ.out _ (kS y)).1.2.2.2.1
        have y4 : ∀ y : Wd K, y.w.cell? ⟨g, m * 6 + 4, none⟩ = some (.int .i64 a4) := fun y => (HCJ.out _ (kS y)).1.2.2.2.2.1
        have y5 : ∀ y : Wd K, y.w.cell? ⟨g, m * 6 + 5, none⟩ = some (.string a5) := fun y => (HCJ.out _ (kS y)).1.2.2.2.2.2
        have y6 : ∀ y : Wd K, y.w.cell? ⟨g, h * 6, none⟩ = some (.string b0) := fun y => (HCK.out _ (kS y)).1.1
        have y7 : ∀ y : Wd K, y.w.cell? ⟨g, h * 6 + 1, none⟩ = some (.int .i64 b1) := fun y => (HCK.out _ (kS y)).1.2.1
        have y8 : ∀ y : Wd K, y.w.cell? ⟨g, h * 6 + 2, none⟩ = some (.string b2) := fun y => (HCK.out _ (kS y)).1.2.2.1
        have y9 : ∀ y : Wd K, y.w.cell? ⟨g, h * 6 + 3, none⟩ = some (.int .i64 b3) := fun y => (HCK.out _ (kS y)).1.2.2.2.1
        have y10 : ∀ y : Wd K, y.w.cell? ⟨g, h * 6 + 4, none⟩ = some (.int .i64 b4) := fun y => (HCK.out _ (kS y)).1.2.2.2.2.1
        have y11 : ∀ y : Wd K, y.w.cell? ⟨g, h * 6 + 5, none⟩ = some (.string b5) := fun y => (HCK.out _ (kS y)).1.2.2.2.2.2
        have KS := Lib.hid kS
        clear hK kS
        go_big_quiet_step ((fail))
        go_big_quiet_step ((fail))
        go_big_quiet_step ((fail))
        go_big_quiet_step ((fail))
        go_big_quiet_step ((fail))
        go_big_quiet_step ((fail))
        go_big_quiet_step ((fail))
        go_big_quiet_step ((fail))
        go_big_quiet_step ((fail))
        go_big_quiet_step ((exact HC3.out _))
        refine wpQuiet_nil ?_
        intro y
        have HSY := Lib.hid (KS.out y)
        clear y0 y1 y2 y3 y4 y5 y6 y7 y8 y9 y10 y11 hK3 HC3 hne KS HS2
        generalize y.w = w3 at *
        have hsy := HSY.out
        rw [HLY.out] at hsy
        have HSF := Lib.hid hsy
        clear hsy HSY
        go_wp2_with fail
        go_roundw
        case rel => exact ⟨x, h, Y2, by omega, by omega, by omega, by go_num, by go_num, hp2, HSF.out⟩
        case measure => simp [intOf]; omega
      | false =>
        go_wp2_with fail
        refine wp_cls 10 (fun w' => St W w' LY) (by kernel_rfl) (by kernel_rfl) HS2.out.drew ?_
        simp only [List.take_succ_cons, List.take_zero, List.drop_succ_cons, List.drop_zero]
        generalize hK : (fun w' => St W w' LY) = K
        intro hne
        have kS : ∀ y : Wd K, St W y.w LY := by subst hK; exact fun y => y.h
        have hK3 : ∀ w w' : World, K w → Below w.heap.size w w' → K w' := by subst hK; exact fun w w' h h' => h.ext h'
        have HC3 : Hid (∀ y : Wd K, Calls Tryz.prog 38 #[.agg #[.string a0, .int .i64 a1, .string a2, .int .i64 a3, .int .i64 a4, .string a5], .agg #[.string b0, .int .i64 b1, .string b2, .int .i64 b3, .int .i64 b4, .string b5]] y.w fun e w2 => e = .returned (.int .i64 cv) ∧ ∃ z : Wd K, w2 = z.w) := fun y => cls_below hK3 (HCL.out _)
        have y0 : ∀ y : Wd K, y.w.cell? ⟨g, m * 6, none⟩ = some (.string a0) := fun y => (HCJ.out _ (kS y)).1.1
        have y1 : ∀ y : Wd K, y.w.cell? ⟨g, m * 6 + 1, none⟩ = some (.int .i64 a1) := fun y => (HCJ.out _ (kS y)).1.2.1
        have y2 : ∀ y : Wd K, y.w.cell? ⟨g, m * 6 + 2, none⟩ = some (.string a2) := fun y => (HCJ.out _ (kS y)).1.2.2.1
        have y3 : ∀ y : Wd K, y.w.cell? ⟨g, m * 6 + 3, none⟩ = some (.int .i64 a3) := fun y => (HCJ.out _ (kS y)).1.2.2.2.1
        have y4 : ∀ y : Wd K, y.w.cell? ⟨g, m * 6 + 4, none⟩ = some (.int .i64 a4) := fun y => (HCJ.out _ (kS y)).1.2.2.2.2.1
        have y5 : ∀ y : Wd K, y.w.cell? ⟨g, m * 6 + 5, none⟩ = some (.string a5) := fun y => (HCJ.out _ (kS y)).1.2.2.2.2.2
        have y6 : ∀ y : Wd K, y.w.cell? ⟨g, h * 6, none⟩ = some (.string b0) := fun y => (HCK.out _ (kS y)).1.1
        have y7 : ∀ y : Wd K, y.w.cell? ⟨g, h * 6 + 1, none⟩ = some (.int .i64 b1) := fun y => (HCK.out _ (kS y)).1.2.1
        have y8 : ∀ y : Wd K, y.w.cell? ⟨g, h * 6 + 2, none⟩ = some (.string b2) := fun y => (HCK.out _ (kS y)).1.2.2.1
        have y9 : ∀ y : Wd K, y.w.cell? ⟨g, h * 6 + 3, none⟩ = some (.int .i64 b3) := fun y => (HCK.out _ (kS y)).1.2.2.2.1
        have y10 : ∀ y : Wd K, y.w.cell? ⟨g, h * 6 + 4, none⟩ = some (.int .i64 b4) := fun y => (HCK.out _ (kS y)).1.2.2.2.2.1
        have y11 : ∀ y : Wd K, y.w.cell? ⟨g, h * 6 + 5, none⟩ = some (.string b5) := fun y => (HCK.out _ (kS y)).1.2.2.2.2.2
        have KS := Lib.hid kS
        clear hK kS
        go_big_quiet_step ((fail))
        go_big_quiet_step ((fail))
        go_big_quiet_step ((fail))
        go_big_quiet_step ((fail))
        go_big_quiet_step ((fail))
        go_big_quiet_step ((fail))
        go_big_quiet_step ((fail))
        go_big_quiet_step ((fail))
        go_big_quiet_step ((fail))
        go_big_quiet_step ((exact HC3.out _))
        refine wpQuiet_nil ?_
        intro y
        have HSY := Lib.hid (KS.out y)
        clear y0 y1 y2 y3 y4 y5 y6 y7 y8 y9 y10 y11 hK3 HC3 hne KS HS2
        generalize y.w = w3 at *
        have hsy := HSY.out
        rw [HLY.out] at hsy
        have HSF := Lib.hid hsy
        clear hsy HSY
        go_wp2_with fail
        go_roundw
        case rel => exact ⟨h + 1, yy, Y2, by omega, by omega, by omega, by go_num, by go_num, hp2, HSF.out⟩
        case measure => simp [intOf]; omega
    · obtain rfl : x = yy := by omega
      clear hlt
      go_wp2_with fail
      go_loopw [17] (fun i w' => ∃ (k : Nat) (Y' : Nat → MsI), x ≤ k ∧ k ≤ m ∧ i = .int .i64 k ∧ Hid (PermG Y Y' q) ∧ St W w' (L.set k0 (row 69 6 (.slice (some ⟨g, 0, none⟩) q c) q (pcM Y' q)))) (fun i _ => (intOf i).toNat)
      case atStart => exact ⟨m, Y2, by omega, by omega, rfl, hp2, HS2.out⟩
      case round =>
        obtain ⟨k, Y2, hka, hkb, rfl, hp2, S2⟩ := hrel
        clear HS2
        have HS2 := Lib.hid S2
        clear S2
        by_cases hlt : x < k
        · 
          have t4 : decide ((x : Int) < (k : Int)) = true := by simp; omega
          have t4' : decide (x < k) = true := by simp; omega
          obtain ⟨kn, hkn⟩ : ∃ kn, kn = k - 1 := ⟨_, rfl⟩
          have hnm : (k : Int) - 1 = (kn : Int) := by omega
          have hnw : IntKind.i64.wrap ((k : Int) - 1) = (kn : Int) := by rw [hnm]; exact IntWalk.i64_in _ (by omega)
          have hIq : k < q := by omega
          have hJq : kn < q := by omega
          have HNE : Hid (k ≠ kn) := Lib.hid (by omega)
          have hkx : x ≤ kn := by omega
          have hkk : kn + 1 ≤ k := by omega
          have hkk2 : k ≤ kn + 1 := by omega
          clear hkn
          have HPN := Lib.hid (PermG.swA hp2.out hIq hJq)
          obtain ⟨LY, hLY⟩ : ∃ LY, LY = L.set k0 (row 69 6 (.slice (some ⟨g, 0, none⟩) q c) q (pcM Y2 q)) := ⟨_, rfl⟩
          rw [← hLY] at HS2
          have HLY := Lib.hid hLY
          clear hLY
          have HCJ : Hid (∀ w', St W w' LY → (w'.cell? ⟨g, k * 6, none⟩ = some (.string (Y2 k).dev) ∧ w'.cell? ⟨g, k * 6 + 1, none⟩ = some (.int .i64 (Y2 k).num) ∧ w'.cell? ⟨g, k * 6 + 2, none⟩ = some (.string (Y2 k).plr) ∧ w'.cell? ⟨g, k * 6 + 3, none⟩ = some (.int .i64 (Y2 k).hole) ∧ w'.cell? ⟨g, k * 6 + 4, none⟩ = some (.int .i64 (Y2 k).s) ∧ w'.cell? ⟨g, k * 6 + 5, none⟩ = some (.string (Y2 k).m)) ∧ ∀ k, w'.frozen? ⟨g, k, none⟩ = false) := Lib.hid (fun w' h => by
            rw [HLY.out] at h
            exact row_pcM h (HIX.out Y2) hIq)
          have HCK : Hid (∀ w', St W w' LY → (w'.cell? ⟨g, kn * 6, none⟩ = some (.string (Y2 kn).dev) ∧ w'.cell? ⟨g, kn * 6 + 1, none⟩ = some (.int .i64 (Y2 kn).num) ∧ w'.cell? ⟨g, kn * 6 + 2, none⟩ = some (.string (Y2 kn).plr) ∧ w'.cell? ⟨g, kn * 6 + 3, none⟩ = some (.int .i64 (Y2 kn).hole) ∧ w'.cell? ⟨g, kn * 6 + 4, none⟩ = some (.int .i64 (Y2 kn).s) ∧ w'.cell? ⟨g, kn * 6 + 5, none⟩ = some (.string (Y2 kn).m)) ∧ ∀ k, w'.frozen? ⟨g, k, none⟩ = false) := Lib.hid (fun w' h => by
            rw [HLY.out] at h
            exact row_pcM h (HIX.out Y2) hJq)
          have HST : Hid (∀ w', St W w' LY → St W ((((((((((((w'.setCell ⟨g, k * 6, none⟩ (.string (Y2 kn).dev)).setCell ⟨g, k * 6 + 1, none⟩ (.int .i64 (Y2 kn).num)).setCell ⟨g, k * 6 + 2, none⟩ (.string (Y2 kn).plr)).setCell ⟨g, k * 6 + 3, none⟩ (.int .i64 (Y2 kn).hole)).setCell ⟨g, k * 6 + 4, none⟩ (.int .i64 (Y2 kn).s)).setCell ⟨g, k * 6 + 5, none⟩ (.string (Y2 kn).m)).setCell ⟨g, kn * 6, none⟩ (.string (Y2 k).dev)).setCell ⟨g, kn * 6 + 1, none⟩ (.int .i64 (Y2 k).num)).setCell ⟨g, kn * 6 + 2, none⟩ (.string (Y2 k).plr)).setCell ⟨g, kn * 6 + 3, none⟩ (.int .i64 (Y2 k).hole)).setCell ⟨g, kn * 6 + 4, none⟩ (.int .i64 (Y2 k).s)).setCell ⟨g, kn * 6 + 5, none⟩ (.string (Y2 k).m)) (L.set k0 (row 69 6 (.slice (some ⟨g, 0, none⟩) q c) q (pcM (swA Y2 k kn) q)))) := Lib.hid (fun w' h => by
            rw [HLY.out] at h
            have h1 := row_pcMset h (HIX.out Y2) hIq (Y2 kn)
            rw [HSS.out] at h1
            have h2 := row_pcMset h1 (HIX.out _) hJq (Y2 k)
            rw [HSS.out, upM_swA Y2 HNE.out] at h2
            exact h2)
          obtain ⟨Y3, hY3⟩ : ∃ Y3, Y3 = swA Y2 k kn := ⟨_, rfl⟩
          rw [← hY3] at HST HPN
          clear hY3
          generalize hya : Y2 k = ya at *
          generalize hyb : Y2 kn = yb at *
          clear hya hyb
          obtain ⟨a0, a1, a2, a3, a4, a5⟩ := ya
          obtain ⟨b0, b1, b2, b3, b4, b5⟩ := yb
          simp only at HCJ HCK HST
          go_wp2_with fail
          refine wp_pre_tail 5 15 (fun w' => ∃ n, w' = wr.drewN n) (by kernel_rfl) (by kernel_rfl) ⟨1, rfl⟩ ?_
          simp only [List.take_succ_cons, List.take_zero, List.drop_succ_cons, List.drop_zero, Nat.reduceSub]
          generalize hK : (fun w' => ∃ n, w' = wr.drewN n) = K
          intro hne
          have kS : ∀ y : Wd K, St W y.w LY := by subst hK; exact fun y => by obtain ⟨n, e⟩ := y.h; rw [e]; exact HS2.out.drewN n
          have y0 : ∀ y : Wd K, y.w.cell? ⟨g, k * 6, none⟩ = some (.string a0) := fun y => (HCJ.out _ (kS y)).1.1
          have y1 : ∀ y : Wd K, y.w.cell? ⟨g, k * 6 + 1, none⟩ = some (.int .i64 a1) := fun y => (HCJ.out _ (kS y)).1.2.1
          have y2 : ∀ y : Wd K, y.w.cell? ⟨g, k * 6 + 2, none⟩ = some (.string a2) := fun y => (HCJ.out _ (kS y)).1.2.2.1
          have y3 : ∀ y : Wd K, y.w.cell? ⟨g, k * 6 + 3, none⟩ = some (.int .i64 a3) := fun y => (HCJ.out _ (kS y)).1.2.2.2.1
          have y4 : ∀ y : Wd K, y.w.cell? ⟨g, k * 6 + 4, none⟩ = some (.int .i64 a4) := fun y => (HCJ.out _ (kS y)).1.2.2.2.2.1
          have y5 : ∀ y : Wd K, y.w.cell? ⟨g, k * 6 + 5, none⟩ = some (.string a5) := fun y => (HCJ.out _ (kS y)).1.2.2.2.2.2
          have y6 : ∀ y : Wd K, y.w.cell? ⟨g, kn * 6, none⟩ = some (.string b0) := fun y => (HCK.out _ (kS y)).1.1
          have y7 : ∀ y : Wd K, y.w.cell? ⟨g, kn * 6 + 1, none⟩ = some (.int .i64 b1) := fun y => (HCK.out _ (kS y)).1.2.1
          have y8 : ∀ y : Wd K, y.w.cell? ⟨g, kn * 6 + 2, none⟩ = some (.string b2) := fun y => (HCK.out _ (kS y)).1.2.2.1
          have y9 : ∀ y : Wd K, y.w.cell? ⟨g, kn * 6 + 3, none⟩ = some (.int .i64 b3) := fun y => (HCK.out _ (kS y)).1.2.2.2.1
          have y10 : ∀ y : Wd K, y.w.cell? ⟨g, kn * 6 + 4, none⟩ = some (.int .i64 b4) := fun y => (HCK.out _ (kS y)).1.2.2.2.2.1
          have y11 : ∀ y : Wd K, y.w.cell? ⟨g, kn * 6 + 5, none⟩ = some (.string b5) := fun y => (HCK.out _ (kS y)).1.2.2.2.2.2
          have KS := Lib.hid kS
          clear hK kS
          change wpQuiet _ _ _ _ (_ :: _ :: _ :: _ :: _ :: []) _
          iterate 5 (go_big_quiet_step ((fail)))
          refine wpQuiet_nil ?_
          repeat (go_big_quiet_step ((fail)))
          refine wpQuiet_nil ?_
          intro y
          have hsy := KS.out y
          clear y0 y1 y2 y3 y4 y5 y6 y7 y8 y9 y10 y11 hne KS HS2
          generalize y.w = w4 at *
          obtain ⟨⟨c0, c1, c2, c3, c4, c5⟩, f0⟩ := HCJ.out _ hsy
          obtain ⟨⟨d0, d1, d2, d3, d4, d5⟩, _⟩ := HCK.out _ hsy
          have f00 := f0 (k * 6)
          have f01 := f0 (k * 6 + 1)
          have f02 := f0 (k * 6 + 2)
          have f03 := f0 (k * 6 + 3)
          have f04 := f0 (k * 6 + 4)
          have f05 := f0 (k * 6 + 5)
          have f10 := f0 (kn * 6)
          have f11 := f0 (kn * 6 + 1)
          have f12 := f0 (kn * 6 + 2)
          have f13 := f0 (kn * 6 + 3)
          have f14 := f0 (kn * 6 + 4)
          have f15 := f0 (kn * 6 + 5)
          have HSG := Lib.hid (HST.out _ hsy)
          have hne9 := HNE.out
          have n0_0 : k * 6 ≠ kn * 6 := by omega
          have n0_1 : k * 6 ≠ kn * 6 + 1 := by omega
          have n0_2 : k * 6 ≠ kn * 6 + 2 := by omega
          have n0_3 : k * 6 ≠ kn * 6 + 3 := by omega
          have n0_4 : k * 6 ≠ kn * 6 + 4 := by omega
          have n0_5 : k * 6 ≠ kn * 6 + 5 := by omega
          have n1_0 : k * 6 + 1 ≠ kn * 6 := by omega
          have n1_1 : k * 6 + 1 ≠ kn * 6 + 1 := by omega
          have n1_2 : k * 6 + 1 ≠ kn * 6 + 2 := by omega
          have n1_3 : k * 6 + 1 ≠ kn * 6 + 3 := by omega
          have n1_4 : k * 6 + 1 ≠ kn * 6 + 4 := by omega
          have n1_5 : k * 6 + 1 ≠ kn * 6 + 5 := by omega
          have n2_0 : k * 6 + 2 ≠ kn * 6 := by omega
          have n2_1 : k * 6 + 2 ≠ kn * 6 + 1 := by omega
          have n2_2 : k * 6 + 2 ≠ kn * 6 + 2 := by omega
          have n2_3 : k * 6 + 2 ≠ kn * 6 + 3 := by omega
          have n2_4 : k * 6 + 2 ≠ kn * 6 + 4 := by omega
          have n2_5 : k * 6 + 2 ≠ kn * 6 + 5 := by omega
          have n3_0 : k * 6 + 3 ≠ kn * 6 := by omega
          have n3_1 : k * 6 + 3 ≠ kn * 6 + 1 := by omega
          have n3_2 : k * 6 + 3 ≠ kn * 6 + 2 := by omega
          have n3_3 : k * 6 + 3 ≠ kn * 6 + 3 := by omega
          have n3_4 : k * 6 + 3 ≠ kn * 6 + 4 := by omega
          have n3_5 : k * 6 + 3 ≠ kn * 6 + 5 := by omega
          have n4_0 : k * 6 + 4 ≠ kn * 6 := by omega
          have n4_1 : k * 6 + 4 ≠ kn * 6 + 1 := by omega
          have n4_2 : k * 6 + 4 ≠ kn * 6 + 2 := by omega
          have n4_3 : k * 6 + 4 ≠ kn * 6 + 3 := by omega
          have n4_4 : k * 6 + 4 ≠ kn * 6 + 4 := by omega
          have n4_5 : k * 6 + 4 ≠ kn * 6 + 5 := by omega
          have n5_0 : k * 6 + 5 ≠ kn * 6 := by omega
          have n5_1 : k * 6 + 5 ≠ kn * 6 + 1 := by omega
          have n5_2 : k * 6 + 5 ≠ kn * 6 + 2 := by omega
          have n5_3 : k * 6 + 5 ≠ kn * 6 + 3 := by omega
          have n5_4 : k * 6 + 5 ≠ kn * 6 + 4 := by omega
          have n5_5 : k * 6 + 5 ≠ kn * 6 + 5 := by omega
          clear hsy f0 hne9
          go_wp2_with fail
          refine NoPanic.normal ?_
          go_wp2_with fail
          go_roundw
          case rel => exact ⟨kn, Y3, by omega, by omega, by go_num, HPN, HSG.out⟩
          case measure => simp [intOf]; omega
        · have t4 : decide ((x : Int) < (k : Int)) = false := by simp; omega
          have t4' : decide (x < k) = false := by simp; omega
          go_wp2_with fail
          refine bodyPost_ret (results_none rfl _ _ _) rfl ?_
          exact ⟨rfl, Y2, hp2.out, HS2.out⟩
end Go.Proofs.YtnaafefcijgpkaaGreatDoor
