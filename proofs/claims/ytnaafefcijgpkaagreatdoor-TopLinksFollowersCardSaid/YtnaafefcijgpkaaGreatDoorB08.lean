/- Part 8 of the walks of the golf union's program: L12. -/
import Derived.Test.YtnaafefcijgpkaaGreatDoorB07
set_option linter.unusedVariables false
set_option linter.unusedSimpArgs false
set_option linter.unusedSectionVars false
set_option linter.constructorNameAsVariable false
/- Chapter 5: sums, gross and net scores. -/
namespace Go.Proofs.YtnaafefcijgpkaaGreatDoor
open Go.RowKit Go.Mem Go.Sheet Go.Adj
theorem net_elem {w : World} {S : Nat → Prop} {n : Nat} {l : List NI} {A : Option Addr} {m c k : Nat} (h : Rd w S 2 (.slice A m c) n (l.flatMap NI.cells)) (hk : k < n) :
    ∃ g o x, A = some ⟨g, o, none⟩ ∧ l[k]? = some x ∧ w.cell? ⟨g, o + k * 2, none⟩ = some (.int .i64 x.s) ∧ w.cell? ⟨g, o + k * 2 + 1, none⟩ = some (.string (mkN x.x)) :=
  h.elem2 (k := k) (fun s : NI => .int .i64 s.s) (fun s : NI => .string (mkN s.x)) (fun _ => rfl) hk
set_option maxRecDepth 100000 in
set_option maxHeartbeats 4000000 in
theorem sumN_ok (W : World) (v : Value) (n : Nat) (NF : Nat → NI) (h : Rd W (· < W.heap.size) 2 v n ((nl NF n).flatMap NI.cells)) (hn : n ≤ 36) (hb : ∀ i, i < n → -200 ≤ (NF i).s ∧ (NF i).s ≤ 200) :
    Calls Tryz.prog 27 #[v, .func (.func 28) #[] #[]] W fun e w' => e = .returned (.int .i64 (sumTo (fun i => (NF i).s) n)) ∧ Below W.heap.size W w' := by
  have HB := Lib.hid hb
  have H := Lib.hid h
  have HSB : Hid (∀ k, k ≤ n → -10000 ≤ sumTo (fun i => (NF i).s) k ∧ sumTo (fun i => (NF i).s) k ≤ 10000) := fun k hk => by
    have := sumTo_bd (f := fun i => (NF i).s) (a := -200) (b := 200) (n := k) (fun i hi => hb i (by omega))
    omega
  have HSS : Hid (∀ k, sumTo (fun i => (NF i).s) (k + 1) = sumTo (fun i => (NF i).s) k + (NF k).s) := fun _ => rfl
  have HS0 : Hid (sumTo (fun i => (NF i).s) 0 = 0) := rfl
  generalize hSF : sumTo (fun i => (NF i).s) = SF at *
  clear hSF
  obtain ⟨A, c, rfl, _, _, _⟩ := h.open_
  clear h hb
  go_enter Tryz.func27, Tryz.ntmps27
  go_wp2
  go_loopw [10, 5] (fun i v w' => ∃ k : Nat, k ≤ n ∧ i = .int .i64 k ∧ v = .int .i64 (SF k) ∧ Below W.heap.size W w') (fun i _ _ => n - (intOf i).toNat)
  case atStart => exact ⟨0, Nat.zero_le _, rfl, by rw [HS0.out], Below.refl _ _⟩
  case round =>
    obtain ⟨k, hk, rfl, rfl, hbw⟩ := hrel
    by_cases hlt : k < n
    · obtain ⟨b, o, x, rfl, hx, c0, c1⟩ := net_elem (H.out.below hbw) hlt
      have hxe : NF k = x := Option.some.inj ((nl_at NF hlt).symm.trans hx)
      have hxb := HB.out k hlt
      have hs1 := HSB.out k hk
      have hs2 := HSB.out (k + 1) (by omega)
      have hss := HSS.out k
      rw [hxe] at hxb hss
      rw [hss] at hs2
      obtain ⟨xs, xx⟩ := x
      simp only at c0 c1 hxb hss hs2
      generalize mkN xx = xm at *
      have HSK := Lib.hid hss
      generalize SF k = sk at *
      have HBW := Lib.hid (hbw.alloc hbw.size (.cells #[.int .i64 xs, .string xm] 99))
      clear hx hss hbw hxe
      go_wp2_with (go_at_call 28; refine (netStrokes_any _ _ _).mono ?_; rintro e w' ⟨rfl, hb2⟩; have HB2 := Lib.hid hb2; clear hb2)
      go_roundw
      case rel => exact ⟨k + 1, by omega, by go_num, by rw [HSK.out], HBW.out.trans (HB2.out.mono HBW.out.size)⟩
      case measure => simp [intOf]; omega
    · have HBW := Lib.hid hbw
      clear hbw
      obtain rfl : k = n := by omega
      go_wp2
      go_ret
      exact ⟨rfl, HBW.out⟩
set_option maxRecDepth 100000 in
set_option maxHeartbeats 4000000 in
theorem idxN_ok (W : World) (v : Value) (n : Nat) (NF : Nat → NI) (h : Rd W (· < W.heap.size) 2 v n ((nl NF n).flatMap NI.cells)) (hx : ∀ i, i < n → (NF i).x = .o) :
    Calls Tryz.prog 116 #[v, .func (.func 95) #[] #[]] W fun e w' => e = .returned (.int .i64 (-1)) ∧ Below W.heap.size W w' := by
  have HX := Lib.hid hx
  have H := Lib.hid h
  have hn := h.le
  obtain ⟨A, c, rfl, _, _, _⟩ := h.open_
  clear h hx
  go_enter Tryz.func116, Tryz.ntmps116
  go_wp2
  go_loopw [8] (fun i w' => ∃ k : Nat, k ≤ n ∧ i = .int .i64 k ∧ Below W.heap.size W w') (fun i _ => n - (intOf i).toNat)
  case atStart => exact ⟨0, Nat.zero_le _, rfl, Below.refl _ _⟩
  case round =>
    obtain ⟨k, hk, rfl, hbw⟩ := hrel
    by_cases hlt : k < n
    · obtain ⟨b, o, x, rfl, hx, c0, c1⟩ := net_elem (H.out.below hbw) hlt
      have hxe : NF k = x := Option.some.inj ((nl_at NF hlt).symm.trans hx)
      have hxx := HX.out k hlt
      rw [hxe] at hxx
      obtain ⟨xs, xx⟩ := x
      simp only at c0 c1 hxx
      subst hxx
      have HC : Hid (∀ w, Calls Tryz.prog 95 #[.agg #[.int .i64 xs, .string (mkN .o)]] w fun r w' => r = .returned (.bool false) ∧ Below w.heap.size w w') := fun w => all1_any xs .o w
      generalize mkN .o = xm at *
      have HBW := Lib.hid hbw
      clear hx hbw hxe
      go_wp2_with (go_at_call 95; refine (HC.out _).mono ?_; rintro e w' ⟨rfl, hb2⟩; have HB2 := Lib.hid hb2; clear hb2)
      go_roundw
      case rel => exact ⟨k + 1, by omega, by go_num, HBW.out.trans (HB2.out.mono HBW.out.size)⟩
      case measure => simp [intOf]; omega
    · have HBW := Lib.hid hbw
      clear hbw
      obtain rfl : k = n := by omega
      go_wp2
      go_ret
      exact ⟨rfl, HBW.out⟩
theorem all_ok (W : World) (v : Value) (n : Nat) (NF : Nat → NI) (h : Rd W (· < W.heap.size) 2 v n ((nl NF n).flatMap NI.cells)) (hx : ∀ i, i < n → (NF i).x = .o) :
    Calls Tryz.prog 64 #[v] W fun e w' => e = .returned (.bool true) ∧ Below W.heap.size W w' := by
  have HI := Lib.hid (idxN_ok W v n NF h hx)
  obtain ⟨A, c, rfl, _, _, _⟩ := h.open_
  clear h hx
  have HC : Hid (Calls Tryz.prog 94 #[.slice A n c, .func (.func 95) #[] #[]] W fun e w' => e = .returned (.bool false) ∧ Below W.heap.size W w') := by
    show Calls _ _ _ _ _
    go_enter Tryz.func94, Tryz.ntmps94
    go_wp2_with (go_at_call 116; refine HI.out.mono ?_; rintro e w' ⟨rfl, hb2⟩; have HB2 := Lib.hid hb2; clear hb2)
    go_ret
    exact ⟨rfl, HB2.out⟩
  go_enter Tryz.func64, Tryz.ntmps64
  go_wp2_with (go_at_call 94; refine HC.out.mono ?_; rintro e w' ⟨rfl, hb2⟩; have HB2 := Lib.hid hb2; clear hb2)
  go_ret
  exact ⟨rfl, HB2.out⟩
end Go.Proofs.YtnaafefcijgpkaaGreatDoor
