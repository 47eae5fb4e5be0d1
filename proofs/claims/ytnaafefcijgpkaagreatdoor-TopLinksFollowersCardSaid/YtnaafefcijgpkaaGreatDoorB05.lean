/- Part 5 of the walks of the golf union's program: L7. -/
import Derived.Test.YtnaafefcijgpkaaGreatDoorB03
import Derived.Test.YtnaafefcijgpkaaGreatDoorB04
set_option linter.unusedVariables false
set_option linter.unusedSimpArgs false
set_option linter.unusedSectionVars false
set_option linter.constructorNameAsVariable false
/- Chapter 5: the program's checks of a card and of a player, where they are without an error. -/
namespace Go.Proofs.YtnaafefcijgpkaaGreatDoor
open Go.RowKit Go.Mem Go.Sheet Go.Adj
/-- holes and a card without an error -/
structure CEnv (w : World) (v ve : Value) (n : Nat) (hs : List HI) (es : List EI) (name : ByteArray) : Prop where
  rh : Rd w (· < w.heap.size) 2 v n (hs.flatMap HI.cells)
  re : Rd w (· < w.heap.size) 2 ve n (es.flatMap EI.cells)
  gh : GoodH hs
  nm : nameB name = true
  sz : name.size ≤ 9223372036854775807
  ge : ∀ i, i < n → GoodE (eAt es i)
theorem CEnv.later {w w' : World} {v ve : Value} {n : Nat} {hs : List HI} {es : List EI} {name : ByteArray} (h : CEnv w v ve n hs es name) (hb : Below w.heap.size w w') : CEnv w' v ve n hs es name :=
  ⟨h.rh.later hb, h.re.later hb, h.gh, h.nm, h.sz, h.ge⟩
theorem CEnv.len {w : World} {v ve : Value} {n : Nat} {hs : List HI} {es : List EI} {name : ByteArray} (h : CEnv w v ve n hs es name) : n = hs.length := h.rh.count (f := HI.cells) (size := 2) (fun _ => rfl) (by decide)
set_option maxRecDepth 100000 in
set_option maxHeartbeats 4000000 in
theorem checkCard_ok (W : World) (v ve : Value) (n : Nat) (hs : List HI) (es : List EI) (name : ByteArray) (h : CEnv W v ve n hs es name) :
    Calls Tryz.prog 84 #[v, .agg #[.string name, ve]] W fun e w' => e = .returned (.int .i64 0) ∧ Below W.heap.size W w' := by
  have HE := Lib.hid h
  have hn := h.rh.le
  obtain ⟨A, c, rfl, _, _, _⟩ := h.rh.open_
  obtain ⟨Ae, ce, rfl, _, _, _⟩ := h.re.open_
  clear h
  have hb := (Below.refl W.heap.size W).alloc (Nat.le_refl _) (.cells #[.string name, .slice Ae n ce] 47)
  have HB := Lib.hid hb
  have c0 : (W.alloc (.cells #[.string name, .slice Ae n ce] 47)).cell? ⟨W.heap.size, 0, none⟩ = some (.string name) := by simp
  have c1 : (W.alloc (.cells #[.string name, .slice Ae n ce] 47)).cell? ⟨W.heap.size, 1, none⟩ = some (.slice Ae n ce) := by simp
  have HE1 := Lib.hid (HE.out.later hb)
  clear hb HE
  go_enter Tryz.func84, Tryz.ntmps84
  go_wp2_with fail
  generalize W.alloc (.cells #[.string name, .slice Ae n ce] 47) = W1 at *
  generalize W.heap.size = gc at c0 c1 ⊢
  have tnn : ((n : Int) != (n : Int)) = false := by simp
  have hlt := World.block_lt_of_cell? _ _ c0
  refine wp_cls 17 (fun w' => Below W1.heap.size W1 w') (by kernel_rfl) (by kernel_rfl) (Below.refl _ _).drew ?_
  simp only [List.take_succ_cons, List.take_zero, List.drop_succ_cons, List.drop_zero]
  generalize hK : (fun w' => Below W1.heap.size W1 w') = K
  intro hne
  have kb : ∀ y : Wd K, Below W1.heap.size W1 y.w := by subst hK; exact fun y => y.h
  have hK3 : ∀ w w', K w → Below w.heap.size w w' → K w' := by subst hK; exact fun w w' h h' => h.trans (h'.mono h.size)
  have y0 : ∀ y : Wd K, y.w.cell? ⟨gc, 0, none⟩ = some (.string name) := fun y => ((kb y).cell (p := ⟨gc, 0, none⟩) hlt).trans c0
  have y1 : ∀ y : Wd K, y.w.cell? ⟨gc, 1, none⟩ = some (.slice Ae n ce) := fun y => ((kb y).cell (p := ⟨gc, 1, none⟩) hlt).trans c1
  have H1 : Hid (∀ y : Wd K, Calls Tryz.prog 80 #[.slice A n c] y.w fun e w' => e = .returned (.int .i64 0) ∧ Below y.w.heap.size y.w w') := fun y => checkHoles_ok y.w _ n hs (HE1.out.later (kb y)).rh HE1.out.gh
  have H2 : Hid (∀ y : Wd K, Calls Tryz.prog 66 #[.string name] y.w fun e w' => e = .returned (.bool true) ∧ Below y.w.heap.size y.w w') := fun y => by
    have := cardIsName_any name y.w HE1.out.sz
    rw [HE1.out.nm] at this
    exact this
  have H3 : Hid (∀ y : Wd K, Calls Tryz.prog 110 #[.slice Ae n ce] y.w fun e w' => e = .returned (.int .i64 0) ∧ Below y.w.heap.size y.w w') := fun y => checkEntries_ok y.w _ n es (HE1.out.later (kb y)).re HE1.out.ge
  have KB := Lib.hid kb
  clear hK c0 c1 kb
  iterate 1 (go_big_quiet_step ((fail)))
  go_big_quiet_step ((go_at_call 80; exact cls_below hK3 (H1.out _)))
  iterate 2 (go_big_quiet_step ((fail)))
  go_big_quiet_step ((go_at_call 66; exact cls_below hK3 (H2.out _)))
  iterate 1 (go_big_quiet_step ((fail)))
  go_big_quiet_step ((go_at_call 106; exact cls_same (cardNo _ _)))
  iterate 6 (go_big_quiet_step ((fail)))
  go_big_quiet_step ((go_at_call 106; exact cls_same (cardNo _ _)))
  iterate 2 (go_big_quiet_step ((fail)))
  go_big_quiet_step ((go_at_call 110; exact cls_below hK3 (H3.out _)))
  refine wpQuiet_nil ?_
  intro y
  have HY := Lib.hid (HB.out.trans ((KB.out y).mono HB.out.size))
  clear y0 y1 H1 H2 H3 hK3 hne KB tnn
  generalize y.w = wy at *
  have hba := HY.out.alloc HY.out.size (.cells #[.int .i64 0, .int .i64 0, .int .i64 0, .int .i64 0] 38)
  have HBA := Lib.hid hba
  clear hba
  go_wp2_with (go_at_call 105; refine (cardOk4 _ _ (by simp) (by simp) (by simp) (by simp) (by simp)).mono ?_; rintro e w' ⟨rfl, rfl⟩)
  go_ret
  exact ⟨rfl, HBA.out⟩
set_option maxRecDepth 100000 in
set_option maxHeartbeats 4000000 in
theorem checkPlayer_ok (W : World) (v ve : Value) (n : Nat) (hs : List HI) (es : List EI) (name : ByteArray) (co : Int) (hco : -99 ≤ co ∧ co ≤ 99) (h : CEnv W v ve n hs es name) :
    Calls Tryz.prog 61 #[v, .agg #[.string name, ve, .int .i64 co]] W fun e w' => e = .returned (.int .i64 0) ∧ Below W.heap.size W w' := by
  have HE := Lib.hid h
  have hn := h.rh.le
  obtain ⟨A, c, rfl, _, _, _⟩ := h.rh.open_
  obtain ⟨Ae, ce, rfl, _, _, _⟩ := h.re.open_
  clear h
  have hb := (Below.refl W.heap.size W).alloc (Nat.le_refl _) (.cells #[.string name, .slice Ae n ce, .int .i64 co] 54)
  have c0 : (W.alloc (.cells #[.string name, .slice Ae n ce, .int .i64 co] 54)).cell? ⟨W.heap.size, 0, none⟩ = some (.string name) := by simp
  have c1 : (W.alloc (.cells #[.string name, .slice Ae n ce, .int .i64 co] 54)).cell? ⟨W.heap.size, 1, none⟩ = some (.slice Ae n ce) := by simp
  have c2 : (W.alloc (.cells #[.string name, .slice Ae n ce, .int .i64 co] 54)).cell? ⟨W.heap.size, 2, none⟩ = some (.int .i64 co) := by simp
  have HE1 := Lib.hid (HE.out.later hb)
  have HB := Lib.hid hb
  clear hb HE
  go_enter Tryz.func61, Tryz.ntmps61
  go_wp2_with fail
  generalize W.alloc (.cells #[.string name, .slice Ae n ce, .int .i64 co] 54) = W0 at *
  generalize W.heap.size = gc at c0 c1 c2 ⊢
  have hlt := World.block_lt_of_cell? _ _ c0
  go_at_call 80
  refine (checkHoles_ok W0 _ n hs HE1.out.rh HE1.out.gh).mono ?_
  rintro e W1 ⟨rfl, hb1⟩
  have d0 := (hb1.cell (p := ⟨gc, 0, none⟩) hlt).trans c0
  have d1 := (hb1.cell (p := ⟨gc, 1, none⟩) hlt).trans c1
  have d2 := (hb1.cell (p := ⟨gc, 2, none⟩) hlt).trans c2
  have HE2 := Lib.hid (HE1.out.later hb1)
  have HB1 := Lib.hid (HB.out.trans (hb1.mono HB.out.size))
  clear c0 c1 c2 hb1 HE1 HB hlt
  have hlt := World.block_lt_of_cell? _ _ d0
  go_wp2_with fail
  refine wp_cls 8 (fun w' => Below W1.heap.size W1 w') (by kernel_rfl) (by kernel_rfl) (Below.refl _ _).drew ?_
  simp only [List.take_succ_cons, List.take_zero, List.drop_succ_cons, List.drop_zero]
  generalize hK : (fun w' => Below W1.heap.size W1 w') = K
  intro hne
  have kb : ∀ y : Wd K, Below W1.heap.size W1 y.w := by subst hK; exact fun y => y.h
  have hK3 : ∀ w w', K w → Below w.heap.size w w' → K w' := by subst hK; exact fun w w' h h' => h.trans (h'.mono h.size)
  have y0 : ∀ y : Wd K, y.w.cell? ⟨gc, 0, none⟩ = some (.string name) := fun y => ((kb y).cell (p := ⟨gc, 0, none⟩) hlt).trans d0
  have y1 : ∀ y : Wd K, y.w.cell? ⟨gc, 1, none⟩ = some (.slice Ae n ce) := fun y => ((kb y).cell (p := ⟨gc, 1, none⟩) hlt).trans d1
  have y2 : ∀ y : Wd K, y.w.cell? ⟨gc, 2, none⟩ = some (.int .i64 co) := fun y => ((kb y).cell (p := ⟨gc, 2, none⟩) hlt).trans d2
  have H1 : Hid (∀ y : Wd K, Calls Tryz.prog 84 #[.slice A n c, .agg #[.string name, .slice Ae n ce]] y.w fun e w' => e = .returned (.int .i64 0) ∧ Below y.w.heap.size y.w w') := fun y => checkCard_ok y.w _ _ n hs es name (HE2.out.later (kb y))
  have KB := Lib.hid kb
  clear hK d0 d1 d2 kb
  iterate 3 (go_big_quiet_step ((fail)))
  go_big_quiet_step ((go_at_call 84; exact cls_below hK3 (H1.out _)))
  iterate 2 (go_big_quiet_step ((fail)))
  go_big_quiet_step ((go_at_call 92; exact cls_same (outside_no _ _ hco)))
  go_big_quiet_step ((go_at_call 63; exact cls_same (formatNo _ _)))
  refine wpQuiet_nil ?_
  intro y
  have HY := Lib.hid (HB1.out.trans ((KB.out y).mono HB1.out.size))
  clear y0 y1 y2 H1 hK3 hne KB
  generalize y.w = wy at *
  have HBA := Lib.hid (HY.out.alloc HY.out.size (.cells #[.int .i64 0, .int .i64 0] 38))
  go_wp2_with (go_at_call 91; refine (formatOk2 _ _ (by simp) (by simp) (by simp)).mono ?_; rintro e w' ⟨rfl, rfl⟩)
  go_ret
  exact ⟨rfl, HBA.out⟩
end Go.Proofs.YtnaafefcijgpkaaGreatDoor
