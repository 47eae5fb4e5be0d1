/- Part 32 of the walks of the golf union's program: LM5. -/
import Derived.Test.YtkkkfjinflepmaaGreatDoorB11
import Derived.Test.YtkkkfjinflepmaaGreatDoorB31
set_option linter.unusedVariables false
set_option linter.unusedSimpArgs false
set_option linter.unusedSectionVars false
set_option linter.constructorNameAsVariable false
/- Chapter 5: Match. -/
namespace Go.Adj
open Go.RowKit Go.Mem
end Go.Adj
namespace Go.Proofs.YtkkkfjinflepmaaGreatDoor
open Go.RowKit Go.Mem Go.Sheet Go.Adj
theorem CEnv.good {w : World} {v ve : Value} {n : Nat} {hs : List HI} {es : List EI} {name : ByteArray} (h : CEnv w v ve n hs es name) : GoodC hs name n es := ⟨h.gh, h.nm, h.len, h.ge⟩
/-- two players, laid side by side -/
theorem rdPl_two {w : World} {v : Value} {n : Nat} {hs : List HI} {na nb : ByteArray} {A B : Option Addr} {ca cb : Nat} {ea eb : List EI} {xa xb : Int} {t : TypeId}
    (ha : CEnv w v (.slice A n ca) n hs ea na) (hb : CEnv w v (.slice B n cb) n hs eb nb) :
    RdPl (w.alloc (.cells #[.string na, .slice A n ca, .int .i64 xa, .string nb, .slice B n cb, .int .i64 xb] t)) (· < (w.alloc (.cells #[.string na, .slice A n ca, .int .i64 xa, .string nb, .slice B n cb, .int .i64 xb] t)).heap.size) (.slice (some ⟨w.heap.size, 0, none⟩) 2 2) 2 [⟨na, A, n, ca, ea, xa⟩, ⟨nb, B, n, cb, eb, xb⟩] := by
  refine ⟨?_, fun p hp => ?_⟩
  · exact rd_new (m := 2) w #[.string na, .slice A n ca, .int .i64 xa, .string nb, .slice B n cb, .int .i64 xb] t rfl (by omega) _ (by simp)
  · have hbl : Below w.heap.size w (w.alloc (.cells #[.string na, .slice A n ca, .int .i64 xa, .string nb, .slice B n cb, .int .i64 xb] t)) := (Below.refl _ _).alloc (Nat.le_refl _) _
    simp only [List.mem_cons, List.not_mem_nil, or_false] at hp
    rcases hp with rfl | rfl
    · exact ⟨ha.re.later hbl, ha.sz⟩
    · exact ⟨hb.re.later hbl, hb.sz⟩
theorem goodPs_two {hs : List HI} {a b : PI} (ha : GoodP hs a) (hb : GoodP hs b) (hne : a.name ≠ b.name) : GoodPs hs [a, b] 2 := by
  refine ⟨fun i hi => ?_, fun i j hi hj => ?_⟩
  · match i, hi with
    | 0, _ => exact ha
    | 1, _ => exact hb
  · match i, j, hi, hj with
    | 1, 0, _, _ => exact hne
set_option maxRecDepth 100000 in
set_option maxHeartbeats 4000000 in
theorem formatMatch_ok (W : World) (v va vb : Value) (n : Nat) (hs : List HI) (ea eb : List EI) (na nb : ByteArray) (xa xb : Int) (hxa : -99 ≤ xa ∧ xa ≤ 99) (hxb : -99 ≤ xb ∧ xb ≤ 99) (hne : na ≠ nb)
    (ha : CEnv W v va n hs ea na) (hb : CEnv W v vb n hs eb nb) :
    Calls Tryz.prog 35 #[v, .agg #[.string na, va, .int .i64 xa], .agg #[.string nb, vb, .int .i64 xb]] W fun e w' => ∃ v', e = .returned (.tuple #[v', .int .i64 0]) ∧
      St W w' [row 95 3 v' (matF (netF hs ea xa) (netF hs eb xb) n).length ((matF (netF hs ea xa) (netF hs eb xb) n).flatMap StI.cells)] := by
  have hn := ha.gh.len
  rw [← ha.len] at hn
  obtain ⟨A, c, rfl, _, _, _⟩ := ha.rh.open_
  obtain ⟨Aa, ca, rfl, _, _, _⟩ := ha.re.open_
  obtain ⟨Ab, cb, rfl, _, _, _⟩ := hb.re.open_
  have HNA : Hid (∀ w, Below W.heap.size W w → Calls Tryz.prog 85 #[.agg #[.string na, .slice Aa n ca, .int .i64 xa], .slice A n c] w fun e w' => ∃ v', e = .returned v' ∧ St w w' [row 143 2 v' n ((nl (netF hs ea xa) n).flatMap NI.cells)]) := fun w h => nets_ok w _ _ n hs ea na xa hxa (ha.later h)
  have HNB : Hid (∀ w, Below W.heap.size W w → Calls Tryz.prog 85 #[.agg #[.string nb, .slice Ab n cb, .int .i64 xb], .slice A n c] w fun e w' => ∃ v', e = .returned v' ∧ St w w' [row 143 2 v' n ((nl (netF hs eb xb) n).flatMap NI.cells)]) := fun w h => nets_ok w _ _ n hs eb nb xb hxb (hb.later h)
  have HCP : Hid (∀ w, Below W.heap.size W w → Calls Tryz.prog 83 #[.slice A n c, .slice (some ⟨w.heap.size, 0, none⟩) 2 2] (w.alloc (.cells #[.string na, .slice Aa n ca, .int .i64 xa, .string nb, .slice Ab n cb, .int .i64 xb] 37)) fun e w' => e = .returned (.int .i64 0) ∧ Below (w.alloc (.cells #[.string na, .slice Aa n ca, .int .i64 xa, .string nb, .slice Ab n cb, .int .i64 xb] 37)).heap.size (w.alloc (.cells #[.string na, .slice Aa n ca, .int .i64 xa, .string nb, .slice Ab n cb, .int .i64 xb] 37)) w') := fun w h => by
    have ha' := ha.later h
    have hb' := hb.later h
    exact checkPlayers_ok _ _ _ n 2 hs _ (ha'.rh.later ((Below.refl _ _).alloc (Nat.le_refl _) _)) (rdPl_two ha' hb') (goodPs_two ⟨ha.good, hxa⟩ ⟨hb.good, hxb⟩ hne) (by omega)
  have HMT := Lib.hid (fun w (P Q : Option Addr) (c d : Nat) => match_any w P Q n c d (netF hs ea xa) (netF hs eb xb) hn.2)
  generalize netF hs ea xa = NA at *
  generalize netF hs eb xb = NB at *
  clear ha hb
  have S0 := ((St.refl W).blk_new #[.string na, .slice Aa n ca, .int .i64 xa] 37).blk_new #[.string nb, .slice Ab n cb, .int .i64 xb] 37
  simp only [World.size_alloc, List.cons_append, List.nil_append] at S0
  have HS0 := Lib.hid S0
  have HC := HCP.out _ S0.bel
  simp only [World.size_alloc] at HC
  have HC := Lib.hid HC
  clear S0
  go_enter Tryz.func35, Tryz.ntmps35
  go_wp2_with fail
  refine HC.out.mono ?_
  rintro e w3 ⟨rfl, hb3⟩
  have S3 := (HS0.out.alloc (.cells #[.string na, .slice Aa n ca, .int .i64 xa, .string nb, .slice Ab n cb, .int .i64 xb] 37)).ext (by simpa using hb3)
  have d0 := S3.blk_cell (i := 0) rfl 0
  have d1 := S3.blk_cell (i := 0) rfl 1
  have d2 := S3.blk_cell (i := 0) rfl 2
  have e0 := S3.blk_cell (i := 1) rfl 0
  have e1 := S3.blk_cell (i := 1) rfl 1
  have e2 := S3.blk_cell (i := 1) rfl 2
  have l0 := World.block_lt_of_cell? _ _ d0
  have l1 := World.block_lt_of_cell? _ _ e0
  have HW3 := Lib.hid S3.bel
  clear hb3 S3 HS0 HC HCP
  go_wp2_with fail
  generalize W.heap.size = ga at d0 d1 d2 e0 e1 e2 l0 l1 ⊢
  refine wp_head_tail3 0 6 2 [] [0, 1, 3, 4] rfl (fun w' => Below w3.heap.size w3 w')
    (fun a a' w' => ∃ (Pa Pb : Option Addr) (xc xd : Nat), a' = (a.put (some 19) (.slice Pa n xc)).put (some 22) (.slice Pb n xd) ∧ Below w3.heap.size w3 w' ∧ Rd w' (· < w'.heap.size) 2 (.slice Pa n xc) n ((nl NA n).flatMap NI.cells) ∧ Rd w' (· < w'.heap.size) 2 (.slice Pb n xd) n ((nl NB n).flatMap NI.cells)) (by kernel_rfl) (by kernel_rfl) (Below.refl _ _).drew ?_
  simp only [pick, List.filterMap_cons, List.filterMap_nil, List.getElem?_toArray, List.getElem?_cons_succ, List.getElem?_cons_zero]
  generalize hK : (fun w' : World => Below w3.heap.size w3 w') = K
  have kK : ∀ y : Wd K, Below w3.heap.size w3 y.w := by subst hK; exact fun y => y.h
  have hne : Nonempty (Wd K) := ⟨⟨w3, by subst hK; exact Below.refl _ _⟩⟩
  have hKd : ∀ (w' : World), Below w3.heap.size w3 w' → K w' := by subst hK; exact fun _ h => h
  have k0 : ∀ y : Wd K, y.w.cell? ⟨ga, 0, none⟩ = some (.string na) := fun y => ((kK y).cell (p := ⟨ga, 0, none⟩) l0).trans d0
  have k1 : ∀ y : Wd K, y.w.cell? ⟨ga, 1, none⟩ = some (.slice Aa n ca) := fun y => ((kK y).cell (p := ⟨ga, 1, none⟩) l0).trans d1
  have k2 : ∀ y : Wd K, y.w.cell? ⟨ga, 2, none⟩ = some (.int .i64 xa) := fun y => ((kK y).cell (p := ⟨ga, 2, none⟩) l0).trans d2
  have k3 : ∀ y : Wd K, y.w.cell? ⟨ga + 1, 0, none⟩ = some (.string nb) := fun y => ((kK y).cell (p := ⟨ga + 1, 0, none⟩) l1).trans e0
  have k4 : ∀ y : Wd K, y.w.cell? ⟨ga + 1, 1, none⟩ = some (.slice Ab n cb) := fun y => ((kK y).cell (p := ⟨ga + 1, 1, none⟩) l1).trans e1
  have k5 : ∀ y : Wd K, y.w.cell? ⟨ga + 1, 2, none⟩ = some (.int .i64 xb) := fun y => ((kK y).cell (p := ⟨ga + 1, 2, none⟩) l1).trans e2
  clear hK kK d0 d1 d2 e0 e1 e2 l0 l1
  refine wpQuiet_nil ?_
  change wpQuiet _ _ _ _ (_ :: _ :: _ :: _ :: []) _
  repeat (go_big_quiet_step ((fail)))
  refine wpQuiet_nil ?_
  clear k0 k1 k2 k3 k4 k5
  have hbd : Below w3.heap.size w3 w3.drew := (Below.refl _ _).drew
  refine ⟨?_, ?_⟩
  · as_aux_lemma =>
    refine headW_all (rs := [2]) (by kernel_rfl) (by decide) (by decide) (List.forall_mem_cons.2 ⟨?_, List.forall_mem_nil _⟩)
    · as_aux_lemma =>
      refine wpOp_list (o := _) rfl ?_
      intro Q' hQ'
      go_wp2_with (go_at_call 85; refine (HNA.out _ (HW3.out.trans (hbd.mono HW3.out.size))).mono ?_; rintro e wk ⟨va, rfl, Sa⟩)
      have hbk := hbd.trans (Sa.bel.mono hbd.size)
      obtain ⟨Pa, xc, rfl, _, _, hra⟩ := (Sa.row_rd (i := 0) rfl).now.open_
      refine ⟨hKd _ hbk, ?_⟩
      refine headW_all (rs := [5]) (by kernel_rfl) (by decide) (by decide) (List.forall_mem_cons.2 ⟨?_, List.forall_mem_nil _⟩)
      refine wpOp_list (o := _) rfl ?_
      intro Q' hQ'
      go_wp2_with (go_at_call 85; refine (HNB.out _ (HW3.out.trans (hbk.mono HW3.out.size))).mono ?_; rintro e wl ⟨vb, rfl, Sb⟩)
      have hbl := hbk.trans (Sb.bel.mono hbk.size)
      obtain ⟨Pb, xd, rfl, _, _, hrb⟩ := (Sb.row_rd (i := 0) rfl).now.open_
      exact ⟨hKd _ hbl, by kernel_rfl, Pa, Pb, xc, xd, by first | rfl | kernel_rfl, hbl, hra.later Sb.bel, hrb⟩
  · as_aux_lemma =>
    rintro a' w' ⟨Pa, Pb, xc, xd, rfl, hb4, hra, hrb⟩
    have HM := Lib.hid (HMT.out w' Pa Pb xc xd hra hrb)
    have HW4 := Lib.hid (HW3.out.trans (hb4.mono HW3.out.size))
    clear hra hrb hb4 hne hKd hbd
    go_wp2_with (go_at_call 84; refine HM.out.mono ?_; rintro e wm ⟨vm, rfl, Sm⟩; have HSM := Lib.hid ((St.of_below HW4.out).call Sm); clear Sm)
    refine NoPanic.normal ?_
    go_wp2
    go_ret2
    exact ⟨vm, rfl, HSM.out⟩
end Go.Proofs.YtkkkfjinflepmaaGreatDoor
