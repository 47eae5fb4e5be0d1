/- Part 36 of the walks of the golf union's program: QV6, Args, Row0, QL3, Args2, Args3. -/
import Derived.Test.YtlffgdmljioaoaaGreatDoorD35
import Derived.Test.YtlffgdmljioaoaaGreatDoorD04
import Derived.Deep.Slices
import Derived.Deep.Strs
import Derived.ChangeMaps5
import Derived.ChangeSame
import Derived.WalkKit
import Derived.SizedLaws
import Derived.Test.YtlffgdmljioaoaaGreatDoorChecked
import Derived.Test.YtlffgdmljioaoaaGreatDoorRows
import Derived.ProofKit
import Derived.Lay
import Derived.Carry
import Derived.Test.YtlffgdmljioaoaaGreatDoorD31
import Derived.Test.YtlffgdmljioaoaaGreatDoorD20
import Derived.Lib.AppendIntMem
import Derived.LaidSub
import Derived.Test.YtlffgdmljioaoaaGreatDoorD09
set_option linter.unusedVariables false
set_option linter.unusedSimpArgs false
set_option linter.unusedSectionVars false
set_option linter.constructorNameAsVariable false
/- Walk of the reference's Add where a numerator has ten digits; AddOk, CmpOk. -/
namespace Go.Proofs.YtlffgdmljioaoaaGreatDoor
open Go.RowKit Go.Mem Go.Sheet
set_option maxRecDepth 100000 in
set_option maxHeartbeats 2000000 in
theorem radd_big (W : World) (P Q P' Q' : Int) (hP : P.natAbs ≤ 6000000000) (hQ : 1 ≤ Q ∧ Q ≤ 6) (hP' : P'.natAbs ≤ 6000000000) (hQ' : 1 ≤ Q' ∧ Q' ≤ 6) (hbig : ¬ (P.natAbs < 1000000000 ∧ P'.natAbs < 1000000000)) :
    Calls Tryz.prog 114 #[.string (tB (tPQ P Q)), .string (tB (tPQ P' Q'))] W fun e w' => e = .returned (.string (tB (txtL (P * Q' + P' * Q) (Q * Q')))) ∧ Below W.heap.size W w' := by
  have Q1 := Lib.hid (rquick_any W P Q (by omega) (by omega))
  have Q2 := Lib.hid (rquick_any W P' Q' (by omega) (by omega))
  have b1 := mul_bdQ (a := P) (b := Q') (A := 6000000000) (B := 6) (by omega) hQ' (by omega)
  have b2 := mul_bdQ (a := P') (b := Q) (A := 6000000000) (B := 6) (by omega) hQ (by omega)
  have b3 := mul_bdQ (a := Q) (b := Q') (A := 6) (B := 6) (by omega) hQ' (by omega)
  have b4 : 1 ≤ Q * Q' := Int.mul_pos (by omega) (by omega)
  have HPA1 := Lib.hid (fun w => rparts_any w P Q (by omega) (by omega))
  have HPA2 := Lib.hid (fun w => rparts_any w P' Q' (by omega) (by omega))
  have HT1 := Lib.hid (fun w v1 v2 h1 h2 => rtimes_any w v1 v2 P Q' (by omega) (by omega) h1 h2)
  have HT2 := Lib.hid (fun w v1 v2 h1 h2 => rtimes_any w v1 v2 P' Q (by omega) (by omega) h1 h2)
  have HT3 := Lib.hid (fun w v1 v2 h1 h2 => rtimes_any w v1 v2 Q Q' (by omega) (by omega) h1 h2)
  have HPL := Lib.hid (fun w v1 v2 h1 h2 => rplus_any w v1 v2 (P * Q') (P' * Q) (by omega) (by omega) h1 h2)
  have HFR := Lib.hid (fun w v1 v2 h1 h2 => rfraction_any w v1 v2 (P * Q' + P' * Q) (Q * Q') (by omega) (by omega) h1 h2)
  obtain ⟨o1, ho1⟩ : ∃ o1, o1 = decide (P.natAbs < 1000000000) := ⟨_, rfl⟩
  obtain ⟨o2, ho2⟩ : ∃ o2, o2 = decide (P'.natAbs < 1000000000) := ⟨_, rfl⟩
  have ho : (o1 && o2) = false := by
    rw [ho1, ho2]
    cases h : (decide (P.natAbs < 1000000000) && decide (P'.natAbs < 1000000000)) with
    | false => rfl
    | true =>
      simp only [Bool.and_eq_true, decide_eq_true_eq] at h
      exact absurd h hbig
  rw [← ho1] at Q1
  rw [← ho2] at Q2
  clear ho1 ho2 hP hP' hbig b1 b2 b3 b4 hQ hQ'
  generalize tPQ P Q = la at *
  generalize tPQ P' Q' = lb at *
  go_enter Tryz.func114, Tryz.ntmps114
  go_wp2_with fail
  refine Q1.out.mono ?_
  rintro e w' hq
  obtain ⟨x1, y1, rfl, rfl⟩ : ∃ x1 y1 : Int, e = .returned (.tuple #[.int .i64 x1, .int .i64 y1, .bool o1]) ∧ W = w' := by
    obtain ⟨h1, h2⟩ := hq
    exact ⟨_, _, h1, h2⟩
  go_wp2_with fail
  refine Q2.out.mono ?_
  rintro e w' hq
  obtain ⟨x2, y2, rfl, rfl⟩ : ∃ x1 y1 : Int, e = .returned (.tuple #[.int .i64 x1, .int .i64 y1, .bool o2]) ∧ W = w' := by
    obtain ⟨h1, h2⟩ := hq
    exact ⟨_, _, h1, h2⟩
  clear Q1 Q2
  go_upto_region 3 with fail
  go_cut [30] from 27 to 30 (fun d wx => d = .bool false ∧ wx = W)
  case first =>
    cases o1 with
    | false =>
      go_wp2
      go_meet
      case rel => first
        | exact ⟨rfl, rfl⟩
        | (refine ⟨?_, rfl⟩; simp)
    | true =>
      obtain rfl : o2 = false := by simpa using ho
      go_wp2
      go_meet
      case rel => first
        | exact ⟨rfl, rfl⟩
        | (refine ⟨?_, rfl⟩; simp)
  case rest =>
    obtain ⟨rfl, rfl⟩ := hcut
    clear ho
    go_wp2_with fail
    refine (HPA1.out _).mono ?_
    rintro e w1 ⟨⟨v1, v2, rfl, h1, h2⟩, hb1⟩
    obtain ⟨p1, A1, n1, c1, rfl, _, _, _⟩ := h1.open_
    obtain ⟨p2, A2, n2, c2, rfl, _, _, _⟩ := h2.open_
    have HV1 := Lib.hid h1.big
    have HV2 := Lib.hid h2.big
    have S1 := ((St.of_below hb1).blk_new #[.bool p1, .slice A1 n1 c1] 112).blk_new #[.bool p2, .slice A2 n2 c2] 112
    simp only [List.nil_append, List.cons_append, World.size_alloc] at S1
    have HS1 := Lib.hid S1
    have HW1 := Lib.hid (((Below.refl w1.heap.size w1).alloc (Nat.le_refl _) (.cells #[.bool p1, .slice A1 n1 c1] 112)).alloc (by simp) (.cells #[.bool p2, .slice A2 n2 c2] 112))
    clear S1 h1 h2 hb1
    go_wp2_with fail
    refine (HPA2.out _).mono ?_
    rintro e w2 ⟨⟨v3, v4, rfl, h3, h4⟩, hb2⟩
    obtain ⟨p3, A3, n3, c3, rfl, _, _, _⟩ := h3.open_
    obtain ⟨p4, A4, n4, c4, rfl, _, _, _⟩ := h4.open_
    have HV3 := Lib.hid h3.big
    have HV4 := Lib.hid h4.big
    have S2 := ((HS1.out.ext hb2).blk_new #[.bool p3, .slice A3 n3 c3] 112).blk_new #[.bool p4, .slice A4 n4 c4] 112
    simp only [List.nil_append, List.cons_append, World.size_alloc] at S2
    have HS2 := Lib.hid S2
    have HW2 := Lib.hid (HW1.out.trans (hb2.mono HW1.out.size))
    have HW3 := Lib.hid (((Below.refl w2.heap.size w2).alloc (Nat.le_refl _) (.cells #[.bool p3, .slice A3 n3 c3] 112)).alloc (by simp) (.cells #[.bool p4, .slice A4 n4 c4] 112))
    clear S2 h3 h4 hb2 HS1 HPA1 HPA2
    go_wp2_with fail
    have HSD := Lib.hid HS2.out.drew
    have HBV1 := Lib.hid ((HV1.out.later HW2.out).later HW3.out.drew)
    have HBV2 := Lib.hid ((HV2.out.later HW2.out).later HW3.out.drew)
    have HBV3 := Lib.hid (HV3.out.later HW3.out.drew)
    have HBV4 := Lib.hid (HV4.out.later HW3.out.drew)
    refine wp_head_tail' 0 11 5 [] [0, 1, 3, 4, 7, 8] rfl (fun w' => w'.cell? ⟨w1.heap.size, 0, none⟩ = some (.bool p1) ∧ w'.cell? ⟨w1.heap.size, 1, none⟩ = some (.slice A1 n1 c1) ∧ w'.cell? ⟨w1.heap.size + 1, 0, none⟩ = some (.bool p2) ∧ w'.cell? ⟨w1.heap.size + 1, 1, none⟩ = some (.slice A2 n2 c2) ∧ w'.cell? ⟨w2.heap.size, 0, none⟩ = some (.bool p3) ∧ w'.cell? ⟨w2.heap.size, 1, none⟩ = some (.slice A3 n3 c3) ∧ w'.cell? ⟨w2.heap.size + 1, 0, none⟩ = some (.bool p4) ∧ w'.cell? ⟨w2.heap.size + 1, 1, none⟩ = some (.slice A4 n4 c4)) (by kernel_rfl) (by kernel_rfl) ⟨HSD.out.blk_cell (i := 0) rfl 0, HSD.out.blk_cell (i := 0) rfl 1, HSD.out.blk_cell (i := 1) rfl 0, HSD.out.blk_cell (i := 1) rfl 1, HSD.out.blk_cell (i := 2) rfl 0, HSD.out.blk_cell (i := 2) rfl 1, HSD.out.blk_cell (i := 3) rfl 0, HSD.out.blk_cell (i := 3) rfl 1⟩ ?_
    simp only [pick, List.filterMap_cons, List.filterMap_nil, List.getElem?_toArray, List.getElem?_cons_succ, List.getElem?_cons_zero]
    generalize hK : (fun w' : World => w'.cell? ⟨w1.heap.size, 0, none⟩ = some (.bool p1) ∧ w'.cell? ⟨w1.heap.size, 1, none⟩ = some (.slice A1 n1 c1) ∧ w'.cell? ⟨w1.heap.size + 1, 0, none⟩ = some (.bool p2) ∧ w'.cell? ⟨w1.heap.size + 1, 1, none⟩ = some (.slice A2 n2 c2) ∧ w'.cell? ⟨w2.heap.size, 0, none⟩ = some (.bool p3) ∧ w'.cell? ⟨w2.heap.size, 1, none⟩ = some (.slice A3 n3 c3) ∧ w'.cell? ⟨w2.heap.size + 1, 0, none⟩ = some (.bool p4) ∧ w'.cell? ⟨w2.heap.size + 1, 1, none⟩ = some (.slice A4 n4 c4)) = K
    have k0 : ∀ y' : Wd K, y'.w.cell? ⟨w1.heap.size, 0, none⟩ = some (.bool p1) := by subst hK; exact fun y => y.h.1
    have k1 : ∀ y' : Wd K, y'.w.cell? ⟨w1.heap.size, 1, none⟩ = some (.slice A1 n1 c1) := by subst hK; exact fun y => y.h.2.1
    have k2 : ∀ y' : Wd K, y'.w.cell? ⟨w1.heap.size + 1, 0, none⟩ = some (.bool p2) := by subst hK; exact fun y => y.h.2.2.1
    have k3 : ∀ y' : Wd K, y'.w.cell? ⟨w1.heap.size + 1, 1, none⟩ = some (.slice A2 n2 c2) := by subst hK; exact fun y => y.h.2.2.2.1
    have k4 : ∀ y' : Wd K, y'.w.cell? ⟨w2.heap.size, 0, none⟩ = some (.bool p3) := by subst hK; exact fun y => y.h.2.2.2.2.1
    have k5 : ∀ y' : Wd K, y'.w.cell? ⟨w2.heap.size, 1, none⟩ = some (.slice A3 n3 c3) := by subst hK; exact fun y => y.h.2.2.2.2.2.1
    have k6 : ∀ y' : Wd K, y'.w.cell? ⟨w2.heap.size + 1, 0, none⟩ = some (.bool p4) := by subst hK; exact fun y => y.h.2.2.2.2.2.2.1
    have k7 : ∀ y' : Wd K, y'.w.cell? ⟨w2.heap.size + 1, 1, none⟩ = some (.slice A4 n4 c4) := by subst hK; exact fun y => y.h.2.2.2.2.2.2.2
    have hK2 : ∀ (w' : World) (L : List Asr), St wc w' (blk (w1.heap.size) 112 #[.bool p1, .slice A1 n1 c1] :: blk (w1.heap.size + 1) 112 #[.bool p2, .slice A2 n2 c2] :: blk (w2.heap.size) 112 #[.bool p3, .slice A3 n3 c3] :: blk (w2.heap.size + 1) 112 #[.bool p4, .slice A4 n4 c4] :: L) → K w' := by
      subst hK
      exact fun w' L h => ⟨h.blk_cell (i := 0) rfl 0, h.blk_cell (i := 0) rfl 1, h.blk_cell (i := 1) rfl 0, h.blk_cell (i := 1) rfl 1, h.blk_cell (i := 2) rfl 0, h.blk_cell (i := 2) rfl 1, h.blk_cell (i := 3) rfl 0, h.blk_cell (i := 3) rfl 1⟩
    have hne : Nonempty (Wd K) := ⟨⟨_, hK2 _ _ HSD.out⟩⟩
    clear hK HS2 HV1 HV2 HV3 HV4 HW1 HW2 HW3
    generalize World.drew _ = wq at *
    have HX0 := Lib.hid (Below.refl wq.heap.size wq)
    refine wpQuiet_nil ?_
    change wpQuiet _ _ _ _ (_ :: _ :: _ :: _ :: _ :: _ :: []) _
    repeat (go_big_quiet_step ((fail)))
    refine wpQuiet_nil ?_
    clear k0 k1 k2 k3 k4 k5 k6 k7
    refine headW_all (rs := [2]) (by kernel_rfl) (by decide) (by decide) (List.forall_mem_cons.2 ⟨?_, List.forall_mem_nil _⟩)
    refine wpOp_list (o := _) rfl ?_
    intro Q' hQ'
    go_wp2_with fail
    refine (HT1.out _ _ _ HBV1.out HBV4.out).mono ?_
    rintro e z1 ⟨⟨t1, rfl, h9⟩, hb9⟩
    have HX1 := Lib.hid (HX0.out.trans (hb9.mono HX0.out.size))
    have HKE := Lib.hid (hK2 _ _ (HSD.out.ext HX1.out))
    have HU1 := Lib.hid h9.big
    clear h9 hb9
    go_wp2_with fail
    refine ⟨HKE.out, ?_⟩
    refine headW_all (rs := [5]) (by kernel_rfl) (by decide) (by decide) (List.forall_mem_cons.2 ⟨?_, List.forall_mem_nil _⟩)
    refine wpOp_list (o := _) rfl ?_
    intro Q' hQ'
    go_wp2_with fail
    refine (HT2.out _ _ _ (HBV3.out.later HX1.out) (HBV2.out.later HX1.out)).mono ?_
    rintro e z2 ⟨⟨t2, rfl, h9⟩, hb9⟩
    have HX2 := Lib.hid (HX1.out.trans (hb9.mono HX1.out.size))
    have HKE := Lib.hid (hK2 _ _ (HSD.out.ext HX2.out))
    have HU2 := Lib.hid h9.big
    have HU1x := Lib.hid (HU1.out.later hb9)
    clear h9 hb9
    go_wp2_with fail
    refine ⟨HKE.out, ?_⟩
    refine headW_all (rs := [6]) (by kernel_rfl) (by decide) (by decide) (List.forall_mem_cons.2 ⟨?_, List.forall_mem_nil _⟩)
    refine wpOp_list (o := _) rfl ?_
    intro Q' hQ'
    go_wp2_with fail
    refine (HPL.out _ _ _ HU1x.out HU2.out).mono ?_
    rintro e z3 ⟨⟨t3, rfl, h9⟩, hb9⟩
    have HX3 := Lib.hid (HX2.out.trans (hb9.mono HX2.out.size))
    have HKE := Lib.hid (hK2 _ _ (HSD.out.ext HX3.out))
    have HU3 := Lib.hid h9.big
    clear h9 hb9
    go_wp2_with fail
    refine ⟨HKE.out, ?_⟩
    refine headW_all (rs := [9]) (by kernel_rfl) (by decide) (by decide) (List.forall_mem_cons.2 ⟨?_, List.forall_mem_nil _⟩)
    refine wpOp_list (o := _) rfl ?_
    intro Q' hQ'
    go_wp2_with fail
    refine (HT3.out _ _ _ (HBV2.out.later HX3.out) (HBV4.out.later HX3.out)).mono ?_
    rintro e z4 ⟨⟨t4, rfl, h9⟩, hb9⟩
    have HX4 := Lib.hid (HX3.out.trans (hb9.mono HX3.out.size))
    have HKE := Lib.hid (hK2 _ _ (HSD.out.ext HX4.out))
    have HU4 := Lib.hid h9.big
    have HU3x := Lib.hid (HU3.out.later hb9)
    clear h9 hb9
    go_wp2_with fail
    refine ⟨HKE.out, ?_⟩
    refine headW_all (rs := [10]) (by kernel_rfl) (by decide) (by decide) (List.forall_mem_cons.2 ⟨?_, List.forall_mem_nil _⟩)
    refine wpOp_list (o := _) rfl ?_
    intro Q' hQ'
    go_wp2_with fail
    refine (HFR.out _ _ _ HU3x.out HU4.out).mono ?_
    rintro e z5 ⟨rfl, hb9⟩
    have HX5 := Lib.hid (HX4.out.trans (hb9.mono HX4.out.size))
    have HKE := Lib.hid (hK2 _ _ (HSD.out.ext HX5.out))
    have HFB := Lib.hid ((HSD.out.ext HX5.out).bel)
    clear hb9
    go_wp2_with fail
    refine ⟨HKE.out, by kernel_rfl, ?_⟩
    go_wp2_with fail
    refine NoPanic.normal ?_
    go_wp2
    go_ret
    exact ⟨rfl, HFB.out⟩
/-- AddOk -/
theorem add_ok : AddOk := by
  intro w P Q P' Q' hP hQ hc hP' hQ' hc'
  by_cases hs : P.natAbs < 1000000000 ∧ P'.natAbs < 1000000000
  · exact radd_quick w P Q P' Q' hs.1 hQ hs.2 hQ'
  · have b1 := mul_bdQ (a := P) (b := Q') (A := 6000000000) (B := 6) (by omega) hQ' (by omega)
    have b2 := mul_bdQ (a := P') (b := Q) (A := 6000000000) (B := 6) (by omega) hQ (by omega)
    have b3 := mul_bdQ (a := Q) (b := Q') (A := 6) (B := 6) (by omega) hQ' (by omega)
    have b4 : 1 ≤ Q * Q' := Int.mul_pos (by omega) (by omega)
    refine (radd_big w P Q P' Q' hP hQ hP' hQ' hs).mono ?_
    rintro e w' ⟨rfl, hb⟩
    exact ⟨⟨_, rfl, txt_len b4 (by omega), txt_sgn b4⟩, hb⟩
theorem cmp_okay : Hid CmpOk := Lib.hid (cmp_ok (Lib.hid add_ok))
end Go.Proofs.YtlffgdmljioaoaaGreatDoor
/- What a statement's arguments are: slices of slots, of requests, of integers, opened from the row's data. -/
namespace Go.Mem
open Go.RowKit Go.Deep Go.Sheet Go.ChangeShapes Go.WideShapes
section
variable {H : Type} {enc : TypeId × Value → H} {P : Program} {w : World} {base : Nat} {spare : Nat → Bool} {held : Bool}
theorem cell_spot {w : World} {a : Addr} {v : Value} (h : w.cell? a = some v) : a.spot = none := by
  unfold World.cell? at h
  split at h
  · cases hs : a.spot with
    | none => rfl
    | some x => rw [hs] at h; simp at h
  · cases h
theorem weights_all {e : TypeId} {u : Nat} {d : DataW H} : ∀ {l : List (DataW H)}, d ∈ l → u ∈ d.weights P e → u ∈ DataW.weightsAll P e l
  | [], h, _ => by cases h
  | x :: l, h, hu => by
    rw [DataW.weightsAll, List.mem_append]
    rcases List.mem_cons.1 h with rfl | h
    · exact .inl hu
    · exact .inr (weights_all h hu)
/-- a slice opened: what its elements are, by a function from data to cells -/
theorem rd_of_slice {α : Type} [Inhabited α] {f : α → List Value} {R : α → Prop} {size : Nat} (h0 : 0 < size) {t e : TypeId} {fuel : Nat} {v : Value} {x : DataW H × List MemPlace}
    (ht : P.underlying t = some (.slice e)) (hc : P.cellsOf e = size) (hs : ∀ z, (f z).length = size)
    (hf : ∀ n cs y, cs.length = size → DataW.trod enc P w base spare held n e cs = some y → (∀ u ∈ y.1.weights P e, u ≤ reachBytes) → ∃ z, cs = f z ∧ R z)
    (h : DataW.trod enc P w base spare held fuel t [v] = some x) (hw : ∀ u ∈ x.1.weights P t, u ≤ reachBytes) :
    ∃ (n : Nat) (l : List α), Rd w (· < w.heap.size) size v n (l.flatMap f) ∧ (∀ z ∈ l, R z) ∧ n * P.bytesOf e ≤ reachBytes := by
  rcases open_slice ht h with ⟨h1, _⟩ | ⟨a, len, cap, m, n, D, Pl, hv, hb, hl, hm, hmm, hxe, hx⟩
  · cases h1
    exact ⟨0, [], Rd.nil _ _ _, by simp, by rw [Nat.zero_mul]; exact Nat.zero_le _⟩
  · cases hv
    have hlm : len ≤ m := by rw [hmm]; split <;> omega
    subst hxe
    have hw2 : ∀ u, u ∈ DataW.weightsAll P e ((List.range len).map D) → u ≤ reachBytes := fun u hu => hw u (by
      simp only [DataW.weights, ht]
      rw [List.mem_cons, List.mem_append]
      exact .inr (.inl hu))
    have hw1 : len * P.bytesOf e ≤ reachBytes := by
      have := hw ((((List.range len).map D).length + ((List.range (m - len)).map fun j => D (len + j)).length) * P.bytesOf e) (by
        simp only [DataW.weights, ht]
        exact List.mem_cons_self ..)
      rw [List.length_map, List.length_map, List.length_range, List.length_range] at this
      exact Nat.le_trans (Nat.mul_le_mul_right _ (by omega)) this
    obtain ⟨Z, hZ⟩ := choose_lt (α := α) (n := len) (p := fun i z => R z ∧ ∀ j u, (f z)[j]? = some u → w.cell? (a.add (i * size + j)) = some u) (fun i hi => by
      obtain ⟨cs', h1, h2⟩ := hx i (by omega)
      rw [hc] at h1
      obtain ⟨_, hlen, hcell⟩ := World.cells?_some h1
      obtain ⟨z, rfl, hz⟩ := hf _ _ _ hlen h2 (fun u hu => hw2 u (weights_all (List.mem_map_of_mem (List.mem_range.2 hi)) hu))
      refine ⟨z, hz, fun j u hj => ?_⟩
      have hjl : j < size := by rw [← hs z]; exact (List.getElem?_eq_some_iff.1 hj).1
      rw [← add_of_add, hcell j hjl, hj])
    refine ⟨len, (List.range len).map Z, ⟨some a, cap, rfl, hl, hm, ?_, (fun h => by cases h), fun hn => ?_⟩, fun z hz => ?_, hw1⟩
    · rw [flatMap_len hs, List.length_map, List.length_range]
    · have hz0 : 0 < (f (Z 0)).length := by rw [hs]; exact h0
      have c0 := (hZ 0 hn).2 0 _ (List.getElem?_eq_getElem hz0)
      rw [Nat.zero_mul, Nat.add_zero] at c0
      have ha0 : a.add 0 = a := by unfold Addr.add; simp
      rw [ha0] at c0
      have hsp := cell_spot c0
      obtain ⟨b, o, sp⟩ := a
      simp only at hsp
      subst hsp
      refine ⟨b, o, rfl, ?_, World.block_lt_of_cell? w _ c0, fun j u hj => ?_⟩
      · exact World.block_lt_of_cell? w _ c0
      · have hjl := (List.getElem?_eq_some_iff.1 hj).1
        rw [flatMap_len hs, List.length_map, List.length_range] at hjl
        have hi : j / size < len := Nat.div_lt_of_lt_mul (by rw [Nat.mul_comm]; exact hjl)
        have hm2 : j % size < size := Nat.mod_lt _ h0
        have hzi : ((List.range len).map Z)[j / size]? = some (Z (j / size)) := by simp [List.getElem?_range hi]
        obtain ⟨u', hu'⟩ : ∃ u', (f (Z (j / size)))[j % size]? = some u' := ⟨_, List.getElem?_eq_getElem (by rw [hs]; exact hm2)⟩
        have h3 := flatMap_at (f := f) (s := size) (fun y _ => hs y) hzi hu'
        have hjj : j / size * size + j % size = j := by rw [Nat.mul_comm]; exact Nat.div_add_mod j size
        rw [hjj] at h3
        rw [hj] at h3
        cases h3
        have h4 := (hZ _ hi).2 _ _ hu'
        rw [hjj] at h4
        have : (⟨b, o, none⟩ : Addr).add j = ⟨b, o + j, none⟩ := by unfold Addr.add; split <;> simp_all
        rwa [this] at h4
    · obtain ⟨i, hi, rfl⟩ := List.mem_map.1 hz
      exact (hZ i (List.mem_range.1 hi)).1
instance : Inhabited Slot := ⟨⟨0, 0, 0⟩⟩
instance : Inhabited Wish := ⟨⟨0, 0⟩⟩
instance : Inhabited Req := ⟨⟨⟨#[]⟩, false, none, 0, 0, []⟩⟩
theorem rd_of_ints {t e : TypeId} {fuel : Nat} {v : Value} {x : DataW H × List MemPlace} (ht : P.underlying t = some (.slice e)) (he : P.underlying e = some (.int .i64)) (hc : P.cellsOf e = 1)
    (h : DataW.trod enc P w base spare held fuel t [v] = some x) (hw : ∀ u ∈ x.1.weights P t, u ≤ reachBytes) :
    ∃ n, ∃ l : List Int, Rd w (· < w.heap.size) 1 v n (l.map (Value.int .i64)) ∧ (∀ z ∈ l, (Lit.int .i64 z).wf = true) ∧ n * P.bytesOf e ≤ reachBytes := by
  obtain ⟨n, l, h1, h2, h3⟩ := rd_of_slice (α := Int) (f := fun z => [.int .i64 z]) (R := fun z => (Lit.int .i64 z).wf = true) (size := 1) (by omega) ht hc (fun _ => rfl) (fun n cs y _ hy _ => by
    obtain ⟨z, rfl, _, hz⟩ := DataW.trod_int he hy
    exact ⟨z, rfl, hz⟩) h hw
  refine ⟨n, l, ?_, h2, h3⟩
  have e : ∀ l : List Int, l.flatMap (fun z => [Value.int .i64 z]) = l.map (Value.int .i64) := by
    intro l
    induction l with
    | nil => rfl
    | cons a l ih => rw [List.flatMap_cons, ih]; rfl
  rwa [e] at h1
end
end Go.Mem
/- What the statements' rows have in common. -/
namespace Go.Proofs.YtlffgdmljioaoaaGreatDoor
open Go.RowKit Go.Mem Go.Sheet Go.ChangeShapes Go.WideShapes Go.ChangeAt
theorem own : ownKnob Tryz.prog.godebug = none := by kernel_rfl
theorem laidOut : laidOutB Tryz.prog = true := by kernel_rfl
def laidL : List (String × DataW Unit) := [("math/bits.deBruijn32tab", Rows.laid_math_bits_deBruijn32tab), ("math/bits.deBruijn64tab", Rows.laid_math_bits_deBruijn64tab), ("internal/strconv.uint64pow10", Rows.laid_internal_strconv_uint64pow10)]
section
variable {H : Type} {enc : TypeId × Value → H} {W : World}
set_option maxRecDepth 100000 in
/-- a slice's value is one cell -/
theorem slice_cells {t e : TypeId} {r : Reach} {base : Nat} (ht : Tryz.prog.underlying t = some (.slice e)) {v : Value} (h : Value.okWide Tryz.prog W r base t v) : v.cells.toList = [v] := by
  obtain ⟨a, n, c, rfl⟩ := okWide_slice ht h
  show (#[Value.slice a n c] : Array Value).toList = _
  simp only []
end
end Go.Proofs.YtlffgdmljioaoaaGreatDoor
/- SheetMeans over the row's table of powers of ten. -/
namespace Go.Proofs.YtlffgdmljioaoaaGreatDoor
open Go.RowKit Go.Mem Go.Sheet
theorem itoaAt_of {W : World} (hT : Lib.TabIs Tryz.prog W "internal/strconv.uint64pow10" .u64 Lib.pow10Tab) : ∀ w, Below W.heap.size W w → ∀ s, -1000000000000000 ≤ s → s ≤ 1000000000000000 → ItoaAt s (tB (Lib.itoa s)) w := by
  intro w hw s h1 h2 w2 hw2
  have hb := hw.trans (hw2.mono hw.size)
  refine (Tryz.strconv_Itoa s (by omega) (by omega) w2 (Lib.tabBelow_of_tabIs hT w2 hb)).mono ?_
  rintro e w3 ⟨he, k, os, rfl⟩
  exact ⟨he, Lib.below_grow _ _ (Nat.le_refl _) _ _⟩
theorem tab_of {W : World} (h : laidMetH Tryz.prog laidL W) : Lib.TabIs Tryz.prog W "internal/strconv.uint64pow10" .u64 Lib.pow10Tab := by
  rw [MakeChecks.laidMetH_plain _ _ _ (by kernel_rfl)] at h
  have h2 := h.filter (fun x => x.1 == "internal/strconv.uint64pow10")
  have e : laidL.filter (fun x => x.1 == "internal/strconv.uint64pow10") = [("internal/strconv.uint64pow10", Lib.tabData .u64 Lib.pow10Tab)] := by kernel_rfl
  rw [e] at h2
  exact Lib.tabIs_of_head (n := 20) (t := 249) (e := 199) (g := 2) (by kernel_rfl) (by kernel_rfl) (by kernel_rfl) (by kernel_rfl) (by kernel_rfl) (by kernel_rfl) h2
end Go.Proofs.YtlffgdmljioaoaaGreatDoor
/- A statement's arguments that are tables of integers or a pace, opened from the row's data. -/
namespace Go.Mem
open Go.RowKit Go.Deep Go.Sheet Go.ChangeShapes Go.WideShapes Go.Proofs.YtlffgdmljioaoaaGreatDoor
section
variable {H : Type} {enc : TypeId × Value → H} {P : Program} {w : World} {base : Nat} {spare : Nat → Bool} {held : Bool}
theorem rd_of_rows {t e q : TypeId} {fuel : Nat} {v : Value} {x : DataW H × List MemPlace} (ht : P.underlying t = some (.slice e)) (he : P.underlying e = some (.slice q)) (hq : P.underlying q = some (.int .i64)) (hce : P.cellsOf e = 1) (hcq : P.cellsOf q = 1)
    (h : DataW.trod enc P w base spare held fuel t [v] = some x) (hw : ∀ u ∈ x.1.weights P t, u ≤ reachBytes) :
    ∃ ms : List (List Int), RdRows w (· < w.heap.size) v ms ∧ (∀ r ∈ ms, ∀ z ∈ r, (Lit.int .i64 z).wf = true) ∧ ms.length * P.bytesOf e ≤ reachBytes ∧ ∀ r ∈ ms, r.length * P.bytesOf q ≤ reachBytes := by
  obtain ⟨n, l, h1, h2, h3⟩ := rd_of_slice (α := Value × List Int) (f := fun z => [z.1]) (R := fun z => Rd w (· < w.heap.size) 1 z.1 z.2.length (ints z.2) ∧ (∀ u ∈ z.2, (Lit.int .i64 u).wf = true) ∧ z.2.length * P.bytesOf q ≤ reachBytes) (size := 1) (by omega) ht hce (fun _ => rfl) (fun n cs y hl hy hwy => by
    match cs, hl with
    | [a], _ =>
      obtain ⟨m, r, g1, g2, g3⟩ := rd_of_ints he hq hcq hy hwy
      have hm : m = r.length := g1.count1
      subst hm
      exact ⟨(a, r), rfl, g1, g2, g3⟩) h hw
  have e1 : l.flatMap (fun z => [z.1]) = (l.map (·.1)).map id := by
    clear h1 h2
    induction l with
    | nil => rfl
    | cons a l ih => rw [List.flatMap_cons, ih]; rfl
  rw [e1] at h1
  have hn : n = l.length := by have := h1.len; simpa using this.symm
  subst hn
  refine ⟨l.map (·.2), ⟨l.map (·.1), by rw [List.length_map]; exact h1, fun i x r hx hr => ?_⟩, fun r hr => ?_, by rw [List.length_map]; exact h3, fun r hr => ?_⟩
  · rw [List.getElem?_map] at hx hr
    cases hl : l[i]? with
    | none => rw [hl] at hx; cases hx
    | some z =>
      rw [hl] at hx hr
      cases hx; cases hr
      exact (h2 z (List.mem_of_getElem? hl)).1
  · obtain ⟨z, hz, rfl⟩ := List.mem_map.1 hr
    exact (h2 z hz).2.1
  · obtain ⟨z, hz, rfl⟩ := List.mem_map.1 hr
    exact (h2 z hz).2.2
end
end Go.Mem
namespace Go.Proofs.YtlffgdmljioaoaaGreatDoor
open Go.RowKit Go.Mem Go.Sheet Go.ChangeShapes Go.WideShapes
section
variable {H : Type} {enc : TypeId × Value → H} {W : World}
set_option maxRecDepth 100000 in
theorem arg_rows {v : Value} {d : DataW H} {ps : List MemPlace} (h : DataW.Trod enc Tryz.prog W 0 (fun _ => true) true 22 v d ps) (hw : ∀ u ∈ d.weights Tryz.prog 22, u ≤ reachBytes) (hv : v.cells.toList = [v]) :
    ∃ ms : List (List Int), RdRows W (· < W.heap.size) v ms ∧ (∀ r ∈ ms, ∀ z ∈ r, (Lit.int .i64 z).wf = true) := by
  obtain ⟨f, hf⟩ := h
  rw [hv] at hf
  obtain ⟨ms, h1, h2, _, _⟩ := rd_of_rows Tryz.underlying22 Tryz.underlying23 Tryz.underlying3 (by kernel_rfl) (by kernel_rfl) hf hw
  exact ⟨ms, h1, h2⟩
end
end Go.Proofs.YtlffgdmljioaoaaGreatDoor
/- A statement's arguments that are small numbers, opened from the row's data. -/
namespace Go.Proofs.YtlffgdmljioaoaaGreatDoor
open Go.RowKit Go.Mem Go.Sheet Go.ChangeShapes Go.WideShapes
section
variable {H : Type} {enc : TypeId × Value → H} {W : World}
end
end Go.Proofs.YtlffgdmljioaoaaGreatDoor
