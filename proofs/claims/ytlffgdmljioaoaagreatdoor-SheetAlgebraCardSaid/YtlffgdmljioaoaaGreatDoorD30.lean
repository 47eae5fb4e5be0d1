/- Part 30 of the walks of the golf union's program: WS2. -/
import Derived.Test.YtlffgdmljioaoaaGreatDoorD29
import Derived.Outline
import Derived.RegionTactic
import Derived.ChangeAlike
set_option linter.unusedVariables false
set_option linter.unusedSimpArgs false
set_option linter.unusedSectionVars false
set_option linter.constructorNameAsVariable false
/- Walk of awake. -/
namespace Go.Proofs.YtlffgdmljioaoaaGreatDoor
open Go.RowKit Go.Mem Go.Sheet
def rs0 (g0 g1 g2 : Nat) : List Req := [⟨⟨#[97, 110, 110]⟩, false, some ⟨g0, 0, none⟩, 2, 2, ws0⟩, ⟨⟨#[98, 101, 110]⟩, false, some ⟨g1, 0, none⟩, 1, 1, ws1⟩, ⟨⟨#[99, 97, 116]⟩, true, some ⟨g2, 0, none⟩, 1, 1, ws2⟩]
theorem rs0_rq (g0 g1 g2 : Nat) : (rs0 g0 g1 g2).map Req.rq = rq0 := rfl
/-- the rows of slots and requests -/
@[reducible] def LA (gl g0 g1 g2 gr : Nat) : List Asr := [row 70 3 (.slice (some ⟨gl, 0, none⟩) 2 2) 2 (slots0.flatMap Slot.cells), row 122 2 (.slice (some ⟨g0, 0, none⟩) 2 2) 2 (ws0.flatMap Wish.cells), row 122 2 (.slice (some ⟨g1, 0, none⟩) 1 1) 1 (ws1.flatMap Wish.cells), row 122 2 (.slice (some ⟨g2, 0, none⟩) 1 1) 1 (ws2.flatMap Wish.cells),
  row 73 3 (.slice (some ⟨gr, 0, none⟩) 3 3) 3 (reqs0 (.slice (some ⟨g0, 0, none⟩) 2 2) (.slice (some ⟨g1, 0, none⟩) 1 1) (.slice (some ⟨g2, 0, none⟩) 1 1))]
theorem d12 : (Lib.decDigits 12).toArray = #[49, 50] := by decide +kernel
theorem itoa12 (w : World) : ItoaAt 12 ⟨#[49, 50]⟩ w := by
  have h := itoa_small w 12 (by omega)
  rw [d12] at h
  exact h
theorem awake_first : firstF slots0 rq0 = ([0, -1, 1], 0) := by decide +kernel
/-- the requests of the example, from the reads of their blocks -/
theorem rs0_rd {w : World} {S : Nat → Prop} {g0 g1 g2 gr : Nat} (h : Rd w S 3 (.slice (some ⟨gr, 0, none⟩) 3 3) 3 (reqs0 (.slice (some ⟨g0, 0, none⟩) 2 2) (.slice (some ⟨g1, 0, none⟩) 1 1) (.slice (some ⟨g2, 0, none⟩) 1 1)))
    (h0 : Rd w S 2 (.slice (some ⟨g0, 0, none⟩) 2 2) 2 (ws0.flatMap Wish.cells)) (h1 : Rd w S 2 (.slice (some ⟨g1, 0, none⟩) 1 1) 1 (ws1.flatMap Wish.cells)) (h2 : Rd w S 2 (.slice (some ⟨g2, 0, none⟩) 1 1) 1 (ws2.flatMap Wish.cells)) :
    RdReqs w (· < w.heap.size) (.slice (some ⟨gr, 0, none⟩) 3 3) 3 (rs0 g0 g1 g2) := by
  refine ⟨h.now, fun r hr => ?_⟩
  simp only [rs0, List.mem_cons, List.not_mem_nil, or_false] at hr
  rcases hr with rfl | rfl | rfl
  · exact ⟨h0.now, by show 3 ≤ 9223372036854775807; decide⟩
  · exact ⟨h1.now, by show 3 ≤ 9223372036854775807; decide⟩
  · exact ⟨h2.now, by show 3 ≤ 9223372036854775807; decide⟩
def rs1 (g0 g1 g2 : Nat) : List Req := [⟨⟨#[97, 110, 110]⟩, true, some ⟨g0, 2, none⟩, 1, 1, [⟨1, 3⟩]⟩, ⟨⟨#[98, 101, 110]⟩, false, some ⟨g1, 0, none⟩, 1, 1, ws1⟩, ⟨⟨#[99, 97, 116]⟩, true, some ⟨g2, 0, none⟩, 1, 1, ws2⟩]
theorem rs1_rq (g0 g1 g2 : Nat) : (rs1 g0 g1 g2).map Req.rq = rq1 := rfl
theorem lb_reqs {W w : World} {g0 g1 g2 gr : Nat} {L : List Asr} (S : St W w L) (i4 : L[4]? = some (row 73 3 (.slice (some ⟨gr, 0, none⟩) 3 3) 3 ((rs1 g0 g1 g2).flatMap Req.cells)))
    (i1 : L[1]? = some (row 122 2 (.slice (some ⟨g0, 0, none⟩) 2 2) 2 (ws0.flatMap Wish.cells))) (i2 : L[2]? = some (row 122 2 (.slice (some ⟨g1, 0, none⟩) 1 1) 1 (ws1.flatMap Wish.cells))) (i3 : L[3]? = some (row 122 2 (.slice (some ⟨g2, 0, none⟩) 1 1) 1 (ws2.flatMap Wish.cells))) : RdReqs w (· < w.heap.size) (.slice (some ⟨gr, 0, none⟩) 3 3) 3 (rs1 g0 g1 g2) := by
  refine ⟨(S.row_rd i4).now, fun r hr => ?_⟩
  simp only [rs1, List.mem_cons, List.not_mem_nil, or_false] at hr
  rcases hr with rfl | rfl | rfl
  · refine ⟨?_, by show 3 ≤ 9223372036854775807; decide⟩
    obtain ⟨g, c, hv, _, _, hl, hc, _⟩ := S.row_form i1 (by decide)
    cases hv
    show Rd w (· < w.heap.size) 2 (.slice (some ⟨g0, 2, none⟩) 1 1) 1 [.int .i64 1, .int .i64 3]
    have hnn : (some (⟨g0, 2, none⟩ : Addr)) = none → (1 : Nat) = 0 := by intro h; cases h
    refine ⟨some ⟨g0, 2, none⟩, 1, rfl, Nat.le_refl _, by unfold maxLen; omega, rfl, hnn, ?_⟩
    intro _
    refine ⟨g0, 2, rfl, hl, hl, fun j u hj => ?_⟩
    have h2 := hc (2 + j) (by
      have := (List.getElem?_eq_some_iff.1 hj).1
      have h3 : j < 2 := this
      omega)
    rw [h2, ← hj]
    rw [show (ws0.flatMap Wish.cells) = [.int .i64 0, .int .i64 5] ++ [.int .i64 1, .int .i64 3] from rfl, List.getElem?_append_right (by show 2 ≤ 2 + j; omega)]
    show _[2 + j - 2]? = _
    rw [Nat.add_sub_cancel_left]
  · exact ⟨(S.row_rd i2).now, by show 3 ≤ 9223372036854775807; decide⟩
  · exact ⟨(S.row_rd i3).now, by show 3 ≤ 9223372036854775807; decide⟩
set_option maxRecDepth 100000 in
set_option maxHeartbeats 0 in
theorem awake_any (W : World) : Calls Tryz.prog 5 #[] W fun e w' => e = .returned (.bool true) ∧ Below W.heap.size W w' := by
  go_enter Tryz.func5, Tryz.ntmps5
  go_wp2_with fail
  refine (slots_any _).mono ?_
  rintro e w1 ⟨gl, rfl, S1⟩
  go_wp2_with fail
  refine (requests_any _).mono ?_
  rintro e w2 ⟨gr, g0, g1, g2, rfl, S2⟩
  have SX := S1.call S2
  simp only [List.cons_append, List.nil_append] at SX
  have HS := Lib.hid SX
  clear S1 S2 SX
  go_wp2_with fail
  have h := starts_any w2 480 500 10 2
  rw [awake_starts] at h
  refine h.mono ?_
  clear h
  rintro e w3 ⟨v3, rfl, S3⟩
  have SX := HS.out.call S3
  simp only [List.cons_append, List.nil_append] at SX
  have HS3 := Lib.hid SX
  clear SX
  obtain ⟨g3, c3, rfl, -, -, -, hc3, -⟩ := S3.row_form (i := 0) rfl (by decide)
  clear S3 HS hc3
  go_wp2_with fail
  have h := daylight_any w3 _ 2 slots0 485 800 240 (HS3.out.row_rd (i := 0) rfl).now
  rw [awake_daylight] at h
  refine h.mono ?_
  clear h
  rintro e w4 ⟨v4, rfl, S4⟩
  obtain ⟨g4, c4, rfl, -, -, -, -, -⟩ := S4.row_form (i := 0) rfl (by decide)
  have SX := HS3.out.call S4
  simp only [List.cons_append, List.nil_append] at SX
  have HS4 := Lib.hid SX
  clear SX
  clear S4 HS3
  go_wp2_with fail
  have h := best_any w4 _ _ 2 3 slots0 (rs0 g0 g1 g2) (HS4.out.row_rd (i := 0) rfl).now (rs0_rd (HS4.out.row_rd (i := 4) rfl) (HS4.out.row_rd (i := 1) rfl) (HS4.out.row_rd (i := 2) rfl) (HS4.out.row_rd (i := 3) rfl))
  rw [rs0_rq, awake_best] at h
  refine h.mono ?_
  clear h
  rintro e w5 ⟨rfl, hb5⟩
  have HS5 := Lib.hid (HS4.out.ext hb5)
  clear hb5 HS4
  go_wp2_with fail
  have h := first_run w5 _ _ 2 3 slots0 (rs0 g0 g1 g2) (HS5.out.row_rd (i := 0) rfl).now (rs0_rd (HS5.out.row_rd (i := 4) rfl) (HS5.out.row_rd (i := 1) rfl) (HS5.out.row_rd (i := 2) rfl) (HS5.out.row_rd (i := 3) rfl))
  rw [rs0_rq, awake_first] at h
  refine h.mono ?_
  clear h
  rintro e w6 ⟨v6, rfl, S6⟩
  obtain ⟨g6, c6, rfl, -, -, -, -, -⟩ := S6.row_form (i := 0) rfl (by decide)
  have SX := HS5.out.call S6
  simp only [List.cons_append, List.nil_append] at SX
  have HS6 := Lib.hid SX
  clear SX
  clear S6 HS5
  go_wp2_with fail
  have h := most_any w6 _ _ 2 3 slots0 (rs0 g0 g1 g2) (HS6.out.row_rd (i := 0) rfl).now (rs0_rd (HS6.out.row_rd (i := 4) rfl) (HS6.out.row_rd (i := 1) rfl) (HS6.out.row_rd (i := 2) rfl) (HS6.out.row_rd (i := 3) rfl))
  rw [rs0_rq, awake_most] at h
  refine h.mono ?_
  clear h
  rintro e w7 ⟨rfl, hb7⟩
  have HS7 := Lib.hid (HS6.out.ext hb7)
  clear hb7 HS6
  go_wp2_with fail
  have S8 := HS7.out.row_new (e := 3) (size := 1) (n := 3) #[.int .i64 0, .int .i64 (-1), .int .i64 1] (by unfold maxLen; omega) rfl
  simp only [List.cons_append, List.nil_append] at S8
  have HS8 := Lib.hid S8
  have hr8 := (S8.row_rd (i := 8) rfl).now
  clear S8 HS7
  generalize w7.heap.size = g8 at *
  generalize (w7.alloc (.cells #[.int .i64 0, .int .i64 (-1), .int .i64 1] 3)) = w8 at *
  have h := withdraw_any w8 _ _ _ 2 3 3 0 slots0 (rs0 g0 g1 g2) [0, -1, 1] (HS8.out.row_rd (i := 0) rfl).now (rs0_rd (HS8.out.row_rd (i := 4) rfl) (HS8.out.row_rd (i := 1) rfl) (HS8.out.row_rd (i := 2) rfl) (HS8.out.row_rd (i := 3) rfl)) hr8
  rw [rs0_rq, awake_withdraw] at h
  clear hr8
  refine h.mono ?_
  clear h
  rintro e w9 ⟨v9, rfl, S9⟩
  obtain ⟨g9, c9, rfl, -, -, -, -, -⟩ := S9.row_form (i := 0) rfl (by decide)
  have SX := HS8.out.call S9
  simp only [List.cons_append, List.nil_append] at SX
  have HS9 := Lib.hid SX
  clear SX
  clear S9 HS8
  obtain ⟨g3', c3', hv, -, -, -, hc3, -⟩ := HS9.out.row_form (i := 5) rfl (by decide)
  cases hv
  have k6 := hc3 6 (by decide)
  have k7 := hc3 7 (by decide)
  have k8 := hc3 8 (by decide)
  simp only [List.flatMap_cons, List.flatMap_nil, Slot.cells, List.cons_append, List.nil_append, List.getElem?_cons_succ, List.getElem?_cons_zero] at k6 k7 k8
  clear hc3
  have T1 := HS9.out.row_new (e := 3) (size := 1) (n := 1) #[.int .i64 1] (by unfold maxLen; omega) rfl
  simp only [List.cons_append, List.nil_append] at T1
  have T2 := sameInts_any _ _ _ _ _ [1] [1] (T1.row_rd (i := 6) rfl) (T1.row_rd (i := 10) rfl)
  have HS10' := Lib.hid T1
  clear T1 HS9
  go_wp2_with fail
  refine T2.mono ?_
  clear T2
  rintro e w' ⟨rfl, q1, rfl⟩
  have HS10 := Lib.hid (HS10'.out.drewN q1)
  clear HS10'
  generalize (w9.alloc _).drewN q1 = w10 at *
  have T1 := HS10.out.row_new (e := 3) (size := 1) (n := 3) #[.int .i64 0, .int .i64 (-1), .int .i64 1] (by unfold maxLen; omega) rfl
  simp only [List.cons_append, List.nil_append] at T1
  have T2 := sameInts_any _ _ _ _ _ [0, -1, 1] [0, -1, 1] (T1.row_rd (i := 7) rfl) (T1.row_rd (i := 11) rfl)
  have HS11' := Lib.hid T1
  clear T1 HS10
  go_wp2_with fail
  refine T2.mono ?_
  clear T2
  rintro e w' ⟨rfl, q2, rfl⟩
  have HS11 := Lib.hid (HS11'.out.drewN q2)
  clear HS11'
  generalize (w10.alloc _).drewN q2 = w11 at *
  have T1 := HS11.out.row_new (e := 3) (size := 1) (n := 3) #[.int .i64 (-1), .int .i64 0, .int .i64 1] (by unfold maxLen; omega) rfl
  simp only [List.cons_append, List.nil_append] at T1
  have T2 := sameInts_any _ _ _ _ _ [-1, 0, 1] [-1, 0, 1] (T1.row_rd (i := 9) rfl) (T1.row_rd (i := 12) rfl)
  have HS12' := Lib.hid T1
  clear T1 HS11
  go_wp2_with fail
  refine T2.mono ?_
  clear T2
  rintro e w' ⟨rfl, q3, rfl⟩
  have HS12 := Lib.hid (HS12'.out.drewN q3)
  clear HS12'
  generalize (w11.alloc _).drewN q3 = w12 at *
  go_wp2_with fail
  obtain ⟨gr', cr', hv, -, -, -, hcr, hfr⟩ := HS12.out.row_form (i := 4) rfl (by decide)
  cases hv
  have k0 := hcr 0 (by decide)
  have k1 := hcr 1 (by decide)
  have k2 := hcr 2 (by decide)
  simp only [reqs0, List.getElem?_cons_succ, List.getElem?_cons_zero] at k0 k1 k2
  have f1 := hfr 1
  have f2 := hfr 2
  clear hcr hfr k6 k7 k8 k0
  go_region
  have S13 := ((HS12.out.row_set (i := 4) rfl 1 (.bool true)).row_set (i := 4) rfl 2 (.slice (some ⟨g0, 2, none⟩) 1 1)).drewN 1
  simp only [List.set_cons_succ, List.set_cons_zero] at S13
  have HS13 : Hid (St W ((w12.setCell ⟨gr, 1, none⟩ (.bool true)).setCell ⟨gr, 2, none⟩ (.slice (some ⟨g0, 2, none⟩) 1 1)).drew _) := S13
  clear S13 HS12 k1 k2 f1 f2
  generalize ((w12.setCell ⟨gr, 1, none⟩ (.bool true)).setCell ⟨gr, 2, none⟩ (.slice (some ⟨g0, 2, none⟩) 1 1)).drew = w13 at *
  go_wp2_with fail
  have h := excluded_run w13 _ _ 2 3 slots0 (rs1 g0 g1 g2) (HS13.out.row_rd (i := 0) rfl).now (lb_reqs HS13.out rfl rfl rfl rfl)
  rw [rs1_rq, awake_excluded] at h
  refine h.mono ?_
  clear h
  rintro e w14 ⟨v14, rfl, S14⟩
  obtain ⟨g14, c14, rfl, -, -, -, -, -⟩ := S14.row_form (i := 0) rfl (by decide)
  have SX := HS13.out.call S14
  simp only [List.cons_append, List.nil_append] at SX
  have HS14 := Lib.hid SX
  clear SX
  clear S14 HS13
  go_wp2_with fail
  have A1 := HS14.out.row_new (e := 3) (size := 1) (n := 2) #[.int .i64 0, .int .i64 5] (by unfold maxLen; omega) rfl
  simp only [List.cons_append, List.nil_append] at A1
  have A2 := A1.row_new (e := 3) (size := 1) (n := 2) #[.int .i64 10, .int .i64 12] (by unfold maxLen; omega) rfl
  simp only [List.cons_append, List.nil_append] at A2
  have A3 := A2.row_new (e := 3) (size := 1) (n := 2) #[.int .i64 10, .int .i64 12] (by unfold maxLen; omega) rfl
  simp only [List.cons_append, List.nil_append] at A3
  have A4 := A3.row_new (e := 23) (size := 1) (n := 2) #[.slice (some ⟨w14.heap.size + 1, 0, none⟩) 2 2, .slice (some ⟨w14.heap.size + 1 + 1, 0, none⟩) 2 2] (by unfold maxLen; omega) rfl
  simp only [List.cons_append, List.nil_append] at A4
  have A5 := A4.row_new (e := 3) (size := 1) (n := 2) #[.int .i64 1, .int .i64 1] (by unfold maxLen; omega) rfl
  simp only [List.cons_append, List.nil_append] at A5
  have A6 := A5.blk_new #[.slice (some ⟨w14.heap.size, 0, none⟩) 2 2, .slice (some ⟨w14.heap.size + 1 + 1 + 1, 0, none⟩) 2 2, .slice (some ⟨w14.heap.size + 1 + 1 + 1 + 1, 0, none⟩) 2 2] 75
  simp only [List.cons_append, List.nil_append] at A6
  simp only [World.size_alloc] at A6
  have HS15 := Lib.hid A6
  clear A1 A2 A3 A4 A5 A6 HS14
  generalize ((((((w14.alloc _).alloc _).alloc _).alloc _).alloc _).alloc _) = w15 at *
  generalize w14.heap.size = b at *
  have HP : Hid (RdPace w15 (· < w15.heap.size) (.slice (some ⟨b, 0, none⟩) 2 2) (.slice (some ⟨b + 1 + 1 + 1, 0, none⟩) 2 2) (.slice (some ⟨b + 1 + 1 + 1 + 1, 0, none⟩) 2 2) pc0) := by
    refine RdPace.mk (HS15.out.row_rd (i := 14) rfl).now ⟨[.slice (some ⟨b + 1, 0, none⟩) 2 2, .slice (some ⟨b + 1 + 1, 0, none⟩) 2 2], (HS15.out.row_rd (i := 17) rfl).now, fun i x r hx hr => ?_⟩ (HS15.out.row_rd (i := 18) rfl).now
    match i with
    | 0 => cases hx; cases hr; exact (HS15.out.row_rd (i := 15) rfl).now
    | 1 => cases hx; cases hr; exact (HS15.out.row_rd (i := 16) rfl).now
    | i + 2 => cases hx
  have c0 := HS15.out.blk_cell (i := 19) rfl 0
  have c1 := HS15.out.blk_cell (i := 19) rfl 1
  have c2 := HS15.out.blk_cell (i := 19) rfl 2
  have h := ends_any w15 _ _ _ pc0 HP.out
  rw [awake_ends] at h
  refine h.mono ?_
  clear h
  rintro e w16 ⟨v16, rfl, hb16, hr16⟩
  have HS16 := Lib.hid (HS15.out.ext hb16)
  have HE := Lib.hid hr16
  have HP16 := Lib.hid (HP.out.later hb16)
  clear hb16 hr16 HS15 HP c0 c1 c2
  have c0 := HS16.out.blk_cell (i := 19) rfl 0
  have c1 := HS16.out.blk_cell (i := 19) rfl 1
  have c2 := HS16.out.blk_cell (i := 19) rfl 2
  go_wp2_with fail
  have h := delays_any w16 _ _ _ pc0 HP16.out
  rw [awake_delays] at h
  refine h.mono ?_
  clear h
  rintro e w17 ⟨v17, rfl, S17⟩
  obtain ⟨g17, c17, rfl, -, -, -, -, -⟩ := S17.row_form (i := 0) rfl (by decide)
  have SX := HS16.out.call S17
  simp only [List.cons_append, List.nil_append] at SX
  have HS17 := Lib.hid SX
  clear SX
  have HP17 := Lib.hid (HP16.out.later S17.bel)
  have HE17 := Lib.hid (HE.out.later S17.bel)
  clear S17 HS16 HP16 HE c0 c1 c2
  have c0 := HS17.out.blk_cell (i := 19) rfl 0
  have c1 := HS17.out.blk_cell (i := 19) rfl 1
  have c2 := HS17.out.blk_cell (i := 19) rfl 2
  go_wp2_with fail
  have h := bottleneck_any w17 _ _ _ pc0 HP17.out
  rw [awake_bottleneck] at h
  refine h.mono ?_
  clear h
  rintro e w18 ⟨rfl, hb18⟩
  have HS18 := Lib.hid (HS17.out.ext hb18)
  have HE18 := Lib.hid (HE17.out.later hb18)
  clear hb18 HS17 HP17 HE17 c0 c1 c2
  go_wp2_with fail
  have A1 := HS18.out.row_new (e := 3) (size := 1) (n := 2) #[.int .i64 10, .int .i64 12] (by unfold maxLen; omega) rfl
  simp only [List.cons_append, List.nil_append] at A1
  have h := holes_any _ _ [10, 12] (A1.row_rd (i := 21) rfl).now
  have HS19 := Lib.hid A1
  have HE19 := Lib.hid (HE18.out.later ((Below.refl _ _).alloc (Nat.le_refl _) (.cells #[.int .i64 10, .int .i64 12] 3)))
  clear A1 HS18 HE18
  generalize (w18.alloc (.cells #[.int .i64 10, .int .i64 12] 3)) = w19 at *
  rw [awake_holes] at h
  refine h.mono ?_
  clear h
  rintro e w20 ⟨v20, rfl, hb20, hr20⟩
  have HS20 := Lib.hid (HS19.out.ext hb20)
  have HE20 := Lib.hid (HE19.out.later hb20)
  have HH20 := Lib.hid hr20
  clear hb20 hr20 HS19 HE19
  go_wp2_with fail
  have A1 := HS20.out.row_new (e := 3) (size := 1) (n := 2) #[.int .i64 10, .int .i64 22] (by unfold maxLen; omega) rfl
  simp only [List.cons_append, List.nil_append] at A1
  have hb := (Below.refl w20.heap.size w20).alloc (Nat.le_refl _) (.cells #[.int .i64 10, .int .i64 22] 3)
  have h := apply_any _ _ _ [[10, NONE], [22, 12]] [10, 22] (HH20.out.later hb) (A1.row_rd (i := 22) rfl).now
  have HS21 := Lib.hid A1
  have HE21 := Lib.hid (HE20.out.later hb)
  have HH21 := Lib.hid (HH20.out.later hb)
  clear A1 HS20 HE20 HH20 hb
  generalize (w20.alloc (.cells #[.int .i64 10, .int .i64 22] 3)) = w21 at *
  rw [awake_apply] at h
  refine h.mono ?_
  clear h
  rintro e w22 ⟨v22, rfl, S22⟩
  obtain ⟨g22, c22, rfl, -, -, -, -, -⟩ := S22.row_form (i := 0) rfl (by decide)
  have SX := HS21.out.call S22
  simp only [List.cons_append, List.nil_append] at SX
  have HS22 := Lib.hid SX
  clear SX
  have HE22 := Lib.hid (HE21.out.later S22.bel)
  have HH22 := Lib.hid (HH21.out.later S22.bel)
  clear S22 HS21 HE21 HH21
  go_wp2_with fail
  have h := mean_any w22 v20 [[10, NONE], [22, 12]] ⟨#[49, 50]⟩ HH22.out (fun _ _ w _ => by
    rw [awake_greatest]
    exact of1_any w 12 ⟨#[49, 50]⟩ (by omega) (by omega) (itoa12 w))
  refine h.mono ?_
  clear h
  rintro e w23 ⟨hb23, ⟨h1, _⟩ | ⟨_, h1, _⟩ | ⟨_, _, v23, rfl, hr23⟩⟩
  · exact absurd awake_mat h1
  · rw [awake_greatest] at h1; cases h1
  rw [awake_greatest, show ([[10, NONE], [22, 12]] : IMat).length = 2 from rfl, awake_tight] at hr23
  have HS23 := Lib.hid (HS22.out.ext hb23)
  have HE23 := Lib.hid (HE22.out.later hb23)
  have HT23 := Lib.hid hr23
  clear hb23 hr23 HS22 HE22 HH22
  go_wp2_with fail
  have T1 := HS23.out.row_new (e := 3) (size := 1) (n := 2) #[.int .i64 0, .int .i64 2] (by unfold maxLen; omega) rfl
  simp only [List.cons_append, List.nil_append] at T1
  have hbn := (Below.refl w23.heap.size w23).alloc (Nat.le_refl _) (.cells #[.int .i64 0, .int .i64 2] 3)
  have T2 := sameInts_any _ _ _ _ _ [0, 2] [0, 2] (T1.row_rd (i := 13) rfl) (T1.row_rd (i := 24) rfl)
  have HS24' := Lib.hid T1
  clear T1 HS23
  go_wp2_with fail
  refine T2.mono ?_
  clear T2
  rintro e w' ⟨rfl, q23, rfl⟩
  have HS24 := Lib.hid (HS24'.out.drewN q23)
  have HE24 := Lib.hid (HE23.out.later (below_drewN hbn q23))
  clear HE23
  have HT24 := Lib.hid (HT23.out.later (below_drewN hbn q23))
  clear HT23
  clear HS24' hbn
  generalize (w23.alloc _).drewN q23 = w24 at *
  have A1 := HS24.out.row_new (e := 3) (size := 1) (n := 2) #[.int .i64 10, .int .i64 22] (by unfold maxLen; omega) rfl
  simp only [List.cons_append, List.nil_append] at A1
  have A2 := A1.row_new (e := 3) (size := 1) (n := 2) #[.int .i64 20, .int .i64 34] (by unfold maxLen; omega) rfl
  simp only [List.cons_append, List.nil_append] at A2
  have A3 := A2.row_new (e := 23) (size := 1) (n := 2) #[.slice (some ⟨w24.heap.size, 0, none⟩) 2 2, .slice (some ⟨w24.heap.size + 1, 0, none⟩) 2 2] (by unfold maxLen; omega) rfl
  simp only [List.cons_append, List.nil_append] at A3
  simp only [World.size_alloc] at A3
  have hbn := (((Below.refl w24.heap.size w24).alloc (Nat.le_refl _) (.cells #[.int .i64 10, .int .i64 22] 3)).alloc (by simp only [World.size_alloc]; omega) (.cells #[.int .i64 20, .int .i64 34] 3)).alloc (by simp only [World.size_alloc]; omega) (.cells #[.slice (some ⟨w24.heap.size, 0, none⟩) 2 2, .slice (some ⟨w24.heap.size + 1, 0, none⟩) 2 2] 23)
  have T2 := sameTable_any _ _ _ _ _ [[10, 22], [20, 34]] [[10, 22], [20, 34]] (HE24.out.later hbn) ⟨[.slice (some ⟨w24.heap.size, 0, none⟩) 2 2, .slice (some ⟨w24.heap.size + 1, 0, none⟩) 2 2], (A3.row_rd (i := 27) rfl).now, fun i x r hx hr => by
    match i with
    | 0 => cases hx; cases hr; exact (A3.row_rd (i := 25) rfl).now
    | 1 => cases hx; cases hr; exact (A3.row_rd (i := 26) rfl).now
    | i + 2 => cases hx⟩
  have HS25' := Lib.hid A3
  have HT25' := Lib.hid (HT24.out.later hbn)
  clear A1 A2 A3 HS24 HE24 HT24
  go_wp2_with fail
  refine T2.mono ?_
  clear T2
  rintro e w' ⟨rfl, q24, rfl⟩
  have HS25 := Lib.hid (HS25'.out.drewN q24)
  have HT25 := Lib.hid (HT25'.out.later (below_drewN (Below.refl _ _) q24))
  clear HS25' HT25' hbn
  generalize (((w24.alloc _).alloc _).alloc _).drewN q24 = w25 at *
  have T1 := HS25.out.row_new (e := 3) (size := 1) (n := 2) #[.int .i64 0, .int .i64 7] (by unfold maxLen; omega) rfl
  simp only [List.cons_append, List.nil_append] at T1
  have hbn := (Below.refl w25.heap.size w25).alloc (Nat.le_refl _) (.cells #[.int .i64 0, .int .i64 7] 3)
  have T2 := sameInts_any _ _ _ _ _ [0, 7] [0, 7] (T1.row_rd (i := 20) rfl) (T1.row_rd (i := 28) rfl)
  have HS26' := Lib.hid T1
  clear T1 HS25
  go_wp2_with fail
  refine T2.mono ?_
  clear T2
  rintro e w' ⟨rfl, q25, rfl⟩
  have HS26 := Lib.hid (HS26'.out.drewN q25)
  have HT26 := Lib.hid (HT25.out.later (below_drewN hbn q25))
  clear HT25
  clear HS26' hbn
  generalize (w25.alloc _).drewN q25 = w26 at *
  go_wp2_with fail
  refine (requests_any _).mono ?_
  rintro e w27 ⟨gr', g0', g1', g2', rfl, S27⟩
  have SX := HS26.out.call S27
  simp only [List.cons_append, List.nil_append] at SX
  have HS27 := Lib.hid SX
  clear SX
  have HT27 := Lib.hid (HT26.out.later S27.bel)
  clear S27 HS26 HT26
  have A1 := HS27.out.row_new (e := 3) (size := 1) (n := 3) #[.int .i64 1, .int .i64 0, .int .i64 (-1)] (by unfold maxLen; omega) rfl
  simp only [List.cons_append, List.nil_append] at A1
  have A2 := A1.row_new (e := 3) (size := 1) (n := 2) #[.int .i64 4, .int .i64 2] (by unfold maxLen; omega) rfl
  simp only [List.cons_append, List.nil_append] at A2
  have hbn := ((Below.refl w27.heap.size w27).alloc (Nat.le_refl _) (.cells #[.int .i64 1, .int .i64 0, .int .i64 (-1)] 3)).alloc (by simp only [World.size_alloc]; omega) (.cells #[.int .i64 4, .int .i64 2] 3)
  simp only [World.size_alloc] at A2
  have h := checkProof_any _ _ _ _ 2 3 3 _ 6 slots0 (rs0 g0' g1' g2') ⟨[1, 0, -1], [4, 2]⟩ (A2.row_rd (i := 0) rfl).now (rs0_rd (A2.row_rd (i := 32) rfl) (A2.row_rd (i := 29) rfl) (A2.row_rd (i := 30) rfl) (A2.row_rd (i := 31) rfl)) (A2.row_rd (i := 33) rfl).now (A2.row_rd (i := 34) rfl).now
  rw [rs0_rq, awake_proof] at h
  have HS28 := Lib.hid A2
  have HT28 := Lib.hid (HT27.out.later hbn)
  clear A1 A2 HS27 HT27 hbn
  go_wp2_with fail
  refine h.mono ?_
  clear h
  rintro e w29 ⟨rfl, hb29⟩
  have HS29 := Lib.hid (HS28.out.ext hb29)
  have HT29 := Lib.hid (HT28.out.later hb29)
  clear hb29 HS28 HT28
  have T1 := HS29.out.row_new (e := 3) (size := 1) (n := 2) #[.int .i64 20, .int .i64 34] (by unfold maxLen; omega) rfl
  simp only [List.cons_append, List.nil_append] at T1
  have hbn := (Below.refl w29.heap.size w29).alloc (Nat.le_refl _) (.cells #[.int .i64 20, .int .i64 34] 3)
  have T2 := sameInts_any _ _ _ _ _ [20, 34] [20, 34] (T1.row_rd (i := 23) rfl) (T1.row_rd (i := 35) rfl)
  have HS30' := Lib.hid T1
  clear T1 HS29
  go_wp2_with fail
  refine T2.mono ?_
  clear T2
  rintro e w' ⟨rfl, q29, rfl⟩
  have HS30 := Lib.hid (HS30'.out.drewN q29)
  have HT30 := Lib.hid (HT29.out.later (below_drewN hbn q29))
  clear HT29
  clear HS30' hbn
  generalize (w29.alloc _).drewN q29 = w30 at *
  have T1 := HS30.out.row_new (e := 3) (size := 1) (n := 1) #[.int .i64 1] (by unfold maxLen; omega) rfl
  simp only [List.cons_append, List.nil_append] at T1
  have hbn := (Below.refl w30.heap.size w30).alloc (Nat.le_refl _) (.cells #[.int .i64 1] 3)
  have T2 := sameInts_any _ _ _ _ _ [1] [1] (HT30.out.later hbn) (T1.row_rd (i := 36) rfl)
  have HS31' := Lib.hid T1
  clear T1 HS30 HT30 hbn
  go_wp2_with fail
  refine T2.mono ?_
  clear T2
  rintro e w' ⟨rfl, q30, rfl⟩
  have HS31 := Lib.hid (HS31'.out.drewN q30)
  clear HS31'
  generalize (w30.alloc _).drewN q30 = w31 at *
  go_wp2
  go_ret
  exact ⟨rfl, HS31.out.bel⟩
end Go.Proofs.YtlffgdmljioaoaaGreatDoor
