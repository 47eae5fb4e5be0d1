/- Part 35 of the walks of the golf union's program: QU7, QU8, QU9, QV4, QV5. -/
import Derived.Test.YtlffgdmljioaoaaGreatDoorD33
import Derived.Test.YtlffgdmljioaoaaGreatDoorD34
set_option linter.unusedVariables false
set_option linter.unusedSimpArgs false
set_option linter.unusedSectionVars false
set_option linter.constructorNameAsVariable false
/- Walks of the reference's big numbers: parts. -/
namespace Go.Sheet
open Go.Proofs.YtlffgdmljioaoaaGreatDoor
theorem tPQ_sl (P Q : Int) : slL (tPQ P Q) = (Lib.itoa P).length := by
  have hno : ∀ c ∈ Lib.itoa P, (c == 47) = false := fun c hc => by
    rw [itoa_cases] at hc
    have h47 : (47 : UInt8).toNat = 47 := rfl
    have hd : ∀ c ∈ Lib.decDigits P.natAbs, (c == 47) = false := fun c hc => by
      have := dec_dig _ c hc
      rw [beq_eq_false_iff_ne]
      intro h; subst h
      omega
    split at hc
    · rcases List.mem_cons.1 hc with rfl | hc
      · rfl
      · exact hd c hc
    · exact hd c hc
  unfold slL tPQ
  split
  · rw [List.append_nil, List.findIdx_eq_length]
    exact hno
  · rw [List.findIdx_append]
    have h1 : List.findIdx (· == 47) (Lib.itoa P) = (Lib.itoa P).length := List.findIdx_eq_length.2 hno
    rw [h1, if_neg (by omega)]
    have h2 : List.findIdx (· == 47) (47 :: Lib.itoa Q) = 0 := by rw [List.findIdx_cons]; rfl
    rw [h2, Nat.zero_add]
theorem itoa_len19 {P : Int} (hP : P.natAbs < 1000000000000000000) : (Lib.itoa P).length ≤ 19 := by
  have := (dec_len 17 _).2 hP
  rw [itoa_cases]
  split
  · simp; omega
  · omega
end Go.Sheet
namespace Go.Proofs.YtlffgdmljioaoaaGreatDoor
open Go.RowKit Go.Mem Go.Sheet
theorem res_big2 (f : Func) (tmps : Array Value) (w : World) (g g' : Nat) (b b' : Bool) (v v' : Value) (hf : f.results = #[.cell 2 112, .cell 3 112]) (hp : tmps.getD 2 undef = .pointer (some ⟨g, 0, none⟩)) (hp' : tmps.getD 3 undef = .pointer (some ⟨g', 0, none⟩))
    (h0 : w.cell? ⟨g, 0, none⟩ = some (.bool b)) (h1 : w.cell? ⟨g, 1, none⟩ = some v) (h2 : w.cell? ⟨g', 0, none⟩ = some (.bool b')) (h3 : w.cell? ⟨g', 1, none⟩ = some v') :
    (results f tmps).run Tryz.prog w = .ok (.tuple #[.agg #[.bool b, v], .agg #[.bool b', v']]) w := by
  have hp2 : tmps[2]?.getD undef = .pointer (some ⟨g, 0, none⟩) := by simpa using hp
  have hp3 : tmps[3]?.getD undef = .pointer (some ⟨g', 0, none⟩) := by simpa using hp'
  simp [results, hf, hp2, hp3, h0, h1, h2, h3, go_sem]
set_option maxRecDepth 100000 in
set_option maxHeartbeats 1000000 in
theorem rparts_any (W : World) (P Q : Int) (hP : P.natAbs < 1000000000000000000) (hQ : 1 ≤ Q ∧ Q < 1000000000) :
    Calls Tryz.prog 67 #[.string (tB (tPQ P Q))] W fun e w' => (∃ v1 v2, e = .returned (.tuple #[v1, v2]) ∧ BigF w' (Fresh W w') v1 P ∧ BigF w' (Fresh W w') v2 Q) ∧ Below W.heap.size W w' := by
  have S0 := ((St.refl W).blk_new #[.bool false, .slice none 0 0] 112).blk_new #[.bool false, .slice none 0 0] 112
  simp only [List.nil_append, List.cons_append, World.size_alloc] at S0
  have HS0 := Lib.hid S0
  have hPl := itoa_len19 hP
  have hQl := itoa_len19 (P := Q) (by omega)
  have hlen : (tPQ P Q).length = (Lib.itoa P).length + (if Q = 1 then 0 else 1 + (Lib.itoa Q).length) := by
    unfold tPQ
    rw [List.length_append]
    split <;> simp; omega
  have HSL := Lib.hid (fun w => rslash_any w (tPQ P Q) (by rw [hlen]; split <;> omega))
  rw [tPQ_sl] at HSL
  have HPP := Lib.hid (fun w => rparse_any w P hP)
  have HPQ := Lib.hid (fun w => rparse_any w Q (by omega))
  have HWH := Lib.hid (fun w => rwhole_any w 1 (by omega))
  have hsz : (tB (tPQ P Q)).size = (tPQ P Q).length := tB_size _
  clear S0 hP
  by_cases hq : Q = 1
  · have ht : tPQ P Q = Lib.itoa P := by unfold tPQ; rw [if_pos hq, List.append_nil]
    rw [ht] at HSL hsz hlen ⊢
    subst hq
    clear ht hlen
    generalize Lib.itoa P = t at *
    generalize ht : t.length = L at *
    clear ht
    have tL : ((L : Int) == (L : Int)) = true := by simp
    go_enter Tryz.func67, Tryz.ntmps67
    go_wp2_with fail
    refine (HSL.out _).mono ?_
    rintro e w' ⟨rfl, rfl⟩
    go_wp2_with fail
    refine (HPP.out _).mono ?_
    rintro e w2 ⟨⟨v1, rfl, h1⟩, hb2⟩
    obtain ⟨x1, A1, n1, c1, rfl, HX1, HN1, HR1⟩ := h1.open_
    have S2 := HS0.out.push (A := rds 1 (.slice A1 n1 c1) n1 ((digs P.natAbs).map (Value.int .i64))) hb2 (by have h := HR1.out; rw [HN1.out] at h ⊢; exact h) (fun b hb => hb)
    simp only [List.nil_append, List.cons_append] at S2
    have HS2 := Lib.hid S2
    clear S2 hb2 h1
    go_wp2_with fail
    refine (HWH.out _).mono ?_
    rintro e w3 ⟨⟨v2, rfl, h2⟩, hb3⟩
    obtain ⟨x2, A2, n2, c2, rfl, HX2, HN2, HR2⟩ := h2.open_
    have S3 := HS2.out.push (A := rds 1 (.slice A2 n2 c2) n2 ((digs (1 : Int).natAbs).map (Value.int .i64))) hb3 (by have h := HR2.out; rw [HN2.out] at h ⊢; exact h) (fun b hb => hb)
    simp only [List.nil_append, List.cons_append] at S3
    have S4 := (((S3.blk_set (i := 0) rfl 0 (.bool x1)).blk_set (i := 0) rfl 1 (.slice A1 n1 c1)).blk_set (i := 1) rfl 0 (.bool x2)).blk_set (i := 1) rfl 1 (.slice A2 n2 c2)
    simp only [List.set_cons_zero, List.set_cons_succ] at S4
    have HS4 := Lib.hid S4
    have d0 := S3.blk_cell (i := 0) rfl 0
    have d1 := S3.blk_cell (i := 0) rfl 1
    have d2 := S3.blk_cell (i := 1) rfl 0
    have d3 := S3.blk_cell (i := 1) rfl 1
    have z0 := S3.blk_frozen (i := 0) rfl 0
    have z1 := S3.blk_frozen (i := 0) rfl 1
    have z2 := S3.blk_frozen (i := 1) rfl 0
    have z3 := S3.blk_frozen (i := 1) rfl 1
    clear S3 S4 hb3 h2
    go_wp2_with fail
    exact bodyPost_ret (res_big2 _ _ _ W.heap.size (W.heap.size + 1) x1 x2 (.slice A1 n1 c1) (.slice A2 n2 c2) Tryz.results67 rfl rfl (HS4.out.blk_cell (i := 0) rfl 0) (HS4.out.blk_cell (i := 0) rfl 1) (HS4.out.blk_cell (i := 1) rfl 0) (HS4.out.blk_cell (i := 1) rfl 1)) rfl ⟨⟨_, _, rfl, ⟨x1, _, rfl, HX1.out, by
      have h := HS4.out.rds_rd (i := 2) rfl
      rw [HN1.out] at h ⊢
      exact h⟩, ⟨x2, _, rfl, HX2.out, by
      have h := HS4.out.rds_rd (i := 3) rfl
      rw [HN2.out] at h ⊢
      exact h⟩⟩, HS4.out.bel⟩
  · have ht : tPQ P Q = Lib.itoa P ++ 47 :: Lib.itoa Q := by unfold tPQ; rw [if_neg hq]
    rw [if_neg hq] at hlen
    have HE1 : Hid ((tB (tPQ P Q)).extract 0 (Lib.itoa P).length = tB (Lib.itoa P)) := Lib.hid (by rw [tB_ext, ht, List.take_left, List.drop_zero])
    have HE2 : Hid ((tB (tPQ P Q)).extract ((Lib.itoa P).length + 1) ((Lib.itoa P).length + (1 + (Lib.itoa Q).length)) = tB (Lib.itoa Q)) := Lib.hid (by
      rw [← hlen, tB_ext, List.take_length, ht, ← List.drop_drop, List.drop_left]
      rfl)
    rw [hlen] at hsz
    clear ht hlen
    generalize tPQ P Q = t at *
    generalize Lib.itoa P = tp at *
    generalize Lib.itoa Q = tq at *
    generalize htp : tp.length = L at *
    generalize htq : tq.length = M at *
    clear htp htq hq
    have tL : ((L : Int) == (L : Int) + (1 + (M : Int))) = false := by simp; omega
    go_enter Tryz.func67, Tryz.ntmps67
    go_wp2_with fail
    refine (HSL.out _).mono ?_
    rintro e w' ⟨rfl, rfl⟩
    go_wp2_with fail
    have HSD := Lib.hid HS0.out.drew
    refine Go.MemS.wp_head_tail' 0 10 3 [] [0, 1, 2, 4, 5, 6, 7] rfl (fun _ => True) (by kernel_rfl) (by kernel_rfl) trivial ?_
    simp only [Go.MemS.pick, List.filterMap_cons, List.filterMap_nil, List.getElem?_toArray, List.getElem?_cons_succ, List.getElem?_cons_zero]
    generalize hK : (fun _ : World => True) = K
    have hK2 : ∀ w', K w' := by subst hK; exact fun _ => trivial
    have hne : Nonempty (Wd K) := ⟨⟨W, hK2 _⟩⟩
    clear hK HS0
    generalize World.drew _ = wq at *
    refine wpQuiet_nil ?_
    change wpQuiet _ _ _ _ (_ :: _ :: _ :: _ :: _ :: _ :: _ :: []) _
    repeat (go_big_quiet_step ((fail)))
    refine wpQuiet_nil ?_
    refine Go.MemS.headW_all (rs := [3]) (by kernel_rfl) (by decide) (by decide) (List.forall_mem_cons.2 ⟨?_, List.forall_mem_nil _⟩)
    refine Go.MemS.wpOp_list (o := _) rfl ?_
    intro Q' hQ'
    go_wp2_with fail
    rw [HE1.out]
    refine (HPP.out _).mono ?_
    rintro e w2 ⟨⟨v1, rfl, h1⟩, hb2⟩
    obtain ⟨x1, A1, n1, c1, rfl, HX1, HN1, HR1⟩ := h1.open_
    have S2 := HSD.out.push (A := rds 1 (.slice A1 n1 c1) n1 ((digs P.natAbs).map (Value.int .i64))) hb2 (by have h := HR1.out; rw [HN1.out] at h ⊢; exact h) (fun b hb => hb)
    simp only [List.nil_append, List.cons_append] at S2
    have HS2 := Lib.hid S2
    clear S2 hb2 h1
    go_wp2_with fail
    refine ⟨hK2 _, ?_⟩
    refine Go.MemS.headW_all (rs := [8]) (by kernel_rfl) (by decide) (by decide) (List.forall_mem_cons.2 ⟨?_, List.forall_mem_nil _⟩)
    refine Go.MemS.wpOp_list (o := _) rfl ?_
    intro Q' hQ'
    go_wp2_with fail
    rw [HE2.out]
    refine (HPQ.out _).mono ?_
    rintro e w3 ⟨⟨v2, rfl, h2⟩, hb3⟩
    obtain ⟨x2, A2, n2, c2, rfl, HX2, HN2, HR2⟩ := h2.open_
    have S3 := HS2.out.push (A := rds 1 (.slice A2 n2 c2) n2 ((digs Q.natAbs).map (Value.int .i64))) hb3 (by have h := HR2.out; rw [HN2.out] at h ⊢; exact h) (fun b hb => hb)
    simp only [List.nil_append, List.cons_append] at S3
    have S4 := (((S3.blk_set (i := 0) rfl 0 (.bool x1)).blk_set (i := 0) rfl 1 (.slice A1 n1 c1)).blk_set (i := 1) rfl 0 (.bool x2)).blk_set (i := 1) rfl 1 (.slice A2 n2 c2)
    simp only [List.set_cons_zero, List.set_cons_succ] at S4
    have HS4 := Lib.hid S4
    have d0 := S3.blk_cell (i := 0) rfl 0
    have d1 := S3.blk_cell (i := 0) rfl 1
    have d2 := S3.blk_cell (i := 1) rfl 0
    have d3 := S3.blk_cell (i := 1) rfl 1
    have z0 := S3.blk_frozen (i := 0) rfl 0
    have z1 := S3.blk_frozen (i := 0) rfl 1
    have z2 := S3.blk_frozen (i := 1) rfl 0
    have z3 := S3.blk_frozen (i := 1) rfl 1
    clear S3 S4 hb3 h2
    go_wp2_with fail
    refine ⟨hK2 _, ?_⟩
    refine Go.MemS.headW_all (rs := [9]) (by kernel_rfl) (by decide) (by decide) (List.forall_mem_cons.2 ⟨?_, List.forall_mem_nil _⟩)
    refine Go.MemS.wpOp_list (o := _) rfl ?_
    intro Q' hQ'
    go_wp2_with fail
    refine ⟨hK2 _, by kernel_rfl, ?_⟩
    clear hK2 hne
    go_wp2_with fail
    refine NoPanic.normal ?_
    go_wp2
    exact bodyPost_ret (res_big2 _ _ _ W.heap.size (W.heap.size + 1) x1 x2 (.slice A1 n1 c1) (.slice A2 n2 c2) Tryz.results67 rfl rfl (HS4.out.blk_cell (i := 0) rfl 0) (HS4.out.blk_cell (i := 0) rfl 1) (HS4.out.blk_cell (i := 1) rfl 0) (HS4.out.blk_cell (i := 1) rfl 1)) rfl ⟨⟨_, _, rfl, ⟨x1, _, rfl, HX1.out, by
      have h := HS4.out.rds_rd (i := 2) rfl
      rw [HN1.out] at h ⊢
      exact h⟩, ⟨x2, _, rfl, HX2.out, by
      have h := HS4.out.rds_rd (i := 3) rfl
      rw [HN2.out] at h ⊢
      exact h⟩⟩, HS4.out.bel⟩
end Go.Proofs.YtlffgdmljioaoaaGreatDoor
/- Walks of the reference's big numbers: times. -/
namespace Go.Sheet
theorem sgZ_mul {x y : Int} (hy : 1 ≤ y) : sgZ (decide (x < 0) != decide (y < 0)) (x.natAbs * y.natAbs) = x * y := by
  rw [decide_eq_false (show ¬ y < 0 by omega), Bool.bne_false]
  unfold sgZ
  by_cases h : x < 0
  · rw [decide_eq_true h, if_pos rfl, Int.natCast_mul, show (x.natAbs : Int) = -x by omega, show (y.natAbs : Int) = y by omega, Int.neg_mul, Int.neg_neg]
  · rw [decide_eq_false h, if_neg (by decide), Int.natCast_mul, show (x.natAbs : Int) = x by omega, show (y.natAbs : Int) = y by omega]
end Go.Sheet
namespace Go.Proofs.YtlffgdmljioaoaaGreatDoor
open Go.RowKit Go.Mem Go.Sheet
set_option maxRecDepth 100000 in
set_option maxHeartbeats 1000000 in
theorem rtimes_any (W : World) (va vb : Value) (x y : Int) (hy : 1 ≤ y ∧ y < 1000000000) (hx : x.natAbs < 1000000000000000000) (ha : BigV W va x) (hb : BigV W vb y) :
    Calls Tryz.prog 75 #[va, vb] W fun e w' => (∃ v', e = .returned v' ∧ BigF w' (Fresh W w') v' (x * y)) ∧ Below W.heap.size W w' := by
  obtain ⟨b1, A1, n1, c1, rfl, HB1, HN1, HR1⟩ := BigF.open_ ha
  obtain ⟨b2, A2, n2, c2, rfl, HB2, HN2, HR2⟩ := BigF.open_ hb
  have S0 := (((St.refl W).blk_new #[.bool b1, .slice A1 n1 c1] 112).blk_new #[.bool b2, .slice A2 n2 c2] 112).blk_new #[.bool false, .slice none 0 0] 112
  simp only [List.nil_append, List.cons_append, World.size_alloc] at S0
  have HS0 := Lib.hid S0
  have HSG : Hid (sgZ (b1 != b2) (x.natAbs * y.natAbs) = x * y) := Lib.hid (by rw [HB1.out, HB2.out]; exact sgZ_mul hy.1)
  have HMUL := Lib.hid (fun w (hw : Below W.heap.size W w) => rmulD_any w (.slice A1 n1 c1) (.slice A2 n2 c2) x.natAbs y.natAbs (by omega) (Nat.le_trans ((digs_len 2 _).2 hx) (by omega)) (RdD.later HR1.out hw) (RdD.later HR2.out hw))
  have HLN : Hid ((digs (x.natAbs * y.natAbs)).length ≤ 1000) := Lib.hid (by
    refine Nat.le_trans ((digs_len 3 _).2 ?_) (show 3 ≤ 1000 by omega)
    exact Nat.mul_lt_mul'' hx (show y.natAbs < 1000000000 by omega))
  clear S0 ha hb hx hy
  go_enter Tryz.func75, Tryz.ntmps75
  go_wp2_with fail
  have HSD := Lib.hid HS0.out.drew
  refine wp_head_tail' 0 11 2 [] [0, 1, 2, 3, 4, 5, 6, 7, 8] rfl (fun w' => w'.cell? ⟨W.heap.size, 0, none⟩ = some (.bool b1) ∧ w'.cell? ⟨W.heap.size, 1, none⟩ = some (.slice A1 n1 c1) ∧ w'.cell? ⟨W.heap.size + 1, 0, none⟩ = some (.bool b2) ∧ w'.cell? ⟨W.heap.size + 1, 1, none⟩ = some (.slice A2 n2 c2)) (by kernel_rfl) (by kernel_rfl) ⟨HSD.out.blk_cell (i := 0) rfl 0, HSD.out.blk_cell (i := 0) rfl 1, HSD.out.blk_cell (i := 1) rfl 0, HSD.out.blk_cell (i := 1) rfl 1⟩ ?_
  simp only [pick, List.filterMap_cons, List.filterMap_nil, List.getElem?_toArray, List.getElem?_cons_succ, List.getElem?_cons_zero]
  generalize hK : (fun w' : World => w'.cell? ⟨W.heap.size, 0, none⟩ = some (.bool b1) ∧ w'.cell? ⟨W.heap.size, 1, none⟩ = some (.slice A1 n1 c1) ∧ w'.cell? ⟨W.heap.size + 1, 0, none⟩ = some (.bool b2) ∧ w'.cell? ⟨W.heap.size + 1, 1, none⟩ = some (.slice A2 n2 c2)) = K
  have k0 : ∀ y' : Wd K, y'.w.cell? ⟨W.heap.size, 0, none⟩ = some (.bool b1) := by subst hK; exact fun y => y.h.1
  have k1 : ∀ y' : Wd K, y'.w.cell? ⟨W.heap.size, 1, none⟩ = some (.slice A1 n1 c1) := by subst hK; exact fun y => y.h.2.1
  have k2 : ∀ y' : Wd K, y'.w.cell? ⟨W.heap.size + 1, 0, none⟩ = some (.bool b2) := by subst hK; exact fun y => y.h.2.2.1
  have k3 : ∀ y' : Wd K, y'.w.cell? ⟨W.heap.size + 1, 1, none⟩ = some (.slice A2 n2 c2) := by subst hK; exact fun y => y.h.2.2.2
  have hK2 : ∀ (w' : World) (L : List Asr), St W w' (blk W.heap.size 112 #[.bool b1, .slice A1 n1 c1] :: blk (W.heap.size + 1) 112 #[.bool b2, .slice A2 n2 c2] :: L) → K w' := by
    subst hK
    exact fun w' L h => ⟨h.blk_cell (i := 0) rfl 0, h.blk_cell (i := 0) rfl 1, h.blk_cell (i := 1) rfl 0, h.blk_cell (i := 1) rfl 1⟩
  have hne : Nonempty (Wd K) := ⟨⟨_, hK2 _ _ HSD.out⟩⟩
  clear hK HS0
  generalize World.drew _ = wq at *
  refine wpQuiet_nil ?_
  change wpQuiet _ _ _ _ (_ :: _ :: _ :: _ :: _ :: _ :: _ :: _ :: _ :: []) _
  repeat (go_big_quiet_step ((fail)))
  refine wpQuiet_nil ?_
  clear k0 k1 k2 k3
  refine headW_all (rs := [9]) (by kernel_rfl) (by decide) (by decide) (List.forall_mem_cons.2 ⟨?_, List.forall_mem_nil _⟩)
  refine wpOp_list (o := _) rfl ?_
  intro Q' hQ'
  go_wp2_with fail
  refine (HMUL.out _ HSD.out.bel).mono ?_
  rintro e w2 ⟨⟨v1, rfl, h1⟩, hb2⟩
  have HSE := Lib.hid (hK2 _ _ (HSD.out.ext hb2))
  have hsg := rsignedZ_any w2 (Fresh wq w2) (fun b h => h.2) (b1 != b2) v1 _ (x.natAbs * y.natAbs) HLN.out (by rw [trimL_digs (digs_dig _), digs_val]) h1
  rw [HSG.out] at hsg
  have HSI := Lib.hid hsg
  have HX2 := Lib.hid hb2
  clear h1 hsg hb2
  go_wp2_with fail
  refine ⟨HSE.out, ?_⟩
  refine headW_all (rs := [10]) (by kernel_rfl) (by decide) (by decide) (List.forall_mem_cons.2 ⟨?_, List.forall_mem_nil _⟩)
  refine wpOp_list (o := _) rfl ?_
  intro Q' hQ'
  go_wp2_with fail
  refine HSI.out.mono ?_
  rintro e w3 ⟨⟨v2, rfl, h2⟩, hb3⟩
  obtain ⟨b3, A3, n3, c3, rfl, HB3, HN3, HR3⟩ := h2.open_
  have S3 := HSD.out.push (A := rds 1 (.slice A3 n3 c3) n3 ((digs (x * y).natAbs).map (Value.int .i64))) (HX2.out.trans (hb3.mono HX2.out.size)) (by have h := HR3.out; rw [HN3.out] at h ⊢; exact h) (fun b (hb : Fresh wq w2 b) => ⟨hb.1, Nat.lt_of_lt_of_le hb.2 hb3.size⟩)
  simp only [List.nil_append, List.cons_append] at S3
  have S4 := (S3.blk_set (i := 2) rfl 0 (.bool b3)).blk_set (i := 2) rfl 1 (.slice A3 n3 c3)
  simp only [List.set_cons_zero, List.set_cons_succ] at S4
  have HS4 := Lib.hid S4
  have HSE2 := Lib.hid (hK2 _ _ S3)
  have d0 := S3.blk_cell (i := 2) rfl 0
  have d1 := S3.blk_cell (i := 2) rfl 1
  have z0 := S3.blk_frozen (i := 2) rfl 0
  have z1 := S3.blk_frozen (i := 2) rfl 1
  clear S3 S4 hb3 h2 hK2 hne
  go_wp2_with fail
  refine ⟨HSE2.out, by kernel_rfl, ?_⟩
  go_wp2_with fail
  refine NoPanic.normal ?_
  go_wp2
  exact bodyPost_ret (res_bigF _ 4 _ _ (W.heap.size + 2) b3 (.slice A3 n3 c3) Tryz.results75 rfl (HS4.out.blk_cell (i := 2) rfl 0) (HS4.out.blk_cell (i := 2) rfl 1)) rfl ⟨⟨_, rfl, b3, _, rfl, HB3.out, by
    have h := HS4.out.rds_rd (i := 3) rfl
    rw [HN3.out] at h ⊢
    exact h⟩, HS4.out.bel⟩
end Go.Proofs.YtlffgdmljioaoaaGreatDoor
/- Walks of the reference's big numbers: plus. Printed by gen_qu9.py. -/
namespace Go.Sheet
theorem digs_mono {x y : Nat} (h : y ≤ x) : (digs y).length ≤ (digs x).length := (digs_len _ _).2 (Nat.lt_of_le_of_lt h ((digs_len _ _).1 (Nat.le_refl _)))
theorem sgZ_same {x y : Int} (h : decide (x < 0) = decide (y < 0)) : sgZ (decide (x < 0)) (x.natAbs + y.natAbs) = x + y := by
  rw [decide_eq_decide] at h
  unfold sgZ
  by_cases hx : x < 0
  · rw [decide_eq_true hx, if_pos rfl]; omega
  · rw [decide_eq_false hx, if_neg (by decide)]; omega
theorem sgZ_less {x y : Int} (h : ¬ decide (x < 0) = decide (y < 0)) (hle : y.natAbs ≤ x.natAbs) : sgZ (decide (x < 0)) (x.natAbs - y.natAbs) = x + y := by
  rw [decide_eq_decide] at h
  unfold sgZ
  by_cases hx : x < 0
  · rw [decide_eq_true hx, if_pos rfl]; omega
  · rw [decide_eq_false hx, if_neg (by decide)]; omega
end Go.Sheet
namespace Go.Proofs.YtlffgdmljioaoaaGreatDoor
open Go.RowKit Go.Mem Go.Sheet
/-- fresh digits of a number, perhaps with zeros at the end -/
def RetDig (W : World) (n : Nat) (e : Ending) (w' : World) : Prop := (∃ (v : Value) (l : List Int), e = .returned v ∧ l.length ≤ 1000 ∧ trimL l = digs n ∧ Rd w' (Fresh W w') 1 v l.length (l.map (Value.int .i64))) ∧ Below W.heap.size W w'
theorem raddZ_any (W : World) (va vb : Value) (x y : Nat) (hx : x < 1000000000000000000) (hy : y < 1000000000000000000) (ha : RdD W va x) (hb : RdD W vb y) : Calls Tryz.prog 165 #[va, vb] W (RetDig W (x + y)) := by
  refine (raddD_any W va vb (digs x) (digs y) (digs_dig x) (digs_dig y) (Nat.le_trans ((digs_len 2 _).2 hx) (by omega)) (Nat.le_trans ((digs_len 2 _).2 hy) (by omega)) ha hb).mono ?_
  rintro e w' ⟨⟨v, he, l, hl, hl2, hv, hr⟩, hbw⟩
  exact ⟨⟨v, l, he, by omega, by rw [trimL_digs hl, hv, digs_val, digs_val], hr⟩, hbw⟩
theorem rsubZ_any (W : World) (va vb : Value) (x y : Nat) (hx : x < 1000000000000000000) (hy : y ≤ x) (ha : RdD W va x) (hb : RdD W vb y) : Calls Tryz.prog 166 #[va, vb] W (RetDig W (x - y)) := by
  refine (rsubD_any W va vb (digs x) (digs y) (digs_dig x) (digs_dig y) (Nat.le_trans ((digs_len 2 _).2 hx) (by omega)) (digs_mono hy) (by rw [digs_val, digs_val]; exact hy) ha hb).mono ?_
  rintro e w' ⟨⟨v, he, hr⟩, hbw⟩
  rw [digs_val, digs_val] at hr
  exact ⟨⟨v, _, he, Nat.le_trans ((digs_len 2 _).2 (by omega)) (by omega), by rw [trimL_digs (digs_dig _), digs_val], hr⟩, hbw⟩
set_option maxRecDepth 100000 in
set_option maxHeartbeats 2000000 in
theorem rplus_any (W : World) (va vb : Value) (x y : Int) (hx : x.natAbs < 1000000000000000000) (hy : y.natAbs < 1000000000000000000) (ha : BigV W va x) (hb : BigV W vb y) :
    Calls Tryz.prog 150 #[va, vb] W fun e w' => (∃ v', e = .returned v' ∧ BigF w' (Fresh W w') v' (x + y)) ∧ Below W.heap.size W w' := by
  obtain ⟨b1, A1, n1, c1, rfl, HB1, HN1, HR1⟩ := BigF.open_ ha
  obtain ⟨b2, A2, n2, c2, rfl, HB2, HN2, HR2⟩ := BigF.open_ hb
  have S0 := (((St.refl W).blk_new #[.bool b1, .slice A1 n1 c1] 112).blk_new #[.bool b2, .slice A2 n2 c2] 112).blk_new #[.bool false, .slice none 0 0] 112
  simp only [List.nil_append, List.cons_append, World.size_alloc] at S0
  have HS0 := Lib.hid S0
  have HAD := Lib.hid (fun w (hw : Below W.heap.size W w) => raddZ_any w (.slice A1 n1 c1) (.slice A2 n2 c2) x.natAbs y.natAbs hx hy (RdD.later HR1.out hw) (RdD.later HR2.out hw))
  have HS1 := Lib.hid (fun w (hw : Below W.heap.size W w) (h : y.natAbs ≤ x.natAbs) => rsubZ_any w (.slice A1 n1 c1) (.slice A2 n2 c2) x.natAbs y.natAbs hx h (RdD.later HR1.out hw) (RdD.later HR2.out hw))
  have HS2 := Lib.hid (fun w (hw : Below W.heap.size W w) (h : x.natAbs ≤ y.natAbs) => rsubZ_any w (.slice A2 n2 c2) (.slice A1 n1 c1) y.natAbs x.natAbs hy h (RdD.later HR2.out hw) (RdD.later HR1.out hw))
  have HCM := Lib.hid (fun w (hw : Below W.heap.size W w) => rcmpD_any w (.slice A1 n1 c1) (.slice A2 n2 c2) x.natAbs y.natAbs (RdD.later HR1.out hw) (RdD.later HR2.out hw))
  have HE1 : Hid (b1 = b2 → sgZ b1 (x.natAbs + y.natAbs) = x + y) := Lib.hid (fun h => by rw [HB1.out, HB2.out] at h; rw [HB1.out]; exact sgZ_same h)
  have HE2 : Hid (¬ b1 = b2 → y.natAbs ≤ x.natAbs → sgZ b1 (x.natAbs - y.natAbs) = x + y) := Lib.hid (fun h h2 => by rw [HB1.out, HB2.out] at h; rw [HB1.out]; exact sgZ_less h h2)
  have HE3 : Hid (¬ b1 = b2 → x.natAbs ≤ y.natAbs → sgZ b2 (y.natAbs - x.natAbs) = x + y) := Lib.hid (fun h h2 => by rw [HB1.out, HB2.out] at h; rw [HB2.out, Int.add_comm]; exact sgZ_less (fun e => h e.symm) h2)
  have d0 := S0.blk_cell (i := 0) rfl 0
  have d1 := S0.blk_cell (i := 0) rfl 1
  have d2 := S0.blk_cell (i := 1) rfl 0
  have d3 := S0.blk_cell (i := 1) rfl 1
  clear S0 ha hb hx hy
  go_enter Tryz.func150, Tryz.ntmps150
  by_cases hbb : b1 = b2
  · have HX := Lib.hid (HE1.out hbb)
    have HOP := HAD
    have tbb : (b1 == b2) = true := by simpa using hbb
    have HBB := Lib.hid hbb
    clear hbb HS1 HS2 HCM HE1 HE2 HE3 HAD
    go_wp2_with fail
    clear d0 d1 d2 d3
    have HSD := Lib.hid HS0.out.drew
    refine wp_head_tail' 0 8 2 [] [0, 1, 2, 3, 4, 5] rfl (fun w' => w'.cell? ⟨W.heap.size, 0, none⟩ = some (.bool b1) ∧ w'.cell? ⟨W.heap.size, 1, none⟩ = some (.slice A1 n1 c1) ∧ w'.cell? ⟨W.heap.size + 1, 0, none⟩ = some (.bool b2) ∧ w'.cell? ⟨W.heap.size + 1, 1, none⟩ = some (.slice A2 n2 c2)) (by kernel_rfl) (by kernel_rfl) ⟨HSD.out.blk_cell (i := 0) rfl 0, HSD.out.blk_cell (i := 0) rfl 1, HSD.out.blk_cell (i := 1) rfl 0, HSD.out.blk_cell (i := 1) rfl 1⟩ ?_
    simp only [pick, List.filterMap_cons, List.filterMap_nil, List.getElem?_toArray, List.getElem?_cons_succ, List.getElem?_cons_zero]
    generalize hK : (fun w' : World => w'.cell? ⟨W.heap.size, 0, none⟩ = some (.bool b1) ∧ w'.cell? ⟨W.heap.size, 1, none⟩ = some (.slice A1 n1 c1) ∧ w'.cell? ⟨W.heap.size + 1, 0, none⟩ = some (.bool b2) ∧ w'.cell? ⟨W.heap.size + 1, 1, none⟩ = some (.slice A2 n2 c2)) = K
    have k0 : ∀ y' : Wd K, y'.w.cell? ⟨W.heap.size, 0, none⟩ = some (.bool b1) := by subst hK; exact fun y => y.h.1
    have k1 : ∀ y' : Wd K, y'.w.cell? ⟨W.heap.size, 1, none⟩ = some (.slice A1 n1 c1) := by subst hK; exact fun y => y.h.2.1
    have k2 : ∀ y' : Wd K, y'.w.cell? ⟨W.heap.size + 1, 0, none⟩ = some (.bool b2) := by subst hK; exact fun y => y.h.2.2.1
    have k3 : ∀ y' : Wd K, y'.w.cell? ⟨W.heap.size + 1, 1, none⟩ = some (.slice A2 n2 c2) := by subst hK; exact fun y => y.h.2.2.2
    have hK2 : ∀ (w' : World) (L : List Asr), St W w' (blk W.heap.size 112 #[.bool b1, .slice A1 n1 c1] :: blk (W.heap.size + 1) 112 #[.bool b2, .slice A2 n2 c2] :: L) → K w' := by
      subst hK
      exact fun w' L h => ⟨h.blk_cell (i := 0) rfl 0, h.blk_cell (i := 0) rfl 1, h.blk_cell (i := 1) rfl 0, h.blk_cell (i := 1) rfl 1⟩
    have hne : Nonempty (Wd K) := ⟨⟨_, hK2 _ _ HSD.out⟩⟩
    clear hK HS0
    generalize World.drew _ = wq at *
    refine wpQuiet_nil ?_
    change wpQuiet _ _ _ _ (_ :: _ :: _ :: _ :: _ :: _ :: []) _
    repeat (go_big_quiet_step ((fail)))
    refine wpQuiet_nil ?_
    clear k0 k1 k2 k3
    refine headW_all (rs := [6]) (by kernel_rfl) (by decide) (by decide) (List.forall_mem_cons.2 ⟨?_, List.forall_mem_nil _⟩)
    refine wpOp_list (o := _) rfl ?_
    intro Q' hQ'
    go_wp2_with fail
    refine (HOP.out _ HSD.out.bel).mono ?_
    rintro e w2 ⟨⟨v1, l1, rfl, hl1, ht1, h1⟩, hb2⟩
    have HSE := Lib.hid (hK2 _ _ (HSD.out.ext hb2))
    have hsg := rsignedZ_any w2 (Fresh wq w2) (fun b h => h.2) b1 v1 l1 _ hl1 ht1 h1
    rw [HX.out] at hsg
    have HSI := Lib.hid hsg
    have HX2 := Lib.hid hb2
    clear h1 hsg hb2 hl1 ht1 HX HOP
    go_wp2_with fail
    refine ⟨HSE.out, ?_⟩
    refine headW_all (rs := [7]) (by kernel_rfl) (by decide) (by decide) (List.forall_mem_cons.2 ⟨?_, List.forall_mem_nil _⟩)
    refine wpOp_list (o := _) rfl ?_
    intro Q' hQ'
    go_wp2_with fail
    refine HSI.out.mono ?_
    rintro e w3 ⟨⟨v2, rfl, h2⟩, hb3⟩
    obtain ⟨b3, A3, n3, c3, rfl, HB3, HN3, HR3⟩ := h2.open_
    have S3 := HSD.out.push (A := rds 1 (.slice A3 n3 c3) n3 ((digs (x + y).natAbs).map (Value.int .i64))) (HX2.out.trans (hb3.mono HX2.out.size)) (by have h := HR3.out; rw [HN3.out] at h ⊢; exact h) (fun b (hb : Fresh wq w2 b) => ⟨hb.1, Nat.lt_of_lt_of_le hb.2 hb3.size⟩)
    simp only [List.nil_append, List.cons_append] at S3
    have S4 := (S3.blk_set (i := 2) rfl 0 (.bool b3)).blk_set (i := 2) rfl 1 (.slice A3 n3 c3)
    simp only [List.set_cons_zero, List.set_cons_succ] at S4
    have HS4 := Lib.hid S4
    have HSE2 := Lib.hid (hK2 _ _ S3)
    have d0 := S3.blk_cell (i := 2) rfl 0
    have d1 := S3.blk_cell (i := 2) rfl 1
    have z0 := S3.blk_frozen (i := 2) rfl 0
    have z1 := S3.blk_frozen (i := 2) rfl 1
    clear S3 S4 hb3 h2 hK2 hne
    go_wp2_with fail
    refine ⟨HSE2.out, by kernel_rfl, ?_⟩
    go_wp2_with fail
    refine NoPanic.normal ?_
    go_wp2
    exact bodyPost_ret (res_bigF _ 4 _ _ (W.heap.size + 2) b3 (.slice A3 n3 c3) Tryz.results150 rfl (HS4.out.blk_cell (i := 2) rfl 0) (HS4.out.blk_cell (i := 2) rfl 1)) rfl ⟨⟨_, rfl, b3, _, rfl, HB3.out, by
      have h := HS4.out.rds_rd (i := 3) rfl
      rw [HN3.out] at h ⊢
      exact h⟩, HS4.out.bel⟩
  · have tbb : (b1 == b2) = false := by simpa using hbb
    go_wp2_with fail
    clear d0 d1 d2 d3 tbb
    refine (HCM.out _ HS0.out.bel).mono ?_
    rintro e w9 ⟨rfl, hb9⟩
    have S9 := HS0.out.ext hb9
    have HS0 := Lib.hid S9
    have d0 := S9.blk_cell (i := 0) rfl 0
    have d1 := S9.blk_cell (i := 0) rfl 1
    have d2 := S9.blk_cell (i := 1) rfl 0
    have d3 := S9.blk_cell (i := 1) rfl 1
    clear S9 hb9
    by_cases hle : y.natAbs ≤ x.natAbs
    · have tc : ∃ q : Int, cmpN x.natAbs y.natAbs = q ∧ 0 ≤ q ∧ decide (0 ≤ q) = true := by
        unfold cmpN
        rw [if_neg (by omega)]
        split
        · exact ⟨0, rfl, by decide, rfl⟩
        · exact ⟨1, rfl, by decide, rfl⟩
      obtain ⟨q, hq, hq0, tq⟩ := tc
      rw [hq]
      have HX := Lib.hid (HE2.out hbb hle)
      have HOP := Lib.hid (fun w hw => HS1.out w hw hle)
      clear hq hle hbb HS1 HS2 HE1 HE2 HE3 HAD HCM
      go_wp2_with fail
      clear d0 d1 d2 d3
      have HSD := Lib.hid HS0.out.drew
      refine wp_head_tail' 0 8 2 [] [0, 1, 2, 3, 4, 5] rfl (fun w' => w'.cell? ⟨W.heap.size, 0, none⟩ = some (.bool b1) ∧ w'.cell? ⟨W.heap.size, 1, none⟩ = some (.slice A1 n1 c1) ∧ w'.cell? ⟨W.heap.size + 1, 0, none⟩ = some (.bool b2) ∧ w'.cell? ⟨W.heap.size + 1, 1, none⟩ = some (.slice A2 n2 c2)) (by kernel_rfl) (by kernel_rfl) ⟨HSD.out.blk_cell (i := 0) rfl 0, HSD.out.blk_cell (i := 0) rfl 1, HSD.out.blk_cell (i := 1) rfl 0, HSD.out.blk_cell (i := 1) rfl 1⟩ ?_
      simp only [pick, List.filterMap_cons, List.filterMap_nil, List.getElem?_toArray, List.getElem?_cons_succ, List.getElem?_cons_zero]
      generalize hK : (fun w' : World => w'.cell? ⟨W.heap.size, 0, none⟩ = some (.bool b1) ∧ w'.cell? ⟨W.heap.size, 1, none⟩ = some (.slice A1 n1 c1) ∧ w'.cell? ⟨W.heap.size + 1, 0, none⟩ = some (.bool b2) ∧ w'.cell? ⟨W.heap.size + 1, 1, none⟩ = some (.slice A2 n2 c2)) = K
      have k0 : ∀ y' : Wd K, y'.w.cell? ⟨W.heap.size, 0, none⟩ = some (.bool b1) := by subst hK; exact fun y => y.h.1
      have k1 : ∀ y' : Wd K, y'.w.cell? ⟨W.heap.size, 1, none⟩ = some (.slice A1 n1 c1) := by subst hK; exact fun y => y.h.2.1
      have k2 : ∀ y' : Wd K, y'.w.cell? ⟨W.heap.size + 1, 0, none⟩ = some (.bool b2) := by subst hK; exact fun y => y.h.2.2.1
      have k3 : ∀ y' : Wd K, y'.w.cell? ⟨W.heap.size + 1, 1, none⟩ = some (.slice A2 n2 c2) := by subst hK; exact fun y => y.h.2.2.2
      have hK2 : ∀ (w' : World) (L : List Asr), St W w' (blk W.heap.size 112 #[.bool b1, .slice A1 n1 c1] :: blk (W.heap.size + 1) 112 #[.bool b2, .slice A2 n2 c2] :: L) → K w' := by
        subst hK
        exact fun w' L h => ⟨h.blk_cell (i := 0) rfl 0, h.blk_cell (i := 0) rfl 1, h.blk_cell (i := 1) rfl 0, h.blk_cell (i := 1) rfl 1⟩
      have hne : Nonempty (Wd K) := ⟨⟨_, hK2 _ _ HSD.out⟩⟩
      clear hK HS0
      generalize World.drew _ = wq at *
      refine wpQuiet_nil ?_
      change wpQuiet _ _ _ _ (_ :: _ :: _ :: _ :: _ :: _ :: []) _
      repeat (go_big_quiet_step ((fail)))
      refine wpQuiet_nil ?_
      clear k0 k1 k2 k3
      refine headW_all (rs := [6]) (by kernel_rfl) (by decide) (by decide) (List.forall_mem_cons.2 ⟨?_, List.forall_mem_nil _⟩)
      refine wpOp_list (o := _) rfl ?_
      intro Q' hQ'
      go_wp2_with fail
      refine (HOP.out _ HSD.out.bel).mono ?_
      rintro e w2 ⟨⟨v1, l1, rfl, hl1, ht1, h1⟩, hb2⟩
      have HSE := Lib.hid (hK2 _ _ (HSD.out.ext hb2))
      have hsg := rsignedZ_any w2 (Fresh wq w2) (fun b h => h.2) b1 v1 l1 _ hl1 ht1 h1
      rw [HX.out] at hsg
      have HSI := Lib.hid hsg
      have HX2 := Lib.hid hb2
      clear h1 hsg hb2 hl1 ht1 HX HOP
      go_wp2_with fail
      refine ⟨HSE.out, ?_⟩
      refine headW_all (rs := [7]) (by kernel_rfl) (by decide) (by decide) (List.forall_mem_cons.2 ⟨?_, List.forall_mem_nil _⟩)
      refine wpOp_list (o := _) rfl ?_
      intro Q' hQ'
      go_wp2_with fail
      refine HSI.out.mono ?_
      rintro e w3 ⟨⟨v2, rfl, h2⟩, hb3⟩
      obtain ⟨b3, A3, n3, c3, rfl, HB3, HN3, HR3⟩ := h2.open_
      have S3 := HSD.out.push (A := rds 1 (.slice A3 n3 c3) n3 ((digs (x + y).natAbs).map (Value.int .i64))) (HX2.out.trans (hb3.mono HX2.out.size)) (by have h := HR3.out; rw [HN3.out] at h ⊢; exact h) (fun b (hb : Fresh wq w2 b) => ⟨hb.1, Nat.lt_of_lt_of_le hb.2 hb3.size⟩)
      simp only [List.nil_append, List.cons_append] at S3
      have S4 := (S3.blk_set (i := 2) rfl 0 (.bool b3)).blk_set (i := 2) rfl 1 (.slice A3 n3 c3)
      simp only [List.set_cons_zero, List.set_cons_succ] at S4
      have HS4 := Lib.hid S4
      have HSE2 := Lib.hid (hK2 _ _ S3)
      have d0 := S3.blk_cell (i := 2) rfl 0
      have d1 := S3.blk_cell (i := 2) rfl 1
      have z0 := S3.blk_frozen (i := 2) rfl 0
      have z1 := S3.blk_frozen (i := 2) rfl 1
      clear S3 S4 hb3 h2 hK2 hne
      go_wp2_with fail
      refine ⟨HSE2.out, by kernel_rfl, ?_⟩
      go_wp2_with fail
      refine NoPanic.normal ?_
      go_wp2
      exact bodyPost_ret (res_bigF _ 4 _ _ (W.heap.size + 2) b3 (.slice A3 n3 c3) Tryz.results150 rfl (HS4.out.blk_cell (i := 2) rfl 0) (HS4.out.blk_cell (i := 2) rfl 1)) rfl ⟨⟨_, rfl, b3, _, rfl, HB3.out, by
        have h := HS4.out.rds_rd (i := 3) rfl
        rw [HN3.out] at h ⊢
        exact h⟩, HS4.out.bel⟩
    · have tc : cmpN x.natAbs y.natAbs = -1 := by unfold cmpN; rw [if_pos (by omega)]
      rw [tc]
      have HX := Lib.hid (HE3.out hbb (by omega))
      have HOP := Lib.hid (fun w hw => HS2.out w hw (by omega))
      clear tc hle hbb HS1 HS2 HE1 HE2 HE3 HAD HCM
      go_wp2_with fail
      clear d0 d1 d2 d3
      have HSD := Lib.hid HS0.out.drew
      refine wp_head_tail' 0 8 2 [] [0, 1, 2, 3, 4, 5] rfl (fun w' => w'.cell? ⟨W.heap.size, 0, none⟩ = some (.bool b1) ∧ w'.cell? ⟨W.heap.size, 1, none⟩ = some (.slice A1 n1 c1) ∧ w'.cell? ⟨W.heap.size + 1, 0, none⟩ = some (.bool b2) ∧ w'.cell? ⟨W.heap.size + 1, 1, none⟩ = some (.slice A2 n2 c2)) (by kernel_rfl) (by kernel_rfl) ⟨HSD.out.blk_cell (i := 0) rfl 0, HSD.out.blk_cell (i := 0) rfl 1, HSD.out.blk_cell (i := 1) rfl 0, HSD.out.blk_cell (i := 1) rfl 1⟩ ?_
      simp only [pick, List.filterMap_cons, List.filterMap_nil, List.getElem?_toArray, List.getElem?_cons_succ, List.getElem?_cons_zero]
      generalize hK : (fun w' : World => w'.cell? ⟨W.heap.size, 0, none⟩ = some (.bool b1) ∧ w'.cell? ⟨W.heap.size, 1, none⟩ = some (.slice A1 n1 c1) ∧ w'.cell? ⟨W.heap.size + 1, 0, none⟩ = some (.bool b2) ∧ w'.cell? ⟨W.heap.size + 1, 1, none⟩ = some (.slice A2 n2 c2)) = K
      have k0 : ∀ y' : Wd K, y'.w.cell? ⟨W.heap.size, 0, none⟩ = some (.bool b1) := by subst hK; exact fun y => y.h.1
      have k1 : ∀ y' : Wd K, y'.w.cell? ⟨W.heap.size, 1, none⟩ = some (.slice A1 n1 c1) := by subst hK; exact fun y => y.h.2.1
      have k2 : ∀ y' : Wd K, y'.w.cell? ⟨W.heap.size + 1, 0, none⟩ = some (.bool b2) := by subst hK; exact fun y => y.h.2.2.1
      have k3 : ∀ y' : Wd K, y'.w.cell? ⟨W.heap.size + 1, 1, none⟩ = some (.slice A2 n2 c2) := by subst hK; exact fun y => y.h.2.2.2
      have hK2 : ∀ (w' : World) (L : List Asr), St W w' (blk W.heap.size 112 #[.bool b1, .slice A1 n1 c1] :: blk (W.heap.size + 1) 112 #[.bool b2, .slice A2 n2 c2] :: L) → K w' := by
        subst hK
        exact fun w' L h => ⟨h.blk_cell (i := 0) rfl 0, h.blk_cell (i := 0) rfl 1, h.blk_cell (i := 1) rfl 0, h.blk_cell (i := 1) rfl 1⟩
      have hne : Nonempty (Wd K) := ⟨⟨_, hK2 _ _ HSD.out⟩⟩
      clear hK HS0
      generalize World.drew _ = wq at *
      refine wpQuiet_nil ?_
      change wpQuiet _ _ _ _ (_ :: _ :: _ :: _ :: _ :: _ :: []) _
      repeat (go_big_quiet_step ((fail)))
      refine wpQuiet_nil ?_
      clear k0 k1 k2 k3
      refine headW_all (rs := [6]) (by kernel_rfl) (by decide) (by decide) (List.forall_mem_cons.2 ⟨?_, List.forall_mem_nil _⟩)
      refine wpOp_list (o := _) rfl ?_
      intro Q' hQ'
      go_wp2_with fail
      refine (HOP.out _ HSD.out.bel).mono ?_
      rintro e w2 ⟨⟨v1, l1, rfl, hl1, ht1, h1⟩, hb2⟩
      have HSE := Lib.hid (hK2 _ _ (HSD.out.ext hb2))
      have hsg := rsignedZ_any w2 (Fresh wq w2) (fun b h => h.2) b2 v1 l1 _ hl1 ht1 h1
      rw [HX.out] at hsg
      have HSI := Lib.hid hsg
      have HX2 := Lib.hid hb2
      clear h1 hsg hb2 hl1 ht1 HX HOP
      go_wp2_with fail
      refine ⟨HSE.out, ?_⟩
      refine headW_all (rs := [7]) (by kernel_rfl) (by decide) (by decide) (List.forall_mem_cons.2 ⟨?_, List.forall_mem_nil _⟩)
      refine wpOp_list (o := _) rfl ?_
      intro Q' hQ'
      go_wp2_with fail
      refine HSI.out.mono ?_
      rintro e w3 ⟨⟨v2, rfl, h2⟩, hb3⟩
      obtain ⟨b3, A3, n3, c3, rfl, HB3, HN3, HR3⟩ := h2.open_
      have S3 := HSD.out.push (A := rds 1 (.slice A3 n3 c3) n3 ((digs (x + y).natAbs).map (Value.int .i64))) (HX2.out.trans (hb3.mono HX2.out.size)) (by have h := HR3.out; rw [HN3.out] at h ⊢; exact h) (fun b (hb : Fresh wq w2 b) => ⟨hb.1, Nat.lt_of_lt_of_le hb.2 hb3.size⟩)
      simp only [List.nil_append, List.cons_append] at S3
      have S4 := (S3.blk_set (i := 2) rfl 0 (.bool b3)).blk_set (i := 2) rfl 1 (.slice A3 n3 c3)
      simp only [List.set_cons_zero, List.set_cons_succ] at S4
      have HS4 := Lib.hid S4
      have HSE2 := Lib.hid (hK2 _ _ S3)
      have d0 := S3.blk_cell (i := 2) rfl 0
      have d1 := S3.blk_cell (i := 2) rfl 1
      have z0 := S3.blk_frozen (i := 2) rfl 0
      have z1 := S3.blk_frozen (i := 2) rfl 1
      clear S3 S4 hb3 h2 hK2 hne
      go_wp2_with fail
      refine ⟨HSE2.out, by kernel_rfl, ?_⟩
      go_wp2_with fail
      refine NoPanic.normal ?_
      go_wp2
      exact bodyPost_ret (res_bigF _ 4 _ _ (W.heap.size + 2) b3 (.slice A3 n3 c3) Tryz.results150 rfl (HS4.out.blk_cell (i := 2) rfl 0) (HS4.out.blk_cell (i := 2) rfl 1)) rfl ⟨⟨_, rfl, b3, _, rfl, HB3.out, by
        have h := HS4.out.rds_rd (i := 3) rfl
        rw [HN3.out] at h ⊢
        exact h⟩, HS4.out.bel⟩
end Go.Proofs.YtlffgdmljioaoaaGreatDoor
/- Walks of the reference's big numbers: text. -/
namespace Go.Sheet
open Go.Proofs.YtlffgdmljioaoaaGreatDoor
theorem digs_top {x m : Nat} (h : (digs x).length = m + 1) : 0 < valD ((digs x).drop m) := by
  have h1 := valD_split (digs x) m (by omega)
  rw [digs_val] at h1
  have h2 : ¬ x < 1000000000 ^ m := fun h0 => by have := (digs_len m x).2 h0; omega
  have h3 : valD ((digs x).take m) < 1000000000 ^ m := by
    have := valD_lt (l := (digs x).take m) (fun d hd => digs_dig x d (List.mem_of_mem_take hd))
    rwa [List.length_take, Nat.min_eq_left (by omega)] at this
  rcases Nat.eq_zero_or_pos (valD ((digs x).drop m)) with h0 | h0
  · rw [h0, Nat.mul_zero] at h1; omega
  · exact h0
theorem drop_val {l : List Int} {j : Nat} {x : Int} (hx : l[j]? = some x) : valD (l.drop j) = x.toNat + 1000000000 * valD (l.drop (j + 1)) := by
  obtain ⟨hj, rfl⟩ := List.getElem?_eq_some_iff.1 hx
  rw [List.drop_eq_getElem_cons hj]
  rfl
theorem drop_le (l : List Int) (i : Nat) : valD (l.drop i) ≤ valD l := by
  rcases Nat.lt_or_ge l.length i with h | h
  · rw [List.drop_of_length_le (by omega)]; exact Nat.zero_le _
  · rw [valD_split l i h]
    have : 1 * valD (l.drop i) ≤ 1000000000 ^ i * valD (l.drop i) := Nat.mul_le_mul_right _ (Nat.pow_pos (by omega))
    omega
theorem decW_next {l : List Int} (hl : DigD l) {j : Nat} {x : Int} (hx : l[j]? = some x) (hp : 0 < valD (l.drop (j + 1))) : decW 1 (valD (l.drop (j + 1))) ++ decW 9 x.toNat = decW 1 (valD (l.drop j)) ∧ 0 < valD (l.drop j) := by
  have hd := hl x (List.mem_of_getElem? hx)
  rw [drop_val hx]
  refine ⟨?_, by omega⟩
  rw [← decW_app 9 _ _ hp (by omega), show (10 : Nat) ^ 9 = 1000000000 by rfl, Nat.mul_comm 1000000000, Nat.add_comm]
end Go.Sheet
namespace Go.Proofs.YtlffgdmljioaoaaGreatDoor
open Go.RowKit Go.Mem Go.Sheet
set_option maxRecDepth 100000 in
set_option maxHeartbeats 1000000 in
theorem rtext_any (W : World) (v : Value) (z : Int) (hz : z.natAbs < 1000000000000000000) (h : BigV W v z) :
    Calls Tryz.prog 71 #[v] W fun e w' => e = .returned (.string (tB (Lib.itoa z))) ∧ Below W.heap.size W w' := by
  obtain ⟨b, A, n, c, rfl, HB, HN, HR⟩ := BigF.open_ h
  have S0 := (St.refl W).blk_new #[.bool b, .slice A n c] 112
  simp only [List.nil_append] at S0
  have HBL := Lib.hid S0.bel
  have d0 := S0.blk_cell (i := 0) rfl 0
  have d1 := S0.blk_cell (i := 0) rfl 1
  have hr := RdD.later HR.out S0.bel
  have HDD := Lib.hid (digs_dig z.natAbs)
  have HIT := Lib.hid (itoa_cases z)
  clear S0 h
  unfold RdD at hr
  by_cases h0 : z = 0
  · subst h0
    obtain rfl : n = 0 := by rw [HN.out]; exact digs_nil.2 rfl
    have HI0 : Hid ((⟨#[48]⟩ : ByteArray) = tB (Lib.itoa 0)) := Lib.hid (by rw [HIT.out]; decide +kernel)
    clear hr HIT
    go_enter Tryz.func71, Tryz.ntmps71
    go_wp2_with fail
    go_ret
    exact ⟨by rw [← HI0.out]; rfl, HBL.out⟩
  · have hn0 : (digs z.natAbs).length ≠ 0 := fun e => by have := digs_nil.1 e; omega
    have hn2 : (digs z.natAbs).length ≤ 2 := (digs_len 2 _).2 hz
    have HVD := Lib.hid (digs_val z.natAbs)
    rw [← HN.out] at hn0 hn2 hr
    have HTOP := Lib.hid (fun m => digs_top (x := z.natAbs) (m := m))
    rw [← HN.out] at HTOP
    have hnl := HN.out
    clear HN
    generalize hl : digs z.natAbs = l at *
    have HNL := Lib.hid hnl
    clear hl hnl
    obtain ⟨m, rfl⟩ : ∃ m, n = m + 1 := ⟨n - 1, by omega⟩
    have HTP := Lib.hid (HTOP.out m rfl)
    have HRD := Lib.hid hr
    obtain ⟨b1, o1, x1, hA1, hx1, cx1⟩ := Rd.int (q := .i64) (l := l) hr (show m < m + 1 by omega)
    subst hA1
    obtain ⟨x, rfl⟩ : ∃ x : Nat, x1 = x := ⟨x1.toNat, by have := HDD.out x1 (List.mem_of_getElem? hx1); omega⟩
    have hxb := HDD.out _ (List.mem_of_getElem? hx1)
    have HV0 : Hid (decW 1 x = decW 1 (valD (l.drop m))) := Lib.hid (by
      have h1 : l.drop (m + 1) = [] := List.drop_of_length_le (by rw [HNL.out]; exact Nat.le_refl _)
      have h2 := drop_val hx1
      rw [h1] at h2
      rw [h2]
      simp [valD])
    have HDE := Lib.hid (fun w => rdecimal_any w x 1 (by omega) (by omega))
    clear hx1 hr h0 hn0
    go_enter Tryz.func71, Tryz.ntmps71
    go_wp2_with fail
    refine (HDE.out _).mono ?_
    rintro e w' ⟨rfl, rfl⟩
    rw [HV0.out]
    clear HDE HV0 cx1 hxb
    go_wp2_with fail
    go_loop [3, 4] (fun s i => ∃ (zz : Int) (k : Nat), i = .int .i64 zz ∧ zz = (k : Int) - 1 ∧ k ≤ m ∧ s = .string (tB (decW 1 (valD (l.drop k)))) ∧ Hid (0 < valD (l.drop k))) (fun _ i => (intOf i + 1).toNat)
    case atStart => exact ⟨_, m, rfl, by omega, Nat.le_refl _, rfl, HTP.out⟩
    case round =>
      obtain ⟨zz, k, rfl, hzz, hk, rfl, HP⟩ := hrel
      by_cases hz0 : zz < 0
      · obtain rfl : zz = -1 := by omega
        obtain rfl : k = 0 := by omega
        have hd0 : valD (l.drop 0) = z.natAbs := HVD.out
        rw [hd0]
        have HT : Hid (decW 1 z.natAbs = Lib.decDigits z.natAbs) := Lib.hid (decW_dec _)
        rw [HT.out]
        have hsz : (tB (Lib.decDigits z.natAbs)).size ≤ 18 := by rw [tB_size]; exact (dec_len 17 _).2 hz
        clear hzz hz0 hk hd0 HP
        cases hb : b with
        | true =>
          have HR1 : Hid (tB [45] ++ tB (Lib.decDigits z.natAbs) = tB (Lib.itoa z)) := Lib.hid (by
            have h := HB.out
            rw [hb] at h
            rw [tB_app, HIT.out, if_pos (of_decide_eq_true h.symm)]
            rfl)
          subst hb
          go_wp2_with fail
          go_ret
          exact ⟨by rw [← HR1.out]; rfl, HBL.out⟩
        | false =>
          have HR1 : Hid (tB (Lib.decDigits z.natAbs) = tB (Lib.itoa z)) := Lib.hid (by
            have h := HB.out
            rw [hb] at h
            rw [HIT.out, if_neg (of_decide_eq_false h.symm)])
          subst hb
          go_wp2_with fail
          go_ret
          exact ⟨by rw [← HR1.out]; rfl, HBL.out⟩
      · obtain ⟨j, rfl⟩ : ∃ j : Nat, zz = j := ⟨zz.toNat, by omega⟩
        obtain rfl : k = j + 1 := by omega
        obtain ⟨b2, o2, y1, hA2, hy1, cy1⟩ := Rd.int (q := .i64) (l := l) HRD.out (show j < m + 1 by omega)
        cases hA2
        obtain ⟨y, rfl⟩ : ∃ y : Nat, y1 = y := ⟨y1.toNat, by have := HDD.out y1 (List.mem_of_getElem? hy1); omega⟩
        have hyb := HDD.out _ (List.mem_of_getElem? hy1)
        obtain ⟨e1, e2⟩ := decW_next HDD.out hy1 HP.out
        have HNX : Hid (tB (decW 1 (valD (l.drop (j + 1)))) ++ tB (decW 9 y) = tB (decW 1 (valD (l.drop j)))) := Lib.hid (by rw [tB_app, ← e1]; rfl)
        have HDE := Lib.hid (fun w => rdecimal_any w y 9 (by omega) (by omega))
        have HP2 := Lib.hid e2
        have hs1 : (tB (decW 1 (valD (l.drop (j + 1))))).size ≤ 1000000000000000001 := by
          rw [tB_size]
          have h1 := decW_len 1 (valD (l.drop (j + 1)))
          have h2 := drop_le l (j + 1)
          have h3 := HVD.out
          omega
        have hs2 : (tB (decW 9 y)).size ≤ 1000000009 := by
          rw [tB_size]
          have h1 := decW_len 9 y
          omega
        clear hy1 e1 e2 hzz hz0 hyb HP
        go_wp2_with fail
        refine (HDE.out _).mono ?_
        rintro e w' ⟨rfl, rfl⟩
        go_wp2_with fail
        go_round
        case rel => exact ⟨_, j, rfl, rfl, by omega, by rw [HNX.out], HP2.out⟩
        case measure => simp [intOf]
end Go.Proofs.YtlffgdmljioaoaaGreatDoor
/- Walks of the reference's big numbers: fraction. -/
namespace Go.Sheet
open Go.Proofs.YtlffgdmljioaoaaGreatDoor
theorem div_sgZ (x : Int) {g : Nat} (_hg : 1 ≤ g) (hd : g ∣ x.natAbs) : x / (g : Int) = sgZ (decide (x < 0)) (x.natAbs / g) := by
  obtain ⟨k, hk⟩ := hd
  have hgp : 0 < g := by omega
  rw [hk, Nat.mul_div_cancel_left _ hgp]
  unfold sgZ
  by_cases h : x < 0
  · rw [decide_eq_true h, if_pos rfl]
    have e : x = (g : Int) * (-(k : Int)) := by
      rw [Int.mul_neg, ← Int.natCast_mul, ← hk]; omega
    rw [e, Int.mul_ediv_cancel_left _ (by omega)]
  · rw [decide_eq_false h, if_neg (by decide)]
    have e : x = (g : Int) * (k : Int) := by
      rw [← Int.natCast_mul, ← hk]; omega
    rw [e, Int.mul_ediv_cancel_left _ (by omega)]
end Go.Sheet
namespace Go.Proofs.YtlffgdmljioaoaaGreatDoor
open Go.RowKit Go.Mem Go.Sheet
set_option maxRecDepth 100000 in
set_option maxHeartbeats 2000000 in
theorem rfraction_any (W : World) (va vb : Value) (x y : Int) (hx : x.natAbs < 1000000000000000000) (hy : 1 ≤ y ∧ y < 1000000000) (ha : BigV W va x) (hb : BigV W vb y) :
    Calls Tryz.prog 74 #[va, vb] W fun e w' => e = .returned (.string (tB (txtL x y))) ∧ Below W.heap.size W w' := by
  obtain ⟨b1, A1, n1, c1, rfl, HB1, HN1, HR1⟩ := BigF.open_ ha
  obtain ⟨b2, A2, n2, c2, rfl, HB2, HN2, HR2⟩ := BigF.open_ hb
  obtain rfl : b2 = false := by rw [HB2.out, decide_eq_false (by omega)]
  obtain ⟨Y, rfl⟩ : ∃ Y : Nat, y = Y := ⟨y.toNat, by omega⟩
  have hY : 1 ≤ Y ∧ Y < 1000000000 := by omega
  obtain ⟨g, hg⟩ : ∃ g, g = Nat.gcd x.natAbs Y := ⟨_, rfl⟩
  have hgd1 : g ∣ x.natAbs := by rw [hg]; exact Nat.gcd_dvd_left _ _
  have hgd2 : g ∣ Y := by rw [hg]; exact Nat.gcd_dvd_right _ _
  have hg1 : 1 ≤ g := Nat.pos_of_dvd_of_pos hgd2 (by omega)
  have hgY : g ≤ Y := Nat.le_of_dvd (by omega) hgd2
  obtain ⟨q, hq⟩ : ∃ q, q = Y / g := ⟨_, rfl⟩
  have hq1 : 1 ≤ q := by rw [hq]; exact Nat.div_pos hgY (by omega)
  have hq2 : q < 1000000000 := by rw [hq]; exact Nat.lt_of_le_of_lt (Nat.div_le_self _ _) hY.2
  have hp2 : x.natAbs / g < 1000000000000000000 := Nat.lt_of_le_of_lt (Nat.div_le_self _ _) hx
  have HTX : Hid (txtL x Y = Lib.itoa (sgZ b1 (x.natAbs / g)) ++ (if q = 1 then [] else 47 :: Lib.itoa (q : Int))) := Lib.hid (by
    unfold txtL
    rw [show ((Y : Int)).natAbs = Y by omega, ← hg, div_sgZ x hg1 hgd1, HB1.out]
    have e : (Y : Int) / (g : Int) = (q : Int) := by rw [hq]; exact (Int.natCast_ediv Y g).symm
    rw [e]
    have e2 : ((q : Int) = 1) = (q = 1) := by apply propext; omega
    simp only [e2])
  have S0 := ((St.refl W).blk_new #[.bool b1, .slice A1 n1 c1] 112).blk_new #[.bool false, .slice A2 n2 c2] 112
  simp only [List.nil_append, List.cons_append, World.size_alloc] at S0
  have HS0 := Lib.hid S0
  have HD2 : Hid ((digs x.natAbs).length ≤ 100) := Lib.hid (Nat.le_trans ((digs_len 2 _).2 hx) (by omega))
  have HDY : Hid ((digs Y).length ≤ 100) := Lib.hid (Nat.le_trans ((digs_len 1 _).2 (by omega)) (by omega))
  have HDP : Hid ((digs (x.natAbs / g)).length ≤ 1000) := Lib.hid (Nat.le_trans ((digs_len 2 _).2 hp2) (by omega))
  have HDQ : Hid ((digs q).length ≤ 1000) := Lib.hid (Nat.le_trans ((digs_len 1 _).2 (by omega)) (by omega))
  have HRX := Lib.hid (fun w (hw : Below W.heap.size W w) => RdD.later HR1.out hw)
  have HRY := Lib.hid (fun w (hw : Below W.heap.size W w) => RdD.later HR2.out hw)
  rw [show ((Y : Int)).natAbs = Y by omega] at HRY
  have d0 := S0.blk_cell (i := 0) rfl 0
  have d1 := S0.blk_cell (i := 0) rfl 1
  have d2 := S0.blk_cell (i := 1) rfl 0
  have d3 := S0.blk_cell (i := 1) rfl 1
  clear S0 ha hb hx hgd1 hgd2
  go_enter Tryz.func74, Tryz.ntmps74
  go_wp2_with fail
  refine (rcommon_any _ _ _ x.natAbs Y hY.2 HD2.out (HRX.out _ HS0.out.bel) (HRY.out _ HS0.out.bel)).mono ?_
  rintro e w1 ⟨⟨vg, rfl, hrg⟩, hb1⟩
  rw [← hg] at hrg
  obtain ⟨Ag, cg, rfl, _, _, _⟩ := Rd.open_ hrg
  generalize hng : (digs g).length = ng at *
  have HRG := Lib.hid hrg
  have S1 := HS0.out.ext hb1
  have HS1 := Lib.hid S1
  clear d0 d1 d2 d3 HS0 hrg hb1 hng hg
  have d0 := S1.blk_cell (i := 0) rfl 0
  have d1 := S1.blk_cell (i := 0) rfl 1
  have d2 := S1.blk_cell (i := 1) rfl 0
  have d3 := S1.blk_cell (i := 1) rfl 1
  clear S1
  go_wp2_with fail
  refine (rdivDs_any w1 _ _ x.natAbs g ⟨hg1, by omega⟩ HD2.out (HRX.out _ HS1.out.bel) HRG.out).mono ?_
  rintro e w2 ⟨⟨v1, v2, rfl, hr1, _⟩, hb2⟩
  have HP1 := Lib.hid hr1
  have HRG2 := Lib.hid (HRG.out.later hb2)
  have S2 := HS1.out.ext hb2
  have HS2 := Lib.hid S2
  clear d0 d1 d2 d3 HS1 HRG hr1 hb2
  have d0 := S2.blk_cell (i := 0) rfl 0
  have d1 := S2.blk_cell (i := 0) rfl 1
  have d2 := S2.blk_cell (i := 1) rfl 0
  have d3 := S2.blk_cell (i := 1) rfl 1
  clear S2
  go_wp2_with fail
  refine (rdivDs_any w2 _ _ Y g ⟨hg1, by omega⟩ HDY.out (HRY.out _ HS2.out.bel) HRG2.out).mono ?_
  rintro e w3 ⟨⟨v3, v4, rfl, hr3, _⟩, hb3⟩
  rw [← hq] at hr3
  have HP2 := Lib.hid (HP1.out.later hb3)
  have HQ1 := Lib.hid hr3
  have S3 := HS2.out.ext hb3
  have HS3 := Lib.hid S3
  clear d0 d1 d2 d3 HS2 HRG2 hr3 hb3 HP1 hq
  have d0 := S3.blk_cell (i := 0) rfl 0
  have d1 := S3.blk_cell (i := 0) rfl 1
  have d2 := S3.blk_cell (i := 1) rfl 0
  have d3 := S3.blk_cell (i := 1) rfl 1
  clear S3
  go_wp2_with fail
  refine (rsignedZ_any w3 (· < w3.heap.size) (fun b h => h) b1 v1 _ (x.natAbs / g) HDP.out (by rw [trimL_digs (digs_dig _), digs_val]) HP2.out).mono ?_
  rintro e w4 ⟨⟨v5, rfl, hr5⟩, hb4⟩
  have HV5 := Lib.hid hr5.big
  have HQ2 := Lib.hid (HQ1.out.later hb4)
  have S4 := HS3.out.ext hb4
  have HS4 := Lib.hid S4
  clear d0 d1 d2 d3 HS3 hb4 HP2 HQ1 hr5 S4
  go_wp2_with fail
  refine (rtext_any w4 _ _ (by rw [sgZ_abs]; exact hp2) HV5.out).mono ?_
  rintro e w5 ⟨rfl, hb5⟩
  have hq5 := HQ2.out.later hb5
  obtain ⟨Aq, cq, rfl, _, _, _⟩ := Rd.open_ hq5
  generalize hnq : (digs q).length = nq at *
  obtain ⟨rfl, bq, oq, hAq, cq0, _⟩ := rdD_one ⟨hq1, hq2⟩ hq5
  subst hAq
  have HBL := Lib.hid ((HS4.out.ext hb5).bel)
  have HQ5 := Lib.hid hq5
  have hlp : (tB (Lib.itoa (sgZ b1 (x.natAbs / g)))).size ≤ 19 := by
    rw [tB_size]; exact itoa_len19 (by rw [sgZ_abs]; exact hp2)
  clear hb5 HS4 HV5 HQ2 hq5 hnq
  generalize sgZ b1 (x.natAbs / g) = P at *
  by_cases hq0 : q = 1
  · subst hq0
    have HR : Hid (txtL x Y = Lib.itoa P) := Lib.hid (by rw [HTX.out, if_pos rfl, List.append_nil])
    go_wp2_with fail
    go_ret
    exact ⟨by rw [HR.out]; rfl, HBL.out⟩
  · have tq : ((q : Int) == 1) = false := by simp; omega
    have HR : Hid (txtL x Y = (Lib.itoa P ++ [47]) ++ Lib.itoa (q : Int)) := Lib.hid (by rw [HTX.out, if_neg hq0]; simp)
    have tq2 : (q == 1) = false := by simp; omega
    clear hq0
    go_wp2_with fail
    have hlq : (digs q).length ≤ 1000 := by rw [digs_one ⟨hq1, hq2⟩]; simp
    refine (rsignedZ_any w5 (· < w5.heap.size) (fun b h => h) false _ _ q hlq (by rw [trimL_digs (digs_dig _), digs_val]) HQ5.out).mono ?_
    rintro e w6 ⟨⟨v6, rfl, hr6⟩, hb6⟩
    rw [show sgZ false q = (q : Int) from rfl] at hr6
    have HV6 := Lib.hid hr6.big
    have HB6 := Lib.hid (HBL.out.trans (hb6.mono HBL.out.size))
    clear hr6 hb6 cq0 hlq
    go_wp2_with fail
    refine (rtext_any w6 _ _ (by omega) HV6.out).mono ?_
    rintro e w7 ⟨rfl, hb7⟩
    have HB7 := Lib.hid (HB6.out.trans (hb7.mono HB6.out.size))
    have hlq2 : (tB (Lib.itoa (q : Int))).size ≤ 19 := by
      rw [tB_size]; exact itoa_len19 (by omega)
    have HE1 : Hid (tB (Lib.itoa P) ++ tB [47] = tB (Lib.itoa P ++ [47])) := Lib.hid (tB_app _ _)
    have hle1 : (tB (Lib.itoa P ++ [47])).size ≤ 20 := by
      rw [← HE1.out, ByteArray.size_append, show (tB [47]).size = 1 from rfl]; omega
    have HE2 : Hid (tB (Lib.itoa P ++ [47]) ++ tB (Lib.itoa (q : Int)) = tB (txtL x Y)) := Lib.hid (by rw [tB_app, HR.out])
    clear hb7 HV6
    go_wp2_with fail
    go_ret
    exact ⟨by rw [← HE2.out, ← HE1.out]; rfl, HB7.out⟩
end Go.Proofs.YtlffgdmljioaoaaGreatDoor
