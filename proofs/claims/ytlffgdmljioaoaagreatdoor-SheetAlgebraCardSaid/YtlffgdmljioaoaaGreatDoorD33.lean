/- Part 33 of the walks of the golf union's program: QU3, QU4, QU5, QU6. -/
import Derived.Test.YtlffgdmljioaoaaGreatDoorD32
import Derived.Test.YtlffgdmljioaoaaGreatDoorD12
import Derived.Test.YtlffgdmljioaoaaGreatDoorD16
set_option linter.unusedVariables false
set_option linter.unusedSimpArgs false
set_option linter.unusedSectionVars false
set_option linter.constructorNameAsVariable false
/- Walks of the reference's big numbers: divDigits by one digit, common. -/
namespace Go.Proofs.YtlffgdmljioaoaaGreatDoor
open Go.RowKit Go.Mem Go.Sheet
theorem rdD_one {w : World} {A : Option Addr} {n c : Nat} {y : Nat} (hy : 1 ≤ y ∧ y < 1000000000) (h : RdD w (.slice A n c) y) : n = 1 ∧ ∃ b o, A = some ⟨b, o, none⟩ ∧ w.cell? ⟨b, o, none⟩ = some (.int .i64 (y : Int)) ∧ Rd w (· < w.heap.size) 1 (.slice A 1 c) 1 (([(y : Int)] : List Int).map (Value.int .i64)) := by
  unfold RdD at h
  rw [digs_one hy] at h
  obtain ⟨_, _, hv, _⟩ := id h
  injection hv with _ e _
  subst e
  obtain ⟨b, o, x, hA, hx, hc⟩ := Rd.int (q := .i64) (l := [(y : Int)]) h (k := 0) (by simp)
  refine ⟨rfl, b, o, hA, ?_, h⟩
  simp at hx
  subst hx
  simpa using hc
set_option maxRecDepth 100000 in
set_option maxHeartbeats 1000000 in
theorem rdivDs_any (W : World) (va vb : Value) (x y : Nat) (hy : 1 ≤ y ∧ y < 1000000000) (hla : (digs x).length ≤ 100) (ha : RdD W va x) (hb : RdD W vb y) :
    Calls Tryz.prog 113 #[va, vb] W fun e w' => (∃ v1 v2 : Value, e = .returned (.tuple #[v1, v2]) ∧ RdD w' v1 (x / y) ∧ RdD w' v2 (x % y)) ∧ Below W.heap.size W w' := by
  have HC0 := Lib.hid (rcmpD_any W va vb x y ha hb)
  have HDV := Lib.hid (fun w (hw : Below W.heap.size W w) => rdivD_any w va x y hy hla (ha.later hw))
  have HA := Lib.hid ha
  obtain ⟨A, c, rfl, _, _, _⟩ := Rd.open_ ha
  obtain ⟨A2, c2, rfl, _, _, _⟩ := Rd.open_ hb
  obtain ⟨hl1, b2, o2, hA2, cb, _⟩ := rdD_one hy hb
  subst hA2
  rw [hl1] at HC0 ⊢
  have HY := Lib.hid hy
  clear hl1 hb ha hla hy
  by_cases hlt : x < y
  · have HCV : Hid (cmpN x y = -1) := Lib.hid (by rw [cmpN, if_pos hlt])
    have HR1 : Hid (x / y = 0) := Lib.hid (Nat.div_eq_of_lt hlt)
    have HR2 : Hid (x % y = x) := Lib.hid (Nat.mod_eq_of_lt hlt)
    rw [HCV.out] at HC0
    generalize (digs x).length = na at *
    go_enter Tryz.func113, Tryz.ntmps113
    go_wp2_with fail
    refine HC0.out.mono ?_
    rintro e w0 ⟨rfl, hb0⟩
    go_wp2_with fail
    go_ret2
    exact ⟨⟨_, _, rfl, by rw [HR1.out]; exact rdD_nil _, by rw [HR2.out]; exact HA.out.later hb0⟩, hb0⟩
  · have HCV : Hid (∃ q : Int, cmpN x y = q ∧ decide (q < 0) = false) := Lib.hid ⟨_, rfl, by rw [cmpN, if_neg hlt]; split <;> rfl⟩
    obtain ⟨q, hq, tq⟩ := HCV.out
    rw [hq] at HC0
    clear HCV hq
    have HMB : Hid (x % y < 1000000000) := Lib.hid (Nat.lt_trans (Nat.mod_lt _ (by have := HY.out; omega)) HY.out.2)
    have HTR : Hid (trimL [((x % y : Nat) : Int)] = digs (x % y)) := Lib.hid (by
      rw [trimL_digs (fun z hz => by rw [List.mem_singleton.1 hz]; have := HMB.out; omega)]
      congr 1)
    clear hlt
    generalize hna : (digs x).length = na at *
    clear hna
    generalize hr : x % y = r at *
    clear hr
    go_enter Tryz.func113, Tryz.ntmps113
    go_wp2_with fail
    refine HC0.out.mono ?_
    rintro e w0 ⟨rfl, hb0⟩
    have cb0 : w0.cell? ⟨b2, o2, none⟩ = some (.int .i64 (y : Int)) := (hb0.cell (p := ⟨b2, o2, none⟩) (World.block_lt_of_cell? W _ cb)).trans cb
    have HB0 := Lib.hid hb0
    clear hb0 cb
    go_wp2_with fail
    refine (HDV.out w0 HB0.out).mono ?_
    rintro e w1 ⟨⟨v', rfl, hr1⟩, hb1⟩
    have HB1 := Lib.hid (HB0.out.trans (hb1.mono HB0.out.size))
    have HR1 := Lib.hid hr1
    obtain ⟨A', c', rfl, _, _, _⟩ := Rd.open_ hr1
    clear hr1 hb1
    have HS := Lib.hid ((St.refl w1).blk_new #[.int .i64 (r : Int)] 3)
    have HT := Lib.hid (rtrim_any (w1.alloc (.cells #[.int .i64 (r : Int)] 3)) (· < (w1.alloc (.cells #[.int .i64 (r : Int)] 3)).heap.size) (.slice (some ⟨w1.heap.size, 0, none⟩) 1 1) [(r : Int)] (by simp) ((rd_new w1 #[.int .i64 (r : Int)] 3 (m := 1) rfl (by omega) _ (by simp))))
    rw [HTR.out] at HT
    go_wp2_with fail
    refine HT.out.mono ?_
    rintro e w2 ⟨⟨v2, rfl, hr2⟩, rfl⟩
    have HB2 := Lib.hid (HS.out.bel)
    have HR2 := Lib.hid hr2
    clear hr2
    go_wp2
    go_ret2
    exact ⟨⟨_, _, rfl, HR1.out.later HB2.out, HR2.out⟩, HB1.out.trans (HB2.out.mono HB1.out.size)⟩
/-- the number of a slice of one digit -/
def topD (w : World) : Value → Nat
  | .slice (some a) (_ + 1) _ => match w.cell? a with
    | some (.int _ z) => z.toNat
    | _ => 0
  | _ => 0
theorem topD_of {w : World} {v : Value} {y : Nat} (h : RdD w v y) (hy : y < 1000000000) : topD w v = y := by
  obtain ⟨A, c, rfl, _, _, _⟩ := Rd.open_ h
  rcases Nat.eq_zero_or_pos y with h0 | h0
  · subst h0
    rw [digs_zero]
    show topD w (.slice A 0 c) = 0
    unfold topD
    split
    · rename_i e; injection e with _ e _; omega
    · rfl
  · obtain ⟨hl1, b, o, hA, hc, _⟩ := rdD_one ⟨h0, hy⟩ h
    subst hA
    rw [hl1]
    show (match w.cell? ⟨b, o, none⟩ with
      | some (.int _ z) => z.toNat
      | _ => 0) = y
    rw [hc]
    show ((y : Int)).toNat = y
    omega
set_option maxRecDepth 100000 in
set_option maxHeartbeats 1000000 in
theorem rcommon_any (W : World) (va vb : Value) (x y : Nat) (hy : y < 1000000000) (hla : (digs x).length ≤ 100) (ha : RdD W va x) (hb : RdD W vb y) :
    Calls Tryz.prog 68 #[va, vb] W fun e w' => (∃ v1 : Value, e = .returned v1 ∧ RdD w' v1 (Nat.gcd x y)) ∧ Below W.heap.size W w' := by
  obtain ⟨A, c, rfl, _, _, _⟩ := Rd.open_ ha
  obtain ⟨A2, c2, rfl, _, _, _⟩ := Rd.open_ hb
  have HA := Lib.hid ha
  have HB := Lib.hid hb
  have HX0 := Lib.hid hla
  clear ha hb hla
  generalize hna : (digs x).length = na at *
  generalize hnb : (digs y).length = nb at *
  have HNA := Lib.hid hna
  have HNB := Lib.hid hnb
  clear hna hnb
  go_enter Tryz.func68, Tryz.ntmps68
  go_wp2
  go_loopw [0, 1] (fun u v w' => ∃ (p q : Nat), q < 1000000000 ∧ Hid ((digs p).length ≤ 100) ∧ Hid (Nat.gcd p q = Nat.gcd x y) ∧ Hid (RdD w' u p) ∧ Hid (RdD w' v q) ∧ Below W.heap.size W w') (fun _ v w' => topD w' v)
  case atStart => exact ⟨x, y, hy, Lib.hid (by rw [HNA.out]; exact HX0.out), Lib.hid rfl, HA.out, HB.out, Below.refl _ _⟩
  case round =>
    obtain ⟨p, q, hq, HL, HG, HP, HQ, hbw⟩ := hrel
    have HBW := Lib.hid hbw
    clear hbw hy
    obtain ⟨A3, c3, rfl, _, _, _⟩ := Rd.open_ HP.out
    obtain ⟨A4, c4, rfl, _, _, _⟩ := Rd.open_ HQ.out
    rcases Nat.eq_zero_or_pos q with h0 | h0
    · subst h0
      have HR : Hid (Nat.gcd x y = p) := Lib.hid (by rw [← HG.out, Nat.gcd_zero_right])
      have hz : (digs 0).length = 0 := by rw [digs_zero]; rfl
      rw [hz]
      go_wp2
      go_ret
      exact ⟨⟨_, rfl, by rw [HR.out]; exact HP.out⟩, HBW.out⟩
    · have h1 : (digs q).length = 1 := by rw [digs_one ⟨h0, hq⟩]; rfl
      have HD := Lib.hid (rdivDs_any wr _ _ p q ⟨h0, hq⟩ HL.out HP.out HQ.out)
      have HG2 : Hid (Nat.gcd q (p % q) = Nat.gcd x y) := Lib.hid (by rw [← HG.out, Nat.gcd_comm q, ← Nat.gcd_rec, Nat.gcd_comm])
      have HTQ := Lib.hid (topD_of HQ.out hq)
      have hrd : p % q < q := Nat.mod_lt _ h0
      have HRD := Lib.hid hrd
      have HLQ : Hid ((digs q).length ≤ 100) := Lib.hid (by rw [h1]; decide)
      rw [h1] at HQ HD HTQ ⊢
      generalize (digs p).length = np at *
      go_wp2_with fail
      refine HD.out.mono ?_
      rintro e w2 ⟨⟨v1, v2, rfl, _, hr2⟩, hb2⟩
      have HR2 := Lib.hid hr2
      have HB2 := Lib.hid hb2
      have HQ2 := Lib.hid (HQ.out.later hb2)
      have HT2 := Lib.hid (topD_of hr2 (by omega))
      clear hr2 hb2 hrd
      go_wp2_with fail
      go_roundw
      case rel => exact ⟨q, p % q, by have := HRD.out; omega, HLQ, HG2, HQ2, HR2, HBW.out.trans (HB2.out.mono HBW.out.size)⟩
      case measure =>
        show topD _ _ < topD _ _
        rw [HT2.out, HTQ.out]
        exact HRD.out
end Go.Proofs.YtlffgdmljioaoaaGreatDoor
/- Walks of the reference's big numbers: mulDigits by one digit. -/
namespace Go.Sheet
theorem mul_at0 (m : List Int) (c : Int) (t : List Int) {i : Nat} (h : m.length = i) : (m ++ c :: t)[i]? = some c := by
  rw [List.getElem?_append_right (by omega), h, Nat.sub_self]; rfl
theorem mul_at1 (m : List Int) (c : Int) (p : Nat) {i : Nat} (h : m.length = i) : (m ++ c :: zerosL (p + 1))[i + 1]? = some 0 := by
  rw [List.getElem?_append_right (by omega), h, Nat.add_sub_cancel_left]; rfl
theorem mul_set0 (m : List Int) (c x : Int) (t : List Int) {i : Nat} (h : m.length = i) : (m ++ c :: t).set i x = m ++ x :: t := by
  rw [List.set_append_right _ _ (by omega), h, Nat.sub_self]; rfl
theorem mul_set1 (m : List Int) (c x : Int) (p : Nat) {i : Nat} (h : m.length = i) : (m ++ c :: zerosL (p + 1)).set (i + 1) x = (m ++ [c]) ++ x :: zerosL p := by
  rw [List.set_append_right _ _ (by omega), h, Nat.add_sub_cancel_left, List.append_assoc]; rfl
end Go.Sheet
namespace Go.Proofs.YtlffgdmljioaoaaGreatDoor
open Go.RowKit Go.Mem Go.Sheet
set_option maxRecDepth 100000 in
set_option maxHeartbeats 1000000 in
theorem rmulD_any (W : World) (va vb : Value) (x y : Nat) (hy : 1 ≤ y ∧ y < 1000000000) (hla : (digs x).length ≤ 100) (ha : RdD W va x) (hb : RdD W vb y) :
    Calls Tryz.prog 119 #[va, vb] W fun e w' => (∃ v' : Value, e = .returned v' ∧ RdF w' (fun b => W.heap.size ≤ b ∧ b < w'.heap.size) v' (x * y)) ∧ Below W.heap.size W w' := by
  have HA := Lib.hid ha
  obtain ⟨A, c, rfl, _, _, _⟩ := Rd.open_ ha
  obtain ⟨A2, c2, rfl, _, _, _⟩ := Rd.open_ hb
  obtain ⟨hl1, b2, o2, hA2, cb, _⟩ := rdD_one hy hb
  subst hA2
  rw [hl1]
  have HDX := Lib.hid (digs_dig x)
  have HDN : Hid (∀ m c, MulI (digs x) (y : Int) (digs x).length m c → trimL (m ++ [c]) = digs (x * y)) := Lib.hid (fun m c h => by
    have := h.done (by omega)
    rw [digs_val] at this
    exact this)
  clear ha hb hl1
  unfold RdD at HA
  generalize hla2 : digs x = a at *
  clear hla2
  generalize hna : a.length = na at *
  have HNA := Lib.hid hna
  clear hna
  have HS0 := Lib.hid (St.refl W)
  go_enter Tryz.func119, Tryz.ntmps119
  go_wp2_with (at_make; refine wpList_make_st eltI rfl _ _ rfl (n := na + 1) rfl rfl HS0.out (by omega) (by omega) ?_; intro wc g1 S1 _ _; rw [zeros_made] at S1; simp only [List.nil_append] at S1; have HS1 := Lib.hid S1; clear S1 HS0)
  go_loopw [6] (fun ix w' => ∃ (i p : Nat) (m : List Int) (c0 : Int), ix = .int .i64 i ∧ i + p = na ∧ Hid (MulI a (y : Int) i m c0) ∧ St W w' [row 3 1 (.slice (some ⟨g1, 0, none⟩) (na + 1) (na + 1)) (na + 1) (ints (m ++ c0 :: zerosL p))]) (fun ix _ => na - (intOf ix).toNat)
  case atStart => exact ⟨0, na, [], 0, rfl, by omega, Lib.hid (MulI.zero a (by omega)), HS1.out⟩
  case round =>
    obtain ⟨i, p, m, c0, rfl, hip, HV, S⟩ := hrel
    clear HS1
    by_cases hlt : i < na
    · obtain ⟨p, rfl⟩ : ∃ q, p = q + 1 := ⟨p - 1, by omega⟩
      have HSO := Lib.hid S
      obtain ⟨b1, o1, x1, hA1, hx1, cx1⟩ := Rd.int (q := .i64) (l := a) (HA.out.below S.bel) hlt
      subst hA1
      have CX : Hid (∀ w', Below W.heap.size W w' → w'.cell? ⟨b1, o1 + i, none⟩ = some (.int .i64 x1)) := Lib.hid (fun w' hb => by
        obtain ⟨b1', o1', x1', hA', hx', cx'⟩ := Rd.int (q := .i64) (l := a) (HA.out.below hb) hlt
        cases hA'
        rw [hx1] at hx'
        cases hx'
        exact cx')
      have CB : Hid (∀ w', Below W.heap.size W w' → w'.cell? ⟨b2, o2, none⟩ = some (.int .i64 (y : Int))) := Lib.hid (fun w' hb => (hb.cell (p := ⟨b2, o2, none⟩) (World.block_lt_of_cell? W _ cb)).trans cb)
      have g1b := HDX.out x1 (List.mem_of_getElem? hx1)
      have e1 : a.getD i 0 = x1 := by rw [List.getD_eq_getElem?_getD, hx1]; rfl
      have hc0 := HV.out.c0
      have hm1 : x1 * (y : Int) ≤ 999999999 * (y : Int) := Int.mul_le_mul_of_nonneg_right (by omega) (by omega)
      have hm0 : 0 ≤ x1 * (y : Int) := Int.mul_nonneg g1b.1 (by omega)
      obtain ⟨s, hs⟩ : ∃ s, s = c0 + x1 * (y : Int) := ⟨_, rfl⟩
      obtain ⟨d, hd⟩ : ∃ d, d = s % 1000000000 := ⟨_, rfl⟩
      obtain ⟨q, hq⟩ : ∃ q, q = s / 1000000000 := ⟨_, rfl⟩
      have HNX := Lib.hid (HV.out.step HDX.out (by omega) (by rw [e1]; exact hs) hd hq)
      have HML := Lib.hid HV.out.len
      have HL1 : Hid ((ints (m ++ c0 :: zerosL (p + 1))).set i (.int .i64 d) = ints (m ++ d :: zerosL (p + 1))) := Lib.hid (by rw [← mul_set0 m c0 d (zerosL (p + 1)) HML.out, ints, ints, List.map_set])
      have HL2 : Hid ((ints (m ++ d :: zerosL (p + 1))).set (i + 1) (.int .i64 q) = ints ((m ++ [d]) ++ q :: zerosL p)) := Lib.hid (by rw [← mul_set1 m d q p HML.out, ints, ints, List.map_set])
      have HC0 := Lib.hid (mul_at0 m c0 (zerosL (p + 1)) HML.out)
      have HC1 := Lib.hid (mul_at1 m d p HML.out)
      clear S hx1 e1 cx1
      have hw1 : IntKind.i64.wrap (x1 * (y : Int)) = x1 * (y : Int) := IntWalk.i64_in _ (by omega)
      have hm : Int.tmod (c0 + x1 * (y : Int)) 1000000000 = d := by rw [← hs, hd]; exact Int.tmod_eq_emod_of_nonneg (by omega)
      have hq2 : Int.tdiv (c0 + x1 * (y : Int)) 1000000000 = q := by rw [← hs, hq]; exact Int.tdiv_eq_ediv_of_nonneg (by omega)
      have hdb : 0 ≤ d ∧ d < 1000000000 := by omega
      have hqb : 0 ≤ q ∧ q < 1000000000 := by omega
      clear hs hd hq
      generalize hxy : x1 * (y : Int) = xy at *
      have HXY := Lib.hid hxy
      go_wp2_with fail
      go_loopw [7, 8] (fun cc kx w' => (cc = .int .i64 0 ∧ kx = .int .i64 0 ∧ St W w' [row 3 1 (.slice (some ⟨g1, 0, none⟩) (na + 1) (na + 1)) (na + 1) (ints (m ++ c0 :: zerosL (p + 1)))]) ∨ (cc = .int .i64 q ∧ kx = .int .i64 1 ∧ St W w' [row 3 1 (.slice (some ⟨g1, 0, none⟩) (na + 1) (na + 1)) (na + 1) (ints (m ++ d :: zerosL (p + 1)))])) (fun _ kx _ => 1 - (intOf kx).toNat)
      case atStart => exact .inl ⟨rfl, rfl, HSO.out⟩
      case round =>
        clear HSO
        rcases hrel with ⟨rfl, rfl, S⟩ | ⟨rfl, rfl, S⟩
        · obtain ⟨cz, fz⟩ := row_intQ S (i := 0) rfl HC0.out
          have cx1 := CX.out _ S.bel
          have cb1 := CB.out _ S.bel
          have HSS := Lib.hid S
          clear S
          go_wp2_with fail
          go_quiet (fail)
          have HS2 := Lib.hid (HSS.out.drewN nq)
          clear HSS cz fz cx1 cb1
          generalize wr.drewN nq = wy at *
          obtain ⟨cz, fz⟩ := row_intQ HS2.out (i := 0) rfl HC0.out
          have S3 := HS2.out.row_set (i := 0) rfl i (.int .i64 d)
          simp only [List.set_cons_zero] at S3
          rw [HL1.out] at S3
          have HS3 := Lib.hid S3
          clear S3
          go_wp2_with fail
          go_roundw
          case rel => exact .inr ⟨rfl, rfl, HS3.out⟩
          case measure => simp [intOf]
        · obtain ⟨cz, fz⟩ := row_intQ S (i := 0) rfl HC1.out
          have S3 := S.row_set (i := 0) rfl (i + 1) (.int .i64 q)
          simp only [List.set_cons_zero] at S3
          rw [HL2.out] at S3
          have HS3 := Lib.hid S3
          clear S3 S
          go_wp2_with fail
          go_roundw
          case rel => exact ⟨i + 1, p, m ++ [d], q, by go_num, by omega, HNX.out, HS3.out⟩
          case measure => simp [intOf]; omega
    · obtain rfl : i = na := by omega
      obtain rfl : p = 0 := by omega
      have tii : decide ((i : Int) < (i : Int)) = false := by simp
      have HR := Lib.hid (HDN.out m c0 HV.out)
      have HRT := Lib.hid (rtrim_any wr (fun b => W.heap.size ≤ b ∧ b < wr.heap.size) _ (m ++ [c0]) (by rw [List.length_append, HV.out.len]; simp; omega) (by
        have h := S.row_rd (i := 0) rfl
        rw [List.length_append, HV.out.len]
        exact h))
      have HBL := Lib.hid S.bel
      clear S
      go_wp2_with fail
      refine HRT.out.mono ?_
      rintro e w' ⟨⟨v', rfl, hr⟩, rfl⟩
      have HRR := Lib.hid (rdF_of HR.out hr)
      clear hr
      go_wp2
      go_ret
      exact ⟨⟨_, rfl, HRR.out⟩, HBL.out⟩
end Go.Proofs.YtlffgdmljioaoaaGreatDoor
/- Walks of the reference's big numbers: signed as a number, whole. -/
namespace Go.Sheet
def sgZ (b : Bool) (n : Nat) : Int := if b then -(n : Int) else n
theorem sgZ_abs (b : Bool) (n : Nat) : (sgZ b n).natAbs = n := by cases b <;> simp [sgZ]
theorem sgZ_neg (b : Bool) (n : Nat) : (b && decide (0 < (digs n).length)) = decide (sgZ b n < 0) := by
  have h : 0 < (digs n).length ↔ 0 < n := by have := digs_nil (n := n); omega
  cases b
  · simp [sgZ]
  · simp only [sgZ, Bool.true_and, if_true, decide_eq_decide, h]; omega
theorem sgZ_self (z : Int) : sgZ (decide (z < 0)) z.natAbs = z := by
  unfold sgZ
  by_cases h : z < 0
  · rw [decide_eq_true h, if_pos rfl]; omega
  · rw [decide_eq_false h]; simp; omega
end Go.Sheet
namespace Go.Mem
open Go.RowKit
/-- a row that is only read from here on, what is read of it kept apart from the rest -/
theorem St.read {W w : World} {L : List Asr} {i : Nat} {e : TypeId} {v : Value} {n : Nat} {xs : List Value} (S : St W w L) (hi : L[i]? = some (row e 1 v n xs)) :
    ∃ F : Nat → Prop, (∀ b, F b → W.heap.size ≤ b ∧ b < w.heap.size) ∧ Rd w F 1 v n xs ∧ ∀ w' v' n' xs', Below w.heap.size w w' → Rd w' F 1 v' n' xs' → St W w' (L.set i (rds 1 v' n' xs')) := by
  obtain ⟨F, h1, h2, h3⟩ := S.upd hi
  exact ⟨F, h1, row_holds_rd h2, fun w' v' n' xs' hb hr => h3 w' (rds 1 v' n' xs') F none hr ⟨hb.os, hb.tape, hb.output, hb.size, fun k hk _ => hb.block k hk⟩ (fun g hg => by cases hg) (fun b hb => .inl hb)⟩
/-- what is read of a limb -/
theorem St.rds_rd {W w : World} {L : List Asr} {i s n : Nat} {v : Value} {xs : List Value} (S : St W w L) (hi : L[i]? = some (rds s v n xs)) : Rd w (fun b => W.heap.size ≤ b ∧ b < w.heap.size) s v n xs := by
  obtain ⟨F, h1, h2⟩ := S.get hi
  exact Rd.mono h2 fun b _ hb => h1 b hb
end Go.Mem
namespace Go.Proofs.YtlffgdmljioaoaaGreatDoor
open Go.RowKit Go.Mem Go.Sheet
/-- a big number in memory -/
def BigF (w : World) (F : Nat → Prop) (v : Value) (z : Int) : Prop := ∃ (b : Bool) (s : Value), v = .agg #[.bool b, s] ∧ b = decide (z < 0) ∧ RdF w F s z.natAbs
def BigV (w : World) (v : Value) (z : Int) : Prop := BigF w (· < w.heap.size) v z
theorem BigF.mono {w : World} {F F' : Nat → Prop} {v : Value} {z : Int} (h : BigF w F v z) (hF : ∀ b, b < w.heap.size → F b → F' b) : BigF w F' v z := by
  obtain ⟨b, s, hv, hb, hs⟩ := h
  exact ⟨b, s, hv, hb, Rd.mono hs hF⟩
theorem BigF.big {w : World} {F : Nat → Prop} {v : Value} {z : Int} (h : BigF w F v z) : BigV w v z := h.mono fun _ hb _ => hb
theorem BigV.later {w w' : World} {v : Value} {z : Int} (h : BigV w v z) (hb : Below w.heap.size w w') : BigV w' v z := by
  obtain ⟨b, s, hv, hd, hs⟩ := h
  exact ⟨b, s, hv, hd, Rd.later hs hb⟩
theorem BigF.open_ {w : World} {F : Nat → Prop} {v : Value} {z : Int} (h : BigF w F v z) : ∃ b A n c, v = .agg #[.bool b, .slice A n c] ∧ Hid (b = decide (z < 0)) ∧ Hid (n = (digs z.natAbs).length) ∧ Hid (RdF w F (.slice A n c) z.natAbs) := by
  obtain ⟨b, s, hv, hb, hs⟩ := h
  obtain ⟨A, c, rfl, _, _, _⟩ := Rd.open_ hs
  exact ⟨b, A, _, c, hv, Lib.hid hb, Lib.hid rfl, Lib.hid hs⟩
theorem rsignedZ_any (W : World) (F : Nat → Prop) (hF : ∀ b, F b → b < W.heap.size) (b : Bool) (v : Value) (l : List Int) (n : Nat) (hl : l.length ≤ 1000) (hn : trimL l = digs n) (h : Rd W F 1 v l.length (l.map (Value.int .i64))) :
    Calls Tryz.prog 116 #[.bool b, v] W fun e w' => (∃ v', e = .returned v' ∧ BigF w' F v' (sgZ b n)) ∧ Below W.heap.size W w' := by
  refine (rsigned_any W F hF b v l hl h).mono ?_
  rintro e w' ⟨⟨v', rfl, hr⟩, hb⟩
  rw [hn, sgZ_neg]
  refine ⟨⟨_, rfl, _, v', rfl, rfl, ?_⟩, hb⟩
  rw [sgZ_abs]
  rw [hn] at hr
  exact hr
/-- the fresh blocks of a call -/
def Fresh (W w : World) : Nat → Prop := fun b => W.heap.size ≤ b ∧ b < w.heap.size
theorem res_bigF (f : Func) (k : Nat) (tmps : Array Value) (w : World) (g : Nat) (b : Bool) (v : Value) (hf : f.results = #[.cell k 112]) (hp : tmps.getD k undef = .pointer (some ⟨g, 0, none⟩)) (h0 : w.cell? ⟨g, 0, none⟩ = some (.bool b)) (h1 : w.cell? ⟨g, 1, none⟩ = some v) :
    (results f tmps).run Tryz.prog w = .ok (.agg #[.bool b, v]) w := res_big f k tmps w g b v hf hp h0 h1
set_option maxRecDepth 100000 in
set_option maxHeartbeats 1000000 in
theorem rwhole_any (W : World) (z : Int) (hz : -1000000000 < z ∧ z < 1000000000) :
    Calls Tryz.prog 72 #[.int .i64 z] W fun e w' => (∃ v', e = .returned v' ∧ BigF w' (Fresh W w') v' z) ∧ Below W.heap.size W w' := by
  have S0 := ((St.refl W).blk_new #[.bool false, .slice none 0 0] 112).row_nil 3 1
  simp only [List.nil_append, List.cons_append] at S0
  have HS0 := Lib.hid S0
  have HT0 : Hid (z = 0 → trimL [] = digs z.natAbs) := Lib.hid (fun h => by rw [h, trimL_nil]; exact digs_zero.symm)
  have HT1 : Hid (z ≠ 0 → trimL [(z.natAbs : Int)] = digs z.natAbs) := Lib.hid (fun h => by rw [digs_one (by omega)]; exact trimL_ne [] (by omega))
  clear S0
  obtain ⟨bn, hbn⟩ : ∃ bn, bn = decide (z < 0) := ⟨_, rfl⟩
  have HBN := Lib.hid hbn
  have HZ : Hid (sgZ bn z.natAbs = z) := Lib.hid (by rw [hbn]; exact sgZ_self z)
  go_enter Tryz.func72, Tryz.ntmps72
  go_wp2_with fail
  rw [← hbn]
  clear hbn
  go_loopw [0, 3] (fun n v w' => ∃ (x : Int) (l : List Int), n = .int .i64 x ∧ ((x = z ∧ l = []) ∨ (x = 0 ∧ z ≠ 0 ∧ l = [(z.natAbs : Int)])) ∧ St W w' [blk W.heap.size 112 #[.bool false, .slice none 0 0], row 3 1 v l.length (ints l)]) (fun n _ _ => (intOf n).natAbs)
  case atStart => exact ⟨z, [], rfl, .inl ⟨rfl, rfl⟩, HS0.out⟩
  case round =>
    obtain ⟨x, l, rfl, hx, S⟩ := hrel
    clear HS0
    by_cases hx0 : x = 0
    · subst hx0
      have HTR : Hid (trimL l = digs z.natAbs) := Lib.hid (by
        rcases hx with ⟨h, rfl⟩ | ⟨_, h, rfl⟩
        · exact HT0.out h.symm
        · exact HT1.out h)
      have hl1 : l.length ≤ 1 := by rcases hx with ⟨_, rfl⟩ | ⟨_, _, rfl⟩ <;> simp
      obtain ⟨F, hF1, hF2, hF3⟩ := S.read (i := 1) rfl
      have hSG := rsignedZ_any wr F (fun b h => (hF1 b h).2) bn u3 l z.natAbs (by omega) HTR.out hF2
      rw [HZ.out] at hSG
      have HSG := Lib.hid hSG
      have HF3 := Lib.hid hF3
      clear S hx hSG hF3
      go_wp2_with fail
      refine HSG.out.mono ?_
      rintro e w2 ⟨⟨v', rfl, hv⟩, hb⟩
      obtain ⟨b', A, n, c, rfl, HB', HN, HR⟩ := hv.open_
      have S2 := HF3.out w2 (.slice A n c) n ((digs z.natAbs).map (Value.int .i64)) hb (by rw [HN.out]; rw [HN.out] at HR; exact HR.out)
      simp only [List.set_cons_succ, List.set_cons_zero] at S2
      have d0 := S2.blk_cell (i := 0) rfl 0
      have d1 := S2.blk_cell (i := 0) rfl 1
      have z0 := S2.blk_frozen (i := 0) rfl 0
      have z1 := S2.blk_frozen (i := 0) rfl 1
      have S3 := (S2.blk_set (i := 0) rfl 0 (.bool b')).blk_set (i := 0) rfl 1 (.slice A n c)
      simp only [List.set_cons_succ, List.set_cons_zero] at S3
      have HS3 := Lib.hid S3
      clear S2 S3 HSG HF3 hv hb
      go_wp2_with fail
      exact bodyPost_ret (res_bigF _ 2 _ _ W.heap.size b' (.slice A n c) Tryz.results72 rfl (HS3.out.blk_cell (i := 0) rfl 0) (HS3.out.blk_cell (i := 0) rfl 1)) rfl ⟨⟨_, rfl, b', _, rfl, HB'.out, by
        have h := HS3.out.rds_rd (i := 1) rfl
        rw [HN.out] at h
        rw [HN.out]
        exact h⟩, HS3.out.bel⟩
    · obtain ⟨rfl, rfl⟩ : x = z ∧ l = [] := by rcases hx with h | ⟨h, _⟩
                                               · exact h
                                               · exact absurd h hx0
      have tx : (x != 0) = true := by simpa using hx0
      have HSS := Lib.hid S
      have HNZ := Lib.hid hx0
      clear S hx hx0
      rcases Int.lt_or_le x 0 with hneg | hpos
      · have hm : Int.tmod x 1000000000 = x := by
          have h := Int.tmod_eq_of_lt (a := -x) (b := 1000000000) (by omega) (by omega)
          rw [Int.neg_tmod] at h
          omega
        have hq : Int.tdiv x 1000000000 = 0 := by
          have h := Int.tdiv_eq_zero_of_lt (a := -x) (b := 1000000000) (by omega) (by omega)
          rw [Int.neg_tdiv] at h
          omega
        have ea : ([(x.natAbs : Int)] : List Int) = [-x] := by congr 1; omega
        have HEA := Lib.hid ea
        have tn : decide (x < 0) = true := decide_eq_true hneg
        clear ea
        go_wp2_with (at_builtin; refine wpList_append_st eltI rfl _ _ rfl rfl (HSS.out.blk_new #[.int .i64 (-x)] 3) (k := 1) rfl rfl (rd_of_blk (HSS.out.blk_new #[.int .i64 (-x)] 3) (i := 2) rfl) (one_int _ _) (by simp) (by simp) ?_; intro v6 w6 U4 _; simp only [List.set_cons_zero, List.set_cons_succ, List.cons_append, List.nil_append] at U4)
        have HU : Hid (St W w6 [blk W.heap.size 112 #[.bool false, .slice none 0 0], row 3 1 v6 1 (ints [-x])]) := Lib.hid (by
          exact U4.sub (L' := [_, _]) (List.sublist_append_left [_, _] [_]))
        clear U4
        go_roundw
        case rel => exact ⟨0, [(x.natAbs : Int)], rfl, .inr ⟨rfl, HNZ.out, rfl⟩, by rw [HEA.out]; exact HU.out⟩
        case measure => simp [intOf]; omega
      · have hm : x % 1000000000 = x := Int.emod_eq_of_lt hpos (by omega)
        have hq : x / 1000000000 = 0 := Int.ediv_eq_zero_of_lt hpos (by omega)
        have hm2 : Int.tmod x 1000000000 = x := Int.tmod_eq_of_lt hpos (by omega)
        have hq2 : Int.tdiv x 1000000000 = 0 := Int.tdiv_eq_zero_of_lt hpos (by omega)
        have HEA : Hid (([(x.natAbs : Int)] : List Int) = [x]) := Lib.hid (by congr 1; omega)
        have tn : decide (x < 0) = false := decide_eq_false (by omega)
        go_wp2_with (at_builtin; refine wpList_append_st eltI rfl _ _ rfl rfl (HSS.out.blk_new #[.int .i64 x] 3) (k := 1) rfl rfl (rd_of_blk (HSS.out.blk_new #[.int .i64 x] 3) (i := 2) rfl) (one_int _ _) (by simp) (by simp) ?_; intro v6 w6 U4 _; simp only [List.set_cons_zero, List.set_cons_succ, List.cons_append, List.nil_append] at U4)
        have HU : Hid (St W w6 [blk W.heap.size 112 #[.bool false, .slice none 0 0], row 3 1 v6 1 (ints [x])]) := Lib.hid (by
          exact U4.sub (L' := [_, _]) (List.sublist_append_left [_, _] [_]))
        clear U4
        go_roundw
        case rel => exact ⟨0, [(x.natAbs : Int)], rfl, .inr ⟨rfl, HNZ.out, rfl⟩, by rw [HEA.out]; exact HU.out⟩
        case measure => have := HNZ.out; simp [intOf]; omega
end Go.Proofs.YtlffgdmljioaoaaGreatDoor
/- Walks of the reference's big numbers: parse. -/
namespace Go.Sheet
open Go.Proofs.YtlffgdmljioaoaaGreatDoor
theorem itoa_cases (z : Int) : Lib.itoa z = if z < 0 then 45 :: Lib.decDigits z.natAbs else Lib.decDigits z.natAbs := by
  by_cases h : z < 0
  · rw [if_pos h]
    have := Lib.itoa_neg z.natAbs (by omega)
    rw [show -((z.natAbs : Nat) : Int) = z by omega] at this
    rw [this]
  · rw [if_neg h]
    have := Lib.itoa_nonneg z.natAbs
    rw [show ((z.natAbs : Nat) : Int) = z by omega] at this
    rw [this]
end Go.Sheet
namespace Go.Proofs.YtlffgdmljioaoaaGreatDoor
open Go.RowKit Go.Mem Go.Sheet
set_option maxRecDepth 100000 in
set_option maxHeartbeats 1000000 in
theorem rparse_any (W : World) (z : Int) (hz : z.natAbs < 1000000000000000000) :
    Calls Tryz.prog 112 #[.string (tB (Lib.itoa z))] W fun e w' => (∃ v', e = .returned v' ∧ BigF w' (Fresh W w') v' z) ∧ Below W.heap.size W w' := by
  have S0 := (St.refl W).blk_new #[.bool false, .slice none 0 0] 112
  simp only [List.nil_append] at S0
  have HS0 := Lib.hid S0
  have HZ0 := sgZ_self z
  have hD18 : (Lib.decDigits z.natAbs).length ≤ 18 := (dec_len 17 _).2 hz
  have hDd := dec_dig z.natAbs
  have HP0 : Hid (ParI (Lib.decDigits z.natAbs) (Lib.decDigits z.natAbs) []) := Lib.hid (ParI.zero hDd)
  have HDV : Hid (∀ l : List Int, (valD l : Int) = valL (Lib.decDigits z.natAbs) → digs (valD l) = digs z.natAbs) := Lib.hid (fun l h => by rw [dec_val] at h; congr 1; omega)
  have ht := itoa_cases z
  have hl1 : 1 ≤ (Lib.decDigits z.natAbs).length := dec_ne _
  clear S0 hz
  generalize hD : Lib.decDigits z.natAbs = D at *
  have hlen : (Lib.itoa z).length = (if z < 0 then 1 else 0) + D.length := by rw [ht]; split <;> simp; omega
  have hll : 1 ≤ (Lib.itoa z).length := by rw [hlen]; omega
  have HNG : Hid (∀ h : 0 < (tB (Lib.itoa z)).size, ((((tB (Lib.itoa z))[0]'h).toNat : Int) == 45) = decide (z < 0)) := Lib.hid (fun h => by
    rw [tB_at]
    have hx : (Lib.itoa z)[0]? = some ((Lib.itoa z)[0]'hll) := List.getElem?_eq_getElem hll
    generalize (Lib.itoa z)[0]'hll = c at *
    rw [ht] at hx
    by_cases hp : z < 0
    · rw [if_pos hp] at hx
      rw [decide_eq_true hp]
      cases hx; rfl
    · rw [if_neg hp] at hx
      rw [decide_eq_false hp, beq_eq_false_iff_ne]
      have := hDd c (List.mem_of_getElem? hx)
      omega)
  have HEX : Hid (z < 0 → (tB (Lib.itoa z)).extract 1 (Lib.itoa z).length = tB D) := Lib.hid (fun hp => by
    rw [tB_ext, List.take_length, ht, if_pos hp]; rfl)
  have HEN : Hid (¬ z < 0 → tB (Lib.itoa z) = tB D) := Lib.hid (fun hp => by rw [ht, if_neg hp])
  have hsz : (tB (Lib.itoa z)).size = (Lib.itoa z).length := tB_size _
  have hlb : (Lib.itoa z).length ≤ 19 := by rw [hlen]; split <;> omega
  clear ht hD hlen hDd
  generalize Lib.itoa z = t at *
  have ng := HNG.out (by omega)
  obtain ⟨bn, hbn⟩ : ∃ bn, bn = decide (z < 0) := ⟨_, rfl⟩
  rw [← hbn] at ng HZ0
  have HZ : Hid (sgZ bn z.natAbs = z) := Lib.hid HZ0
  clear HZ0
  have HBN := Lib.hid hbn
  clear hbn HNG
  go_enter Tryz.func112, Tryz.ntmps112
  go_upto_region 1 with fail
  go_cut [3] from 5 to 12 (fun d wx => d = .bool bn ∧ wx = W.alloc (.cells #[.bool false, .slice none 0 0] 112))
  case first =>
    have hsp : decide (0 < (t.length : Int)) = true := by simp; omega
    go_wp2
    go_meet
    case rel => first
      | exact ⟨rfl, rfl⟩
      | (refine ⟨?_, rfl⟩; simp)
  case rest =>
    obtain ⟨rfl, rfl⟩ := hcut
    go_upto_if 13 with fail
    go_cut [0] from 13 to 15 (fun d wx => d = .string (tB D) ∧ wx = W.alloc (.cells #[.bool false, .slice none 0 0] 112))
    case first =>
      by_cases hp : z < 0
      · obtain rfl : bn = true := by rw [HBN.out, decide_eq_true hp]
        have HX := Lib.hid (HEX.out hp)
        go_wp2
        go_meet
        case rel => exact ⟨by rw [HX.out], rfl⟩
      · obtain rfl : bn = false := by rw [HBN.out, decide_eq_false hp]
        have HX := Lib.hid (HEN.out hp)
        go_wp2
        go_meet
        case rel => exact ⟨by rw [HX.out], rfl⟩
    case rest =>
      obtain ⟨rfl, rfl⟩ := hcut
      clear ng hsz HEX HEN
      have S1 := HS0.out.row_nil 3 1
      simp only [List.cons_append, List.nil_append] at S1
      have HS1 := Lib.hid S1
      clear S1 HS0
      go_wp2_with fail
      go_loopw [0, 4] (fun s v w' => ∃ (T : List UInt8) (l : List Int), s = .string (tB T) ∧ T.length ≤ 18 ∧ l.length ≤ 18 - T.length ∧ Hid (ParI D T l) ∧ St W w' [blk W.heap.size 112 #[.bool false, .slice none 0 0], row 3 1 v l.length (ints l)]) (fun s _ _ => match s with | .string y => y.size | _ => 0)
      case atStart => exact ⟨D, [], rfl, hD18, Nat.zero_le _, HP0.out, HS1.out⟩
      case round =>
        obtain ⟨T, l, rfl, hT, hl, HV, S⟩ := hrel
        clear HS1 HP0
        by_cases h9 : 9 < T.length
        · obtain ⟨k, hk⟩ : ∃ k, T.length = k + 9 := ⟨T.length - 9, by omega⟩
          have hsz : (tB T).size = k + 9 := by rw [tB_size, hk]
          have hst := HV.out.step h9
          rw [show T.length - 9 = k by omega] at hst
          have hdl : (T.drop k).length = 9 := by rw [List.length_drop]; omega
          have HVL := Lib.hid (rvalue_any wr (T.drop k) (fun c hc => HV.out.digT c (List.mem_of_mem_drop hc)) (by omega))
          have hvb := valL_all (T := T.drop k) (fun c hc => HV.out.digT c (List.mem_of_mem_drop hc)) (by omega)
          have HE1 : Hid ((tB T).extract k (k + 9) = tB (T.drop k)) := Lib.hid (by rw [tB_ext, ← hk, List.take_length])
          have HE2 : Hid ((tB T).extract 0 k = tB (T.take k)) := Lib.hid (by rw [tB_ext, List.drop_zero])
          have HTL : Hid ((T.take k).length = k) := Lib.hid (by rw [List.length_take]; omega)
          have HK : Hid (T.length = k + 9) := Lib.hid hk
          have HST := Lib.hid hst
          have HSS := Lib.hid S
          rw [hdl] at hvb
          have hv0 : 0 ≤ valL (T.drop k) := hvb.1
          have hv1 : valL (T.drop k) < 1000000000 := hvb.2
          have hl2 : l.length + 1 ≤ 18 - k := by omega
          have hk2 : k ≤ 9 := by omega
          have t9 : decide (9 < (k : Int) + 9) = true := by simp; omega
          clear hvb hdl hk h9 hT hl hst S
          generalize valL (T.drop k) = v at *
          go_wp2_with fail
          rw [HE1.out]
          refine HVL.out.mono ?_
          rintro e w' ⟨rfl, rfl⟩
          go_wp2_with (at_builtin; refine wpList_append_st eltI rfl _ _ rfl rfl (HSS.out.blk_new #[.int .i64 v] 3) (k := 1) rfl rfl (rd_of_blk (HSS.out.blk_new #[.int .i64 v] 3) (i := 2) rfl) (one_int _ _) (by omega) (by omega) ?_; intro v6 w6 U4 _; simp only [List.set_cons_zero, List.set_cons_succ, List.cons_append, List.nil_append] at U4)
          have HU : Hid (St W w6 [blk W.heap.size 112 #[.bool false, .slice none 0 0], row 3 1 v6 (l ++ [v]).length (ints (l ++ [v]))]) := Lib.hid (by
            have h := U4.sub (L' := [_, _]) (List.sublist_append_left [_, _] [_])
            rw [show ints (l ++ [v]) = ints l ++ [.int .i64 v] by simp [ints], List.length_append]
            exact h)
          clear U4
          go_roundw
          case rel => exact ⟨T.take k, l ++ [v], by rw [HE2.out], by rw [HTL.out]; omega, by rw [HTL.out, List.length_append]; exact hl2, HST.out, HU.out⟩
          case measure =>
            show ((tB T).extract 0 k).size < (tB T).size
            rw [HE2.out, tB_size, tB_size, HTL.out, HK.out]
            omega
        · have hsz := tB_size T
          have hd9 := HV.out.done (by omega)
          have hTR : trimL (l ++ [valL T]) = digs z.natAbs := by rw [trimL_digs hd9.1]; exact HDV.out _ hd9.2
          have HTR := Lib.hid hTR
          have HVL := Lib.hid (rvalue_any wr T HV.out.digT (by omega))
          have HSS := Lib.hid S
          have t9 : decide (9 < (T.length : Int)) = false := by simp; omega
          clear hd9 hTR S
          generalize valL T = v at *
          go_wp2_with fail
          refine HVL.out.mono ?_
          rintro e w' ⟨rfl, rfl⟩
          go_wp2_with (at_builtin; refine wpList_append_st eltI rfl _ _ rfl rfl (HSS.out.blk_new #[.int .i64 v] 3) (k := 1) rfl rfl (rd_of_blk (HSS.out.blk_new #[.int .i64 v] 3) (i := 2) rfl) (one_int _ _) (by omega) (by omega) ?_; intro v6 w6 U4 _; simp only [List.set_cons_zero, List.set_cons_succ, List.cons_append, List.nil_append] at U4)
          have S6 : St W w6 [blk W.heap.size 112 #[.bool false, .slice none 0 0], row 3 1 v6 (l ++ [v]).length (ints (l ++ [v]))] := (by
            have h := U4.sub (L' := [_, _]) (List.sublist_append_left [_, _] [_])
            rw [show ints (l ++ [v]) = ints l ++ [.int .i64 v] by simp [ints], List.length_append]
            exact h)
          obtain ⟨F, hF1, hF2, hF3⟩ := S6.read (i := 1) rfl
          have hSG := rsignedZ_any w6 F (fun b h => (hF1 b h).2) bn v6 (l ++ [v]) z.natAbs (by rw [List.length_append]; simp; omega) HTR.out hF2
          rw [HZ.out] at hSG
          have HSG := Lib.hid hSG
          have HF3 := Lib.hid hF3
          clear S6 U4 hSG hF3 hF2
          go_wp2_with fail
          refine HSG.out.mono ?_
          rintro e w2 ⟨⟨v', rfl, hv⟩, hb⟩
          obtain ⟨b', A, n, c, rfl, HB', HN, HR⟩ := hv.open_
          have S2 := HF3.out w2 (.slice A n c) n ((digs z.natAbs).map (Value.int .i64)) hb (by rw [HN.out]; rw [HN.out] at HR; exact HR.out)
          simp only [List.set_cons_succ, List.set_cons_zero] at S2
          have d0 := S2.blk_cell (i := 0) rfl 0
          have d1 := S2.blk_cell (i := 0) rfl 1
          have z0 := S2.blk_frozen (i := 0) rfl 0
          have z1 := S2.blk_frozen (i := 0) rfl 1
          have S3 := (S2.blk_set (i := 0) rfl 0 (.bool b')).blk_set (i := 0) rfl 1 (.slice A n c)
          simp only [List.set_cons_zero] at S3
          have HS3 := Lib.hid S3
          clear S2 S3 HSG HF3 hv hb
          go_wp2_with fail
          exact bodyPost_ret (res_bigF _ 2 _ _ W.heap.size b' (.slice A n c) Tryz.results112 rfl (HS3.out.blk_cell (i := 0) rfl 0) (HS3.out.blk_cell (i := 0) rfl 1)) rfl ⟨⟨_, rfl, b', _, rfl, HB'.out, by
            have h := HS3.out.rds_rd (i := 1) rfl
            rw [HN.out] at h
            rw [HN.out]
            exact h⟩, HS3.out.bel⟩
end Go.Proofs.YtlffgdmljioaoaaGreatDoor
