/- Part 27 of the walks of the golf union's program: WM7, S8p, WK0. -/
import Derived.Test.YtlffgdmljioaoaaGreatDoorD16
import Derived.Outline
import Derived.Test.YtlffgdmljioaoaaGreatDoorD01
import Derived.Test.YtlffgdmljioaoaaGreatDoorD15
import Derived.Test.YtlffgdmljioaoaaGreatDoorD19
import Derived.Test.YtlffgdmljioaoaaGreatDoorD09
set_option linter.unusedVariables false
set_option linter.unusedSimpArgs false
set_option linter.unusedSectionVars false
set_option linter.constructorNameAsVariable false
/- Walks: First. -/
namespace Go.Proofs.YtlffgdmljioaoaaGreatDoor
open Go.RowKit Go.Mem Go.Sheet
theorem map_set_rq (fx : List Req) (k : Nat) (r : Req) : (fx.set k r).map Req.rq = (fx.map Req.rq).set k r.rq := by rw [List.map_set]
theorem set3_alloc2 (w : World) (A B : Obj) (g a b c : Nat) (u0 u1 u2 : Value) (h : g < w.heap.size) :
    ((((w.alloc A).alloc B).setCell ⟨g, a, none⟩ u0).setCell ⟨g, b, none⟩ u1).setCell ⟨g, c, none⟩ u2 = ((((w.setCell ⟨g, a, none⟩ u0).setCell ⟨g, b, none⟩ u1).setCell ⟨g, c, none⟩ u2).alloc A).alloc B := by
  have one : ∀ (w : World) (i : Nat) (u : Value), g < w.heap.size → ((w.alloc A).alloc B).setCell ⟨g, i, none⟩ u = ((w.setCell ⟨g, i, none⟩ u).alloc A).alloc B := fun w i u h => by
    rw [World.setCell_alloc_past _ _ _ _ (by rw [World.size_alloc]; omega), World.setCell_alloc_past _ _ _ _ h]
  rw [one w a u0 h, one _ b u1 (by simpa [World.setCell] using h), one _ c u2 (by simpa [World.setCell] using h)]
/-- between two requests -/
def FirR (W : World) (n : Nat) (va vF : Value) (l : List Slot) (v : Int) (rq : List RQ) (R : List Int) (idx : Value) (w' : World) : Prop :=
  ∃ (k : Nat) (fx : List Req) (a : List Int), k ≤ n ∧ idx = .int .i64 k ∧ fx.length = n ∧ a.length = n ∧ (∀ r ∈ fx, r.name.size ≤ 9223372036854775807) ∧ MOk l (fx.map Req.rq) ∧ St W w' (fxL W n va vF a fx []) ∧
    firstL l v k (rq.drop k) (fx.map Req.rq) a = R
/-- between two wishes of the request k -/
def TryR (W : World) (n : Nat) (va vF : Value) (l : List Slot) (v : Int) (x : Req) (k b12 : Nat) (a : List Int) (T : List RQ × Int) (idx : Value) (w' : World) : Prop :=
  ∃ (j : Nat) (fx : List Req), j ≤ x.wn ∧ idx = .int .i64 j ∧ fx.length = n ∧ (∀ r ∈ fx, r.name.size ≤ 9223372036854775807) ∧ MOk l (fx.map Req.rq) ∧
    St W w' (fxL W n va vF a fx [blk b12 73 #[.string x.name, .bool x.g, .slice x.wa x.wn x.wc]]) ∧ tryW l v x.rq k (x.ws.drop j) (fx.map Req.rq) = T
set_option maxRecDepth 100000 in
set_option maxHeartbeats 4000000 in
theorem first_run (W : World) (vl vr : Value) (nl n : Nat) (l : List Slot) (rs : List Req) (hl : Rd W (· < W.heap.size) 3 vl nl (l.flatMap Slot.cells)) (h : RdReqs W (· < W.heap.size) vr n rs) :
    Calls Tryz.prog 34 #[vl, vr] W (RetInts W (firstF l (rs.map Req.rq))) := by
  have HN := Lib.hid (h.1.count (f := Req.cells) (size := 3) (fun _ => rfl) (by decide))
  obtain ⟨A, c, rfl, _, _, _⟩ := h.1.open_
  have HC := Lib.hid (solved_any W vl _ nl n l rs hl h)
  have HL := Lib.hid hl
  have HH := Lib.hid h
  clear hl h
  go_enter Tryz.func34, Tryz.ntmps34
  go_wp2
  go_step3
  go_wp2_with fail
  refine HC.out.mono ?_
  clear HC
  rintro e w2 (⟨h1, rfl, hb⟩ | ⟨h1, M, hM, ⟨hr, rfl, hb⟩ | ⟨v, g, va, hr, rfl, S⟩⟩)
  · have HF : Hid (firstF l (rs.map Req.rq) = ([], checkRequests l (rs.map Req.rq))) := by show _ = _; rw [firstF, if_pos h1]
    generalize checkRequests l (rs.map Req.rq) = E at *
    have h2 : (E != 0) = true := by simpa using h1
    clear h1
    go_wp2
    try rw [Exit.noGoto_ret]
    go_ret2
    rw [HF.out]
    exact RetInts.err hb
  · have HF : Hid (firstF l (rs.map Req.rq) = ([], 23)) := by show _ = _; rw [firstF, if_neg (fun h => h h1), hM.solveQ, hr]; rfl
    clear h1 hr hM
    go_wp2
    try rw [Exit.noGoto_ret]
    go_ret2
    rw [HF.out]
    exact RetInts.err hb
  · have hok := okay_mok (okay_of h1)
    have hn24 : n ≤ 24 := by have := hok.nr; rw [List.length_map] at this; rw [HN.out]; exact this
    have hlen : (places M).length = n := by rw [places_len, hM.rows, List.length_map, HN.out]
    have HF : Hid (firstF l (rs.map Req.rq) = (firstL l v 0 (rs.map Req.rq) (rs.map Req.rq) (places M), 0)) := by show _ = _; rw [firstF, if_neg (fun h => h h1), hM.solveQ, hr]; rfl
    have S1 := S.sub (L' := [row 3 1 va n (intsV (places M))]) (by rw [List.length_map, ← HN.out]; exact .cons _ (.cons_cons _ .slnil))
    generalize places M = a0 at *
    have HOK := Lib.hid hok
    have HCP := Lib.hid (copiedR_any w2 _ n rs (HH.out.1.later S1.bel) (by omega))
    have HLEN := Lib.hid hlen
    clear h1 hr hM S hok hlen
    go_wp2_with fail
    refine HCP.out.mono ?_
    rintro e w3 ⟨vF, rfl, S2⟩
    have S3 := S1.call S2
    simp only [List.cons_append, List.nil_append] at S3
    have S4 : St W w3 (fxL W n va vF a0 rs []) := S3.push (F := fun _ => False) (Below.refl _ _) (fun r hr => .inl (HH.out.2 r hr).1) (fun b hb => hb.elim)
    obtain ⟨RR, hRR⟩ : ∃ RR, RR = firstL l v 0 (rs.map Req.rq) (rs.map Req.rq) a0 := ⟨_, rfl⟩
    have H0 : Hid (FirR W n va vF l v (rs.map Req.rq) RR (.int .i64 0) w3) :=
      ⟨0, rs, a0, Nat.zero_le _, rfl, HN.out.symm, HLEN.out, fun r hr => (HH.out.2 r hr).2, HOK.out, S4, hRR.symm⟩
    rw [← hRR] at HF
    have HRR := Lib.hid hRR
    clear HCP S1 S2 S3 S4 hRR
    go_wp2
    go_step3
    go_wp2
    go_loopw [34] (fun idx w' => FirR W n va vF l v (rs.map Req.rq) RR idx w') (fun idx _ => n - (intOf idx).toNat)
    case atStart => exact H0.out
    case round =>
      clear H0
      obtain ⟨k, fx, a, hk, rfl, hfn, han, hnm, hmo, S, hfi⟩ := hrel
      by_cases hlt : k < n
      · obtain ⟨bx, ox, x, rfl, hx, d0, d1, d2⟩ := (HH.out.1.below S.bel).elem3 (k := k) (fun s : Req => .string s.name) (fun s : Req => .bool s.g) (fun s : Req => .slice s.wa s.wn s.wc) (fun _ => rfl) hlt
        have hxm := List.mem_of_getElem? hx
        have hrx := (HH.out.2 x hxm).1
        have hnx := (HH.out.2 x hxm).2
        have HX : Hid ((rs.map Req.rq)[k]? = some x.rq) := by show _ = _; rw [List.getElem?_map, hx]; rfl
        have HWN := Lib.hid (hrx.count (f := Wish.cells) (size := 2) (fun _ => rfl) (by decide))
        have bw := hrx.le
        have HWX : Hid (∀ y ∈ x.ws, 0 ≤ y.s ∧ 0 ≤ y.w ∧ y.w ≤ 10000) := HOK.out.ws x.rq (List.mem_map_of_mem hxm)
        have S5 := S.blk_new #[.string x.name, .bool x.g, .slice x.wa x.wn x.wc] 73
        have hT : firstL l v (k + 1) ((rs.map Req.rq).drop (k + 1)) (tryW l v x.rq k x.ws (fx.map Req.rq)).1 (a.set k (tryW l v x.rq k x.ws (fx.map Req.rq)).2) = RR := by
          rw [← hfi, drop_at HX.out, firstL]; rfl
        obtain ⟨T, hTT⟩ : ∃ T, T = tryW l v x.rq k x.ws (fx.map Req.rq) := ⟨_, rfl⟩
        rw [← hTT] at hT
        have HT := Lib.hid hT
        have H1 : Hid (TryR W n va vF l v x k wr.heap.size a T (.int .i64 0) (wr.alloc (.cells #[.string x.name, .bool x.g, .slice x.wa x.wn x.wc] 73))) :=
          ⟨0, fx, Nat.zero_le _, rfl, hfn, hnm, hmo, S5, hTT.symm⟩
        have HAN := Lib.hid han
        clear hT hTT S S5 hfi hx hxm hfn hnm hmo han
        go_wp2
        obtain ⟨wo, rfl⟩ : ∃ wo : World, wo = wr := ⟨_, rfl⟩
        generalize wo.alloc (.cells #[.string x.name, .bool x.g, .slice x.wa x.wn x.wc] 73) = w5 at *
        generalize wo.heap.size = b12 at *
        clear d0 d1 d2
        go_loopw [42] (fun idx w' => TryR W n va vF l v x k b12 a T idx w') (fun idx _ => x.wn - (intOf idx).toNat)
        case atStart => exact H1.out
        case round =>
          clear H1
          obtain ⟨j, fx2, hj, rfl, hfn2, hnm2, hmo2, S6, htr⟩ := hrel
          have HFN2 := Lib.hid hfn2
          have HNM2 := Lib.hid hnm2
          have HMO2 := Lib.hid hmo2
          have HTR := Lib.hid htr
          have hn0 : 0 < n := by omega
          clear hfn2 hnm2 hmo2 htr
          by_cases hlt2 : j < x.wn
          · obtain ⟨b2, o2, y, hA2, hy, e0, e1⟩ := (hrx.below S6.bel).elem2 (k := j) (fun s : Wish => .int .i64 s.s) (fun s : Wish => .int .i64 s.w) (fun _ => rfl) hlt2
            obtain ⟨gF, cF, rfl, hcF, _, hgF, c8, f8⟩ := S6.row_form (i := 1) rfl hn0
            have hkf : k < fx2.length := by rw [HFN2.out]; exact hlt
            have htr := HTR.out
            rw [drop_at hy, tryW] at htr
            have hyb := HWX.out y (List.mem_of_getElem? hy)
            have S7 := (S6.blk_new #[.int .i64 y.s, .int .i64 y.w] 122).blk_new #[.int .i64 y.s, .int .i64 y.w] 122
            simp only [World.size_alloc, fxL, List.cons_append, List.nil_append] at S7
            have S8 := fx_wis1 (S7.perm (.cons _ (.cons _ (.cons _ (List.perm_append_comm (l₁ := [_, _]) (l₂ := [_])))))) k x.name true
            obtain ⟨r', hr'⟩ : ∃ r' : Req, r' = ⟨x.name, true, some ⟨wr.heap.size + 1, 0, none⟩, 1, 1, [y]⟩ := ⟨_, rfl⟩
            rw [← hr'] at S8
            have S9 := fx_row S8 hkf r'
            have hq' : r'.rq = ⟨x.rq.name, true, [y]⟩ := by rw [hr']; rfl
            have hm' : (fx2.set k r').map Req.rq = (fx2.map Req.rq).set k ⟨x.rq.name, true, [y]⟩ := by rw [map_set_rq, hq']
            rw [← hm'] at htr
            have hmo' : MOk l ((fx2.set k r').map Req.rq) := by
              rw [hm']
              exact HMO2.out.set k _ (fun z hz => by simp at hz; subst hz; exact hyb)
            have hnm' : ∀ r ∈ fx2.set k r', r.name.size ≤ 9223372036854775807 := fun r hr => by
              rcases List.mem_or_eq_of_mem_set hr with hr | rfl
              · exact HNM2.out r hr
              · rw [hr']; exact hnx
            have hfn' : (fx2.set k r').length = n := by rw [List.length_set]; exact HFN2.out
            have hfl : (fx2.flatMap Req.cells).length = n * 3 := by rw [flatMap_len (size := 3) (fun _ => rfl), HFN2.out]
            obtain ⟨q0, c80⟩ := Option.isSome_iff_exists.1 (show wr.cell? ⟨gF, k * 3, none⟩ |>.isSome by rw [c8 (k * 3) (by omega), List.getElem?_eq_getElem (by omega)]; rfl)
            obtain ⟨q1, c81⟩ := Option.isSome_iff_exists.1 (show wr.cell? ⟨gF, k * 3 + 1, none⟩ |>.isSome by rw [c8 (k * 3 + 1) (by omega), List.getElem?_eq_getElem (by omega)]; rfl)
            obtain ⟨q2, c82⟩ := Option.isSome_iff_exists.1 (show wr.cell? ⟨gF, k * 3 + 2, none⟩ |>.isSome by rw [c8 (k * 3 + 2) (by omega), List.getElem?_eq_getElem (by omega)]; rfl)
            have f80 := f8 (k * 3)
            have f81 := f8 (k * 3 + 1)
            have f82 := f8 (k * 3 + 2)
            have d12 : wr.cell? ⟨b12, 0, none⟩ = some (.string x.name) := S6.blk_cell (i := 3) rfl 0
            have hb12 := (S6.blk_at (i := 3) rfl).2.1
            rw [show r'.name = x.name by rw [hr'], show r'.g = true by rw [hr'], show r'.wa = some ⟨wr.heap.size + 1, 0, none⟩ by rw [hr'], show r'.wn = 1 by rw [hr'], show r'.wc = 1 by rw [hr']] at S9
            rw [set3_alloc2 _ _ _ _ _ _ _ _ _ _ hgF] at S9
            generalize fx2.set k r' = fx3 at *
            have S9' : St W _ (fxL W n va (.slice (some ⟨gF, 0, none⟩) n cF) a fx3 [blk b12 73 #[.string x.name, .bool x.g, .slice x.wa x.wn x.wc], blk wr.heap.size 122 #[.int .i64 y.s, .int .i64 y.w]]) := S9
            have HS9 := Lib.hid S9'
            have HTR3 := Lib.hid htr
            have HMO3 := Lib.hid hmo'
            have HNM3 := Lib.hid hnm'
            have HFN3 := Lib.hid hfn'
            rw [hA2]
            clear c8 f8 S7 S8 S9 S9' htr hm' hmo' hnm' hfn' hq' hr' hfl HTR hyb hA2
            go_wp2_with fail
            refine (solve_any _ vl _ nl n l fx3 ((HL.out.below HS9.out.bel).now) (fx_reqs HS9.out HNM3.out) HMO3.out).mono ?_
            rintro e w9 ⟨M9, hM9, hno, hso⟩
            have S9 := HS9.out
            clear HS9 d12 hb12 c80 c81 c82 f80 f81 f82 e0 e1
            generalize hb14 : wr.heap.size = b14 at *
            clear hb14
            cases hr9 : solveV (fx3.map Req.rq) (places M9) 0 with
            | none =>
              obtain ⟨rfl, hb9⟩ := hno hr9
              have S10 := S9.ext hb9
              have hq9 : ¬ (solveQ l (fx3.map Req.rq)).map (·.2) = some v := by rw [hM9.solveQ, hr9]; simp
              have htr3 := HTR3.out
              rw [if_neg hq9] at htr3
              have HR : Hid (TryR W n va (.slice (some ⟨gF, 0, none⟩) n cF) l v x k b12 a T (.int .i64 ((j : Int) + 1)) w9) :=
                ⟨j + 1, fx3, by omega, rfl, HFN3.out, HNM3.out, HMO3.out, S10.sub (.cons_cons _ (.cons_cons _ (.cons_cons _ (.cons_cons _ (.cons _ .slnil))))), htr3⟩
              clear hno hso hr9 hM9 S9 S10 hb9 hq9 htr3 HTR3
              go_wp2
              go_roundw
              case rel => exact HR.out
              case measure => simp [intOf]; omega
            | some v9 =>
              obtain ⟨g9, va9, rfl, S9b⟩ := hso v9 hr9
              have S10 := S9.call S9b
              simp only [fxL, List.cons_append, List.nil_append] at S10
              by_cases hv9 : v9 = v
              · have hq9 : (solveQ l (fx3.map Req.rq)).map (·.2) = some v := by rw [hM9.solveQ, hr9, hv9]; rfl
                have htr3 := HTR3.out
                rw [if_pos hq9] at htr3
                have hveq : (v9 == v) = true := by simpa using hv9
                obtain ⟨gA, cA, rfl, hcA, _, hgA, c8, f8⟩ := S10.row_form (i := 0) rfl hn0
                have ca8 : w9.cell? ⟨gA, k, none⟩ = some (.int .i64 (a.getD k 0)) := by rw [c8 k (by omega), intsV_at _ _ (by rw [HAN.out]; exact hlt)]
                have fa8 := f8 k
                have c14 : w9.cell? ⟨b14, 0, none⟩ = some (.int .i64 y.s) := S10.blk_cell (i := 4) rfl 0
                have S11 := S10.row_set (i := 0) rfl k (.int .i64 y.s)
                simp only [List.set_cons_zero, intsV_set] at S11
                have hfin := HT.out
                rw [← htr3] at hfin
                have HR : Hid (FirR W n (.slice (some ⟨gA, 0, none⟩) n cA) (.slice (some ⟨gF, 0, none⟩) n cF) l v (rs.map Req.rq) RR (.int .i64 ((k : Int) + 1)) (w9.setCell ⟨gA, k, none⟩ (.int .i64 y.s))) :=
                  ⟨k + 1, fx3, a.set k y.s, by omega, rfl, HFN3.out, by rw [List.length_set]; exact HAN.out, HNM3.out, HMO3.out, S11.sub (.cons_cons _ (.cons_cons _ (.cons_cons _ (.cons _ (.cons _ (.cons _ (.cons _ .slnil))))))), hfin⟩
                generalize a.getD k 0 = ak at *
                clear hno hso hr9 hM9 S9 S10 S9b S11 hq9 htr3 HTR3 hfin c8 f8 hv9
                go_wp2
                go_roundw
                case rel => exact HR.out
                case measure => simp [intOf]; omega
              · have hq9 : ¬ (solveQ l (fx3.map Req.rq)).map (·.2) = some v := by rw [hM9.solveQ, hr9]; simpa using hv9
                have htr3 := HTR3.out
                rw [if_neg hq9] at htr3
                have hveq : (v9 == v) = false := by simpa using hv9
                have HR : Hid (TryR W n va (.slice (some ⟨gF, 0, none⟩) n cF) l v x k b12 a T (.int .i64 ((j : Int) + 1)) w9) :=
                  ⟨j + 1, fx3, by omega, rfl, HFN3.out, HNM3.out, HMO3.out, S10.sub (.cons_cons _ (.cons_cons _ (.cons_cons _ (.cons_cons _ (.cons _ (.cons _ (.cons _ .slnil))))))), htr3⟩
                clear hno hso hr9 hM9 S9 S10 S9b hq9 htr3 HTR3 hv9
                go_wp2
                go_roundw
                case rel => exact HR.out
                case measure => simp [intOf]; omega
          · have hjj : j = x.wn := by omega
            have htr := HTR.out
            rw [hjj, HWN.out, List.drop_length, tryW] at htr
            obtain ⟨gF, cF, rfl, hcF, _, hgF, c8, f8⟩ := S6.row_form (i := 1) rfl hn0
            obtain ⟨gA, cA, rfl, hcA, _, hgA, _, _⟩ := S6.row_form (i := 0) rfl hn0
            have hkf : k < fx2.length := by rw [HFN2.out]; exact hlt
            obtain ⟨r', hr'⟩ : ∃ r' : Req, r' = ⟨x.name, false, none, 0, 0, []⟩ := ⟨_, rfl⟩
            have S8 := fx_wis0 S6 k r' (by rw [hr']; exact Rd.nil _ _ _)
            have S9 := fx_row S8 hkf r'
            have hq' : r'.rq = ⟨x.rq.name, false, []⟩ := by rw [hr']; rfl
            have hm' : (fx2.set k r').map Req.rq = (fx2.map Req.rq).set k ⟨x.rq.name, false, []⟩ := by rw [map_set_rq, hq']
            rw [← hm'] at htr
            have hmo' : MOk l ((fx2.set k r').map Req.rq) := by
              rw [hm']
              exact HMO2.out.set k _ (fun z hz => by simp at hz)
            have hnm' : ∀ r ∈ fx2.set k r', r.name.size ≤ 9223372036854775807 := fun r hr => by
              rcases List.mem_or_eq_of_mem_set hr with hr | rfl
              · exact HNM2.out r hr
              · rw [hr']; exact hnx
            have hfn' : (fx2.set k r').length = n := by rw [List.length_set]; exact HFN2.out
            have hfl : (fx2.flatMap Req.cells).length = n * 3 := by rw [flatMap_len (size := 3) (fun _ => rfl), HFN2.out]
            obtain ⟨q0, c80⟩ := Option.isSome_iff_exists.1 (show wr.cell? ⟨gF, k * 3, none⟩ |>.isSome by rw [c8 (k * 3) (by omega), List.getElem?_eq_getElem (by omega)]; rfl)
            obtain ⟨q1, c81⟩ := Option.isSome_iff_exists.1 (show wr.cell? ⟨gF, k * 3 + 1, none⟩ |>.isSome by rw [c8 (k * 3 + 1) (by omega), List.getElem?_eq_getElem (by omega)]; rfl)
            obtain ⟨q2, c82⟩ := Option.isSome_iff_exists.1 (show wr.cell? ⟨gF, k * 3 + 2, none⟩ |>.isSome by rw [c8 (k * 3 + 2) (by omega), List.getElem?_eq_getElem (by omega)]; rfl)
            have f80 := f8 (k * 3)
            have f81 := f8 (k * 3 + 1)
            have f82 := f8 (k * 3 + 2)
            have d12 : wr.cell? ⟨b12, 0, none⟩ = some (.string x.name) := S6.blk_cell (i := 3) rfl 0
            rw [show r'.name = x.name by rw [hr'], show r'.g = false by rw [hr'], show r'.wa = none by rw [hr'], show r'.wn = 0 by rw [hr'], show r'.wc = 0 by rw [hr']] at S9
            generalize fx2.set k r' = fx3 at *
            have ca8 := (S9.row_own (i := 0) rfl).cellAt k (by omega)
            have fa8 := (S9.row_own (i := 0) rfl).frozenAt k
            rw [intsV_at _ _ (by rw [HAN.out]; exact hlt)] at ca8
            have S10 := S9.row_set (i := 0) rfl k (.int .i64 (-1))
            simp only [List.set_cons_zero, intsV_set] at S10
            have hfin := HT.out
            rw [← htr] at hfin
            have HR : Hid (FirR W n (.slice (some ⟨gA, 0, none⟩) n cA) (.slice (some ⟨gF, 0, none⟩) n cF) l v (rs.map Req.rq) RR (.int .i64 ((k : Int) + 1)) _) :=
              ⟨k + 1, fx3, a.set k (-1), by omega, rfl, hfn', by rw [List.length_set]; exact HAN.out, hnm', hmo', S10.sub (.cons_cons _ (.cons_cons _ (.cons_cons _ (.cons _ .slnil)))), hfin⟩
            generalize a.getD k 0 = ak at *
            clear c8 f8 S6 S8 S9 S10 htr hm' hmo' hnm' hfn' hq' hr' hfl HTR hfin hjj
            go_wp2
            go_roundw
            case rel => exact HR.out
            case measure => simp [intOf]; omega
      · have hkk : k = n := by omega
        have hfin := hfi
        rw [hkk, List.drop_of_length_le (by rw [List.length_map]; exact Nat.le_of_eq HN.out.symm), firstL] at hfin
        have HS := Lib.hid (S.sub (L' := [row 3 1 va n (intsV a)]) (.cons_cons _ (.cons _ (.cons _ .slnil))))
        rw [hfin] at HS
        have HLR : Hid (RR.length = n) := by show _ = _; rw [← hfin]; exact han
        clear hkk hfi hfn han hnm hmo S hfin
        go_wp2
        try rw [Exit.noGoto_ret]
        go_ret2
        rw [HF.out]
        exact ⟨va, rfl, by rw [HLR.out]; exact HS.out⟩
end Go.Proofs.YtlffgdmljioaoaaGreatDoor
/- CheckProof as a plain function. -/
namespace Go.Sheet
/-- prices as plain data -/
structure PR where
  rq : List Int
  sl : List Int
  deriving DecidableEq
def proofE1 (l : List Slot) (rs : List RQ) (v : Int) (p : PR) : Int :=
  fst [checkRequests l rs, outE v (-999999999) 999999999, whenE (decide (p.rq.length ≠ rs.length) || decide (p.sl.length ≠ l.length)) 2]
def bigE (n : Int) : Int := outE n (-999999999) 999999999
def proofE2 (p : PR) : Int := fst [eachF (fun _ n => bigE n) 0 p.rq, eachF (fun _ n => bigE n) 0 p.sl]
/-- the first request without a guarantee whose price is below 0 -/
def prNeg : List RQ → List Int → Bool
  | x :: rs, n :: ps => (decide (n < 0) && !x.g) || prNeg rs ps
  | _, _ => false
def prSum : List Int → List Slot → Int
  | n :: ps, s :: l => n * s.p + prSum ps l
  | _, _ => 0
def wishLow (sl : List Int) (n : Int) (ws : List Wish) : Bool := ws.any fun w => decide (n + sl.getD w.s.toNat 0 < w.w)
def prLow (sl : List Int) : List RQ → List Int → Bool
  | x :: rs, n :: ps => wishLow sl n x.ws || prLow sl rs ps
  | _, _ => false
def checkProof (l : List Slot) (rs : List RQ) (v : Int) (p : PR) : Int :=
  if proofE1 l rs v p ≠ 0 then proofE1 l rs v p
  else if proofE2 p ≠ 0 then proofE2 p
  else if prNeg rs p.rq then 21
  else if prLow p.sl rs p.rq then 21
  else whenE (decide (sumF p.rq + prSum p.sl l ≠ v) || p.sl.any fun n => decide (n < 0)) 21
end Go.Sheet
/- Walks: CheckProof: parts. -/
namespace Go.Proofs.YtlffgdmljioaoaaGreatDoor
open Go.RowKit Go.Mem Go.Sheet
set_option maxRecDepth 100000 in
theorem frame125 {T : Array Value} {v7 v8 v17 v18 : Value} (h : T.size = 125) (h7 : T.getD 7 undef = v7) (h8 : T.getD 8 undef = v8) (h17 : T.getD 17 undef = v17) (h18 : T.getD 18 undef = v18) : ∃ f : Nat → Value, T = #[f 0, f 1, f 2, f 3, f 4, f 5, f 6, v7, v8, f 9, f 10, f 11, f 12, f 13, f 14, f 15, f 16, v17, v18, f 19, f 20, f 21, f 22, f 23, f 24, f 25, f 26, f 27, f 28, f 29, f 30, f 31, f 32, f 33, f 34, f 35, f 36, f 37, f 38, f 39, f 40, f 41, f 42, f 43, f 44, f 45, f 46, f 47, f 48, f 49, f 50, f 51, f 52, f 53, f 54, f 55, f 56, f 57, f 58, f 59, f 60, f 61, f 62, f 63, f 64, f 65, f 66, f 67, f 68, f 69, f 70, f 71, f 72, f 73, f 74, f 75, f 76, f 77, f 78, f 79, f 80, f 81, f 82, f 83, f 84, f 85, f 86, f 87, f 88, f 89, f 90, f 91, f 92, f 93, f 94, f 95, f 96, f 97, f 98, f 99, f 100, f 101, f 102, f 103, f 104, f 105, f 106, f 107, f 108, f 109, f 110, f 111, f 112, f 113, f 114, f 115, f 116, f 117, f 118, f 119, f 120, f 121, f 122, f 123, f 124] := by
  obtain ⟨f, hf⟩ : ∃ f : Nat → Value, f = fun i => T.getD i undef := ⟨_, rfl⟩
  have e : ((List.range 125).map f).toArray = #[f 0, f 1, f 2, f 3, f 4, f 5, f 6, f 7, f 8, f 9, f 10, f 11, f 12, f 13, f 14, f 15, f 16, f 17, f 18, f 19, f 20, f 21, f 22, f 23, f 24, f 25, f 26, f 27, f 28, f 29, f 30, f 31, f 32, f 33, f 34, f 35, f 36, f 37, f 38, f 39, f 40, f 41, f 42, f 43, f 44, f 45, f 46, f 47, f 48, f 49, f 50, f 51, f 52, f 53, f 54, f 55, f 56, f 57, f 58, f 59, f 60, f 61, f 62, f 63, f 64, f 65, f 66, f 67, f 68, f 69, f 70, f 71, f 72, f 73, f 74, f 75, f 76, f 77, f 78, f 79, f 80, f 81, f 82, f 83, f 84, f 85, f 86, f 87, f 88, f 89, f 90, f 91, f 92, f 93, f 94, f 95, f 96, f 97, f 98, f 99, f 100, f 101, f 102, f 103, f 104, f 105, f 106, f 107, f 108, f 109, f 110, f 111, f 112, f 113, f 114, f 115, f 116, f 117, f 118, f 119, f 120, f 121, f 122, f 123, f 124] := rfl
  have e2 := arr_lit T 125 h
  rw [← hf, e] at e2
  rw [show T.getD 7 undef = f 7 by rw [hf]] at h7
  rw [show T.getD 8 undef = f 8 by rw [hf]] at h8
  rw [show T.getD 17 undef = f 17 by rw [hf]] at h17
  rw [show T.getD 18 undef = f 18 by rw [hf]] at h18
  refine ⟨f, ?_⟩
  rw [← h7, ← h8, ← h17, ← h18]
  exact e2
theorem cp1_any (W : World) (k n : Int) : Calls Tryz.prog 91 #[.int .i64 k, .int .i64 n] W fun e w' => e = .returned (.int .i64 (bigE n)) ∧ Below W.heap.size W w' := by
  go_enter Tryz.func91, Tryz.ntmps91
  go_wp2_with (go_at_call 56; refine (outside_any _ _ _ _).mono ?_; rintro e w' ⟨rfl, rfl⟩)
  go_ret
  exact ⟨rfl, Below.refl _ _⟩
theorem cp2_any (W : World) (n : Int) : Calls Tryz.prog 94 #[.int .i64 n] W fun e w' => e = .returned (.bool (decide (n < 0))) ∧ W = w' := by
  go_enter Tryz.func94, Tryz.ntmps94
  by_cases h : n < 0
  all_goals
    go_wp2
    go_ret
    exact ⟨by simp [h], rfl⟩
end Go.Proofs.YtlffgdmljioaoaaGreatDoor
