/- Part 18 of the walks of the golf union's program: WT4. -/
import Derived.Test.YtjfhncnpmelopaaGreatDoorB17
set_option linter.unusedVariables false
set_option linter.unusedSimpArgs false
set_option linter.unusedSectionVars false
set_option linter.constructorNameAsVariable false
/- Walks: Apply. -/
namespace Go.Sheet
theorem matE_ok {m : IMat} (h : matE m = 0) : m.length ≤ 24 ∧ ∀ r ∈ m, r.length = m.length ∧ ∀ x ∈ r, entryE x = 0 := by
  unfold matE at h
  split at h
  · cases h
  · rename_i h24
    refine ⟨by omega, fun r hr => ?_⟩
    obtain ⟨i, hi, rfl⟩ := List.mem_iff_getElem.1 hr
    have h1 := (eachF_zero _ _ _).1 h i _ (List.getElem?_eq_getElem hi)
    rw [matRowE, fst_zero] at h1
    simp only [List.mem_cons, List.not_mem_nil, or_false, forall_eq_or_imp, forall_eq] at h1
    obtain ⟨a1, a2⟩ := h1
    rw [whenE_zero _ _ (by decide)] at a1
    simp only [decide_eq_false_iff_not] at a1
    refine ⟨by omega, fun x hx => ?_⟩
    obtain ⟨k, hk, rfl⟩ := List.mem_iff_getElem.1 hx
    exact (eachF_zero _ _ _).1 a2 k _ (List.getElem?_eq_getElem hk)
theorem entries_ok {l : List Int} (h : eachF (fun _ n => entryE n) 0 l = 0) : ∀ x ∈ l, entryE x = 0 := by
  intro x hx
  obtain ⟨k, hk, rfl⟩ := List.mem_iff_getElem.1 hx
  exact (eachF_zero _ _ _).1 h k _ (List.getElem?_eq_getElem hk)
theorem innerL_bd {l : List Int} (h : ∀ x ∈ l, entryE x = 0) : ∀ x ∈ innerL l, XB 999999999 x := by
  intro x hx
  obtain ⟨y, hy, rfl⟩ := List.mem_map.1 hx
  exact innerX_bd (h y hy)
theorem insideM_ok {m : IMat} (h : matE m = 0) : ∀ r ∈ insideM m, r.length = m.length ∧ ∀ x ∈ r, XB 999999999 x := by
  intro r hr
  obtain ⟨s, hs, rfl⟩ := List.mem_map.1 hr
  have := (matE_ok h).2 s hs
  exact ⟨by rw [innerL, List.length_map]; exact this.1, innerL_bd this.2⟩
theorem applyE_ok {m : IMat} {x : List Int} (h : applyE m x = 0) : matE m = 0 ∧ x.length = m.length ∧ ∀ y ∈ x, entryE y = 0 := by
  rw [applyE, fst_zero] at h
  simp only [List.mem_cons, List.not_mem_nil, or_false, forall_eq_or_imp, forall_eq] at h
  obtain ⟨h1, h2, h3⟩ := h
  rw [whenE_zero _ _ (by decide)] at h2
  simp only [decide_eq_false_iff_not] at h2
  exact ⟨h1, by omega, entries_ok h3⟩
end Go.Sheet
namespace Go.Proofs.YtjfhncnpmelopaaGreatDoor
open Go.RowKit Go.Mem Go.Sheet
theorem take_map {α : Type} {f : α → Int} {l : List α} {k : Nat} {x : α} (h : l[k]? = some x) : (l.take (k + 1)).map f = (l.take k).map f ++ [f x] := by
  rw [take_at h, List.map_append]; rfl
set_option maxRecDepth 100000 in
set_option maxHeartbeats 1000000 in
theorem apply_any (W : World) (v vx : Value) (m : IMat) (x : List Int) (h : RdRows W (· < W.heap.size) v m) (hx : Rd W (· < W.heap.size) 1 vx x.length (x.map (Value.int .i64))) :
    Calls Tryz.prog 59 #[v, vx] W (RetInts W (applyM m x)) := by
  have hE := enters Tryz.func120 (by kernel_rfl) rfl
  have HM := Lib.hid (checkMatrix_any W v m h)
  have HEA := fun w (hb : Below W.heap.size W w) => each_ints w vx x 120 hE entryE (hx.later hb) entry_any
  have HEA := Lib.hid HEA
  have HA : Hid (applyM m x = if applyE m x ≠ 0 then ([], applyE m x) else outerL ((insideM m).map fun r => timesR r (innerL x))) := rfl
  have HAE : Hid (fst [matE m, whenE ((x.length : Int) != (m.length : Int)) 2, eachF (fun _ n => entryE n) 0 x] = applyE m x) := by
    show _ = _
    have e : ((x.length : Int) != (m.length : Int)) = decide (x.length ≠ m.length) := by rw [Bool.eq_iff_iff]; simp only [bne_iff_ne, decide_eq_true_eq, ne_eq, Int.ofNat_inj]
    rw [applyE, e]
  have HOK : Hid (applyE m x = 0 → matE m = 0 ∧ x.length = m.length ∧ ∀ y ∈ x, entryE y = 0) := applyE_ok
  have HH := Lib.hid h
  have HX := Lib.hid hx
  have hxl := hx.le
  obtain ⟨vs0, h1, h2⟩ := h
  obtain ⟨A, c, rfl, _, _, _⟩ := h1.open_
  obtain ⟨Ax, cx, rfl, _, _, _⟩ := hx.open_
  have hml := h1.le
  clear h1 h2 hx hE
  generalize HN : m.length = n at *
  generalize HNX : x.length = nx at *
  generalize hME : matE m = ME at *
  generalize hXE : eachF (fun _ n => entryE n) 0 x = XE at *
  have HN := Lib.hid HN
  have HNX := Lib.hid HNX
  have HME := Lib.hid hME
  have HXE := Lib.hid hXE
  clear hME hXE
  go_enter Tryz.func59, Tryz.ntmps59
  go_wp2_with fail
  refine HM.out.mono ?_
  rintro e w2 ⟨rfl, hb2⟩
  clear HM
  go_wp2_with (go_at_call 94; refine (when_any _ _ _).mono ?_; rintro e w' ⟨rfl, rfl⟩)
  refine (HEA.out _ hb2).mono ?_
  rintro e w3 ⟨rfl, hb3⟩
  clear HEA
  have hb4 := (hb2.trans (hb3.mono hb2.size)).alloc (hb2.trans (hb3.mono hb2.size)).size (.cells #[.int .i64 ME, .int .i64 (whenE ((nx : Int) != (n : Int)) 2), .int .i64 XE] 30)
  go_wp2_with fail
  refine (first3 _ _ ME (whenE ((nx : Int) != (n : Int)) 2) XE (by simp) (by simp) (by simp) (by simp)).mono ?_
  rw [HAE.out]
  rintro e w' ⟨rfl, rfl⟩
  generalize w3.alloc (.cells #[.int .i64 ME, .int .i64 (whenE ((nx : Int) != (n : Int)) 2), .int .i64 XE] 30) = w4 at *
  clear HAE hb2 hb3
  generalize applyE m x = E at *
  by_cases h0 : (E != 0) = true
  · go_wp2
    go_ret2
    rw [HA.out, if_pos (by simpa using h0)]
    exact RetInts.err hb4
  · have h0' : (E != 0) = false := by simpa using h0
    obtain ⟨hm0, hxm, hxe⟩ := HOK.out (by simpa using h0)
    have HS : Hid (applyM m x = outerL ((insideM m).map fun r => timesR r (innerL x))) := by show _ = _; rw [HA.out, if_neg (by simpa using h0)]
    have hok := matE_ok (by rw [HME.out]; exact hm0)
    have hin := insideM_ok (by rw [HME.out]; exact hm0)
    have hxb := innerL_bd hxe
    have hn24 : n ≤ 24 := by rw [← HN.out]; exact hok.1
    have HI := Lib.hid (inside_any w4 _ m (HH.out.later hb4) (by rw [HN.out]; omega) (fun r hr => by rw [(hok.2 r hr).1, HN.out]; omega))
    rw [HN.out] at HI
    have HIN := Lib.hid hin
    have HXB := Lib.hid hxb
    have HXM := Lib.hid hxm
    have hnx : nx ≤ 24 := by omega
    have HB4 := Lib.hid hb4
    clear h0 hm0 hxm hxe hok hin hxb HOK HA hb4
    go_wp2_with fail
    refine HI.out.mono ?_
    rintro e w5 ⟨v5, vs, rfl, hvs, S5⟩
    clear HI
    have hrows := ownT_rows S5 (k := 0) rfl (by rw [insideM_len, HN.out]; exact hvs)
    have HB5 := Lib.hid (HB4.out.trans (S5.bel.mono HB4.out.size))
    have hvn := (S5.row_rd (i := 0) rfl)
    obtain ⟨A5, c5, rfl, _, _, _⟩ := hvn.open_
    obtain ⟨vs', hr1, hr2⟩ := hrows
    rw [insideM_len, HN.out] at hr1
    have HR1 := Lib.hid hr1
    have HR2 : Hid (∀ (i : Nat) (x : Value) (r : List Int), vs'[i]? = some x → (insideM m)[i]? = some r → Rd w5 (· < w5.heap.size) 1 x r.length (ints r)) := hr2
    clear S5 hvn hr1 hr2 hvs
    have S0 := (St.refl w5).row_nil 3 1
    go_wp2_with fail
    go_loopw [28, 7] (fun i v w' => ∃ (k : Nat), k ≤ n ∧ i = .int .i64 k ∧ St w5 w' [row 3 1 v k (ints (((insideM m).take k).map fun r => timesR r (innerL x)))]) (fun i _ _ => n - (intOf i).toNat)
    case atStart => exact ⟨0, Nat.zero_le _, rfl, S0⟩
    case round =>
      obtain ⟨k, hk, rfl, S⟩ := hrel
      clear S0
      by_cases hlt : k < n
      · obtain ⟨b, o, xr, rfl, hxr, k1⟩ := (HR1.out.later S.bel).val hlt
        have hkm : k < (insideM m).length := by rw [insideM_len, HN.out]; exact hlt
        have hr : (insideM m)[k]? = some (insideM m)[k] := List.getElem?_eq_getElem hkm
        have hrok := HIN.out _ (List.getElem_mem hkm)
        have hrd := HR2.out k xr _ hxr hr
        have HG := Lib.hid (take_map (f := fun r => timesR r (innerL x)) hr)
        generalize (insideM m)[k] = r at *
        have hrl : r.length = n := by rw [hrok.1]; exact HN.out
        rw [hrl] at hrd
        obtain ⟨Ar, cr, rfl, _, _, _⟩ := hrd.open_
        have HRD := Lib.hid hrd
        have HRB := Lib.hid hrok.2
        have HRL := Lib.hid hrl
        have HSS := Lib.hid S
        have hbS := S.bel
        clear hxr hr hrok hrd hrl hkm S
        go_wp2_with fail
        refine (plus_any _).mono ?_
        rintro e w6 ⟨rfl, hb6⟩
        have S6 := HSS.out.ext hb6
        have hb6W := HB5.out.trans (S6.bel.mono HB5.out.size)
        go_wp2_with fail
        refine (inner_any w6 _ x (by rw [HNX.out]; exact HX.out.later hb6W) (by rw [HNX.out]; omega)).mono ?_
        rintro e w7 ⟨v7, rfl, S7⟩
        have S8 := S6.call S7
        have hv7 := S7.row_rd (i := 0) rfl
        rw [← innerL_len] at hv7
        have HT := Lib.hid (times_any w7 _ _ (.slice Ar n cr) v7 r (innerL x) 999999999 999999999 (by rw [HRL.out]; exact HRD.out.later S8.bel) hv7 (by rw [HRL.out, innerL_len, HNX.out]; have := HXM.out; omega) HRB.out HXB.out (by omega) (by omega) (by omega))
        clear S6 S7 hv7 hb6 hb6W hbS k1
        go_wp2_with fail
        refine HT.out.mono ?_
        rintro e w8 ⟨rfl, hb8⟩
        have S9 := S8.ext hb8
        clear HT S8 hb8
        generalize timesR r (innerL x) = tv at *
        go_wp2_with (at_builtin; refine wpList_append_st eltI rfl _ _ rfl rfl (S9.alloc _) (k := 0) rfl rfl (rd_one (by simp)) (one_int _ _) (by omega) (by omega) ?_; intro v' w' S' _)
        have S10 := S'.sub (L' := [row 3 1 v' (k + 1) (ints (((insideM m).take k).map fun r => timesR r (innerL x)) ++ [.int .i64 tv])]) (List.sublist_append_left [_] [_])
        go_roundw
        case rel => exact ⟨k + 1, by omega, by go_num, by rw [HG.out]; simpa [ints] using S10⟩
        case measure => simp [intOf]; omega
      · have hkb : decide ((k : Int) < n) = false := by simp; omega
        obtain rfl : k = n := by omega
        rw [List.take_of_length_le (by rw [insideM_len, HN.out]; omega)] at S
        have hrd := (S.row_rd (i := 0) rfl).mono (S' := (· < wr.heap.size)) fun b hb _ => hb
        have hll : ((insideM m).map fun r => timesR r (innerL x)).length = k := by rw [List.length_map, insideM_len, HN.out]
        rw [← hll] at hrd
        have HO := Lib.hid (outer_any wr _ _ hrd (by rw [hll]; omega))
        have HB6 := Lib.hid (HB5.out.trans (S.bel.mono HB5.out.size))
        clear S hrd hll
        go_wp2_with fail
        refine HO.out.mono ?_
        rintro e w6 ⟨v6, rfl, S6⟩
        have HSF := Lib.hid ((St.of_below HB6.out).call S6)
        clear S6 HO
        generalize outerL ((insideM m).map fun r => timesR r (innerL x)) = R at *
        go_wp2
        go_ret2
        rw [HS.out]
        exact ⟨_, rfl, HSF.out⟩
end Go.Proofs.YtjfhncnpmelopaaGreatDoor
