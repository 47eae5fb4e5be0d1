/- Part 20 of the walks of the golf union's program: WT3, WT4, Shelf, WT5, PM, WX2, R8, WR1, WR2, WX3. -/
import Derived.Test.YtlffgdmljioaoaaGreatDoorD19
import Derived.Shelf.Strings.Builder1
import Derived.Shelf.Strings.Builder2
import Derived.Shelf.Small.Bits
import Derived.Shelf.Strconv.Itoa0
import Derived.Shelf.Strconv.Itoa1
import Derived.Shelf.LaysM
import Derived.Shelf.Strconv.Itoa2
import Derived.Shelf.Strconv.Itoa3
import Derived.Shelf.Bits.Mul64
import Derived.Shelf.Slices.Reverse
import Derived.Ground.Names2Prog
import Derived.Shelf.Slices.SearchI
import Derived.Shelf.Slices.Cells
import Derived.Test.YtlffgdmljioaoaaGreatDoorProg
import Derived.Laws.CopyOwn
import Derived.Test.YtlffgdmljioaoaaGreatDoorD16
import Derived.Test.YtlffgdmljioaoaaGreatDoorD08
import Derived.Test.YtlffgdmljioaoaaGreatDoorD11
import Derived.Test.YtlffgdmljioaoaaGreatDoorD09
import Derived.Test.YtlffgdmljioaoaaGreatDoorD06
import Derived.BigQuiet
import Derived.Deep.QuietTactic
set_option linter.unusedVariables false
set_option linter.unusedSimpArgs false
set_option linter.unusedSectionVars false
set_option linter.constructorNameAsVariable false
/- Walks: times, inside. -/
namespace Go.Proofs.YtlffgdmljioaoaaGreatDoor
open Go.RowKit Go.Mem Go.Sheet
set_option maxRecDepth 100000 in
set_option maxHeartbeats 1000000 in
theorem times_any (W : World) (F F' : Nat → Prop) (vr vx : Value) (r x : List Int) (A B : Int) (hr : Rd W F 1 vr r.length (r.map (Value.int .i64))) (hx : Rd W F' 1 vx x.length (x.map (Value.int .i64)))
    (hlen : r.length ≤ x.length) (hA : ∀ y ∈ r, XB A y) (hB : ∀ y ∈ x, XB B y) (h0 : 0 ≤ A) (h1 : 0 ≤ B) (hAB : A + B ≤ 1125899906842624) :
    Calls Tryz.prog 47 #[plusV, vr, vx] W fun e w' => e = .returned (.int .i64 (timesR r x)) ∧ Below W.heap.size W w' := by
  have hE1 := enters Tryz.func98 (by kernel_rfl) rfl
  have hE2 := enters Tryz.func99 (by kernel_rfl) rfl
  unfold Enters at hE1 hE2
  have HA := Lib.hid hA
  have HB := Lib.hid hB
  have hb1 := (Below.refl W.heap.size W).alloc (Nat.le_refl _) (.cells #[.func (.func 98) #[] #[], .func (.func 99) #[] #[], .int .i64 (-1125899906842624)] 90)
  have hr1 := hr.mono (S' := fun _ => True) fun _ _ _ => trivial
  have hx1 := hx.mono (S' := fun _ => True) fun _ _ _ => trivial
  have hr1 := Rd.later (hr.now) hb1
  have hx1 := Rd.later (hx.now) hb1
  have hrl := hr.le
  have hxl := hx.le
  generalize HRL : r.length = n at *
  generalize HXL : x.length = m at *
  obtain ⟨Ar, cr, rfl, _, _, _⟩ := hr.open_
  obtain ⟨Ax, cx, rfl, _, _, _⟩ := hx.open_
  have HR := Lib.hid hr1
  have HX := Lib.hid hx1
  have HRL := Lib.hid HRL
  clear hr hx hr1 hx1 hA hB
  go_enter Tryz.func47, Tryz.ntmps47
  go_wp2_with fail
  have c0 : (W.alloc (.cells #[.func (.func 98) #[] #[], .func (.func 99) #[] #[], .int .i64 (-1125899906842624)] 90)).cell? ⟨W.heap.size, 0, none⟩ = some (.func (.func 98) #[] #[]) := by simp
  have c1 : (W.alloc (.cells #[.func (.func 98) #[] #[], .func (.func 99) #[] #[], .int .i64 (-1125899906842624)] 90)).cell? ⟨W.heap.size, 1, none⟩ = some (.func (.func 99) #[] #[]) := by simp
  generalize hW1 : W.alloc (.cells #[.func (.func 98) #[] #[], .func (.func 99) #[] #[], .int .i64 (-1125899906842624)] 90) = W1 at *
  have HB1 := Lib.hid hb1
  have hg0 : W.heap.size < W1.heap.size := World.block_lt_of_cell? W1 _ c0
  clear hW1 hb1
  go_loopw [13, 7] (fun i s w' => ∃ (k : Nat) (a : Int), k ≤ n ∧ i = .int .i64 k ∧ s = .int .i64 a ∧ Below W1.heap.size W1 w' ∧ Hid (XB (A + B) a) ∧ Hid (timesF a (r.drop k) (x.drop k) = timesR r x)) (fun i _ _ => n - (intOf i).toNat)
  case atStart => exact ⟨0, _, Nat.zero_le _, rfl, rfl, Below.refl _ _, .inl rfl, rfl⟩
  case round =>
    obtain ⟨k, a, hk, rfl, rfl, hbw, HXB, he⟩ := hrel
    have e0 := (hbw.cell (p := ⟨W.heap.size, 0, none⟩) hg0).trans c0
    have e1 := (hbw.cell (p := ⟨W.heap.size, 1, none⟩) hg0).trans c1
    by_cases hlt : k < n
    · obtain ⟨b, o, y, rfl, hy, k1⟩ := (HR.out.below hbw).int hlt
      obtain ⟨b2, o2, z, rfl, hz, k2⟩ := (HX.out.below hbw).int (k := k) (by omega)
      have hkm : k < m := by omega
      have hya := HA.out y (List.mem_of_getElem? hy)
      have hzb := HB.out z (List.mem_of_getElem? hz)
      have HG := Lib.hid (timesF_go hy hz he.out)
      have HXB2 := Lib.hid (max_bd hAB HXB.out (prodX_bd hya hzb))
      have hyb : -1125899906842624 ≤ y ∧ y ≤ 1125899906842624 := by unfold XB noth at hya; omega
      have hzb' : -1125899906842624 ≤ z ∧ z ≤ 1125899906842624 := by unfold XB noth at hzb; omega
      have HP := Lib.hid (fun w => plus2_any w y z hyb hzb')
      clear hy hz hya hzb
      generalize prodX y z = p at *
      have HM := Lib.hid (fun w => plus1_any w a p)
      generalize max a p = mx at *
      go_wp2_with fail
      go_quiet ((first | (go_at_call 99; exact Calls.quiet_of_same (HP.out _)) | (go_at_call 98; exact Calls.quiet_of_same (HM.out _))))
      go_wp2
      go_roundw
      case rel => exact ⟨k + 1, mx, by omega, by go_num, rfl, below_drewN hbw _, HXB2.out, HG.out⟩
      case measure => simp [intOf]; omega
    · have hkb : decide ((k : Int) < n) = false := by simp; omega
      have HE := Lib.hid (timesF_end (k := k) (by have := HRL.out; omega) he.out)
      go_wp2
      go_ret
      exact ⟨ret_i64 HE.out, HB1.out.trans (hbw.mono HB1.out.size)⟩
theorem insideM_snoc {m : IMat} {k : Nat} {r : List Int} (h : m[k]? = some r) : insideM (m.take (k + 1)) = insideM (m.take k) ++ [innerL r] := by
  rw [take_at h, insideM, List.map_append]; rfl
theorem insideM_len (m : IMat) : (insideM m).length = m.length := by simp [insideM]
theorem innerL_len (l : List Int) : (innerL l).length = l.length := by simp [innerL]
set_option maxRecDepth 100000 in
set_option maxHeartbeats 1000000 in
theorem inside_any (W : World) (v : Value) (m : IMat) (h : RdRows W (· < W.heap.size) v m) (hl : m.length ≤ 1000000000) (hl2 : ∀ r ∈ m, r.length ≤ 1000000000) :
    Calls Tryz.prog 45 #[v] W fun e w' => ∃ v' vs, e = .returned v' ∧ vs.length = m.length ∧ St W w' ([row 23 1 v' m.length vs] ++ ownT 3 vs (insideM m)) := by
  obtain ⟨vs0, h1, h2⟩ := h
  have hvl : vs0.length = m.length := by simpa using h1.len
  generalize HN : m.length = n at *
  obtain ⟨A, c, rfl, _, _, _⟩ := h1.open_
  have HH := Lib.hid h1
  have H2 : Hid (∀ (i : Nat) (x : Value) (r : List Int), vs0[i]? = some x → m[i]? = some r → Rd W (· < W.heap.size) 1 x r.length (ints r)) := h2
  have HL2 := Lib.hid hl2
  have HNN := Lib.hid HN
  clear h1 h2 hvl HN hl2
  have S0 := (St.refl W).row_nil 23 1
  go_enter Tryz.func45, Tryz.ntmps45
  go_wp2
  go_loopw [8, 3] (fun i v w' => ∃ (k : Nat) (vs : List Value), k ≤ n ∧ i = .int .i64 k ∧ Hid (vs.length = k) ∧ St W w' ([row 23 1 v k vs] ++ ownT 3 vs (insideM (m.take k)))) (fun i _ _ => n - (intOf i).toNat)
  case atStart => exact ⟨0, [], Nat.zero_le _, rfl, rfl, S0⟩
  case round =>
    obtain ⟨k, vs, hk, rfl, HV, S⟩ := hrel
    clear S0
    by_cases hlt : k < n
    · obtain ⟨b, o, x, rfl, hx, hc⟩ := (HH.out.below S.bel).val hlt
      have hkm : k < m.length := by rw [HNN.out]; exact hlt
      have hr : m[k]? = some m[k] := List.getElem?_eq_getElem hkm
      have HG := Lib.hid (insideM_snoc hr)
      have hin := fun w (hb : Below W.heap.size W w) => inner_any w x m[k] ((H2.out k x _ hx hr).later hb) (HL2.out _ (List.getElem_mem hkm))
      have HIN := Lib.hid hin
      generalize m[k] = r at *
      have HS := Lib.hid S
      have hbw := S.bel
      clear hx hr hkm hin S
      go_wp2_with fail
      refine (HIN.out _ hbw).mono ?_
      rintro e w3 ⟨v3, rfl, S3⟩
      have S4 := HS.out.call S3
      obtain ⟨A3, c3, rfl, _, _, _⟩ := (S3.row_rd (i := 0) rfl).open_
      clear S3 hc hbw
      go_wp2_with (at_builtin; refine wpList_append_st eltL rfl _ _ rfl rfl (S4.alloc _) (k := 0) rfl rfl (rd_one (by simp)) one_slice (by omega) (by omega) ?_; intro v' w' S' _)
      go_roundw
      case rel =>
        refine ⟨k + 1, vs ++ [.slice A3 r.length c3], by omega, by go_num, by show _ = _; simp [HV.out], ?_⟩
        rw [HG.out, ownT_snoc (by rw [HV.out, insideM_len, List.length_take]; have := HNN.out; omega), innerL_len]
        simpa using S'
      case measure => simp [intOf]; omega
    · have hkb : decide ((k : Int) < n) = false := by simp; omega
      obtain rfl : k = n := by omega
      rw [List.take_of_length_le (Nat.le_of_eq HNN.out)] at S
      have HS := Lib.hid S
      clear S
      go_wp2
      go_ret
      exact ⟨_, vs, rfl, HV.out, HS.out⟩
end Go.Proofs.YtlffgdmljioaoaaGreatDoor
/- Walks: Apply. -/
namespace Go.Sheet
theorem matE_ok {m : IMat} (h : matE m = 0) : m.length ≤ 24 ∧ ∀ r ∈ m, r.length = m.length ∧ ∀ x ∈ r, entryE x = 0 := by
  unfold matE at h
  split at h
  · cases h
  · rename_i h24
    refine ⟨by omega, fun r hr => ?_⟩
    obtain ⟨i, hi, rfl⟩ := List.mem_iff_getElem.1 hr
    have h1 := (eachF_zero _ _ _).1 h i _ (List.getElem?_eq_getElem hi)
    rw [matRowE, fst_zero] at h1
    simp only [List.mem_cons, List.not_mem_nil, or_false, forall_eq_or_imp, forall_eq] at h1
    obtain ⟨a1, a2⟩ := h1
    rw [whenE_zero _ _ (by decide)] at a1
    simp only [decide_eq_false_iff_not] at a1
    refine ⟨by omega, fun x hx => ?_⟩
    obtain ⟨k, hk, rfl⟩ := List.mem_iff_getElem.1 hx
    exact (eachF_zero _ _ _).1 a2 k _ (List.getElem?_eq_getElem hk)
theorem entries_ok {l : List Int} (h : eachF (fun _ n => entryE n) 0 l = 0) : ∀ x ∈ l, entryE x = 0 := by
  intro x hx
  obtain ⟨k, hk, rfl⟩ := List.mem_iff_getElem.1 hx
  exact (eachF_zero _ _ _).1 h k _ (List.getElem?_eq_getElem hk)
theorem innerL_bd {l : List Int} (h : ∀ x ∈ l, entryE x = 0) : ∀ x ∈ innerL l, XB 999999999 x := by
  intro x hx
  obtain ⟨y, hy, rfl⟩ := List.mem_map.1 hx
  exact innerX_bd (h y hy)
theorem insideM_ok {m : IMat} (h : matE m = 0) : ∀ r ∈ insideM m, r.length = m.length ∧ ∀ x ∈ r, XB 999999999 x := by
  intro r hr
  obtain ⟨s, hs, rfl⟩ := List.mem_map.1 hr
  have := (matE_ok h).2 s hs
  exact ⟨by rw [innerL, List.length_map]; exact this.1, innerL_bd this.2⟩
theorem applyE_ok {m : IMat} {x : List Int} (h : applyE m x = 0) : matE m = 0 ∧ x.length = m.length ∧ ∀ y ∈ x, entryE y = 0 := by
  rw [applyE, fst_zero] at h
  simp only [List.mem_cons, List.not_mem_nil, or_false, forall_eq_or_imp, forall_eq] at h
  obtain ⟨h1, h2, h3⟩ := h
  rw [whenE_zero _ _ (by decide)] at h2
  simp only [decide_eq_false_iff_not] at h2
  exact ⟨h1, by omega, entries_ok h3⟩
end Go.Sheet
namespace Go.Proofs.YtlffgdmljioaoaaGreatDoor
open Go.RowKit Go.Mem Go.Sheet
theorem take_map {α : Type} {f : α → Int} {l : List α} {k : Nat} {x : α} (h : l[k]? = some x) : (l.take (k + 1)).map f = (l.take k).map f ++ [f x] := by
  rw [take_at h, List.map_append]; rfl
set_option maxRecDepth 100000 in
set_option maxHeartbeats 1000000 in
theorem apply_any (W : World) (v vx : Value) (m : IMat) (x : List Int) (h : RdRows W (· < W.heap.size) v m) (hx : Rd W (· < W.heap.size) 1 vx x.length (x.map (Value.int .i64))) :
    Calls Tryz.prog 22 #[v, vx] W (RetInts W (applyM m x)) := by
  have hE := enters Tryz.func62 (by kernel_rfl) rfl
  have HM := Lib.hid (checkMatrix_any W v m h)
  have HEA := fun w (hb : Below W.heap.size W w) => each_ints w vx x 62 hE entryE (hx.later hb) entry_any
  have HEA := Lib.hid HEA
  have HA : Hid (applyM m x = if applyE m x ≠ 0 then ([], applyE m x) else outerL ((insideM m).map fun r => timesR r (innerL x))) := rfl
  have HAE : Hid (fst [matE m, whenE ((x.length : Int) != (m.length : Int)) 2, eachF (fun _ n => entryE n) 0 x] = applyE m x) := by
    show _ = _
    have e : ((x.length : Int) != (m.length : Int)) = decide (x.length ≠ m.length) := by rw [Bool.eq_iff_iff]; simp only [bne_iff_ne, decide_eq_true_eq, ne_eq, Int.ofNat_inj]
    rw [applyE, e]
  have HOK : Hid (applyE m x = 0 → matE m = 0 ∧ x.length = m.length ∧ ∀ y ∈ x, entryE y = 0) := applyE_ok
  have HH := Lib.hid h
  have HX := Lib.hid hx
  have hxl := hx.le
  obtain ⟨vs0, h1, h2⟩ := h
  obtain ⟨A, c, rfl, _, _, _⟩ := h1.open_
  obtain ⟨Ax, cx, rfl, _, _, _⟩ := hx.open_
  have hml := h1.le
  clear h1 h2 hx hE
  generalize HN : m.length = n at *
  generalize HNX : x.length = nx at *
  generalize hME : matE m = ME at *
  generalize hXE : eachF (fun _ n => entryE n) 0 x = XE at *
  have HN := Lib.hid HN
  have HNX := Lib.hid HNX
  have HME := Lib.hid hME
  have HXE := Lib.hid hXE
  clear hME hXE
  go_enter Tryz.func22, Tryz.ntmps22
  go_wp2_with fail
  refine HM.out.mono ?_
  rintro e w2 ⟨rfl, hb2⟩
  clear HM
  go_wp2_with (go_at_call 53; refine (when_any _ _ _).mono ?_; rintro e w' ⟨rfl, rfl⟩)
  refine (HEA.out _ hb2).mono ?_
  rintro e w3 ⟨rfl, hb3⟩
  clear HEA
  have hb4 := (hb2.trans (hb3.mono hb2.size)).alloc (hb2.trans (hb3.mono hb2.size)).size (.cells #[.int .i64 ME, .int .i64 (whenE ((nx : Int) != (n : Int)) 2), .int .i64 XE] 28)
  go_wp2_with fail
  refine (first3 _ _ ME (whenE ((nx : Int) != (n : Int)) 2) XE (by simp) (by simp) (by simp) (by simp)).mono ?_
  rw [HAE.out]
  rintro e w' ⟨rfl, rfl⟩
  generalize w3.alloc (.cells #[.int .i64 ME, .int .i64 (whenE ((nx : Int) != (n : Int)) 2), .int .i64 XE] 28) = w4 at *
  clear HAE hb2 hb3
  generalize applyE m x = E at *
  by_cases h0 : (E != 0) = true
  · go_wp2
    go_ret2
    rw [HA.out, if_pos (by simpa using h0)]
    exact RetInts.err hb4
  · have h0' : (E != 0) = false := by simpa using h0
    obtain ⟨hm0, hxm, hxe⟩ := HOK.out (by simpa using h0)
    have HS : Hid (applyM m x = outerL ((insideM m).map fun r => timesR r (innerL x))) := by show _ = _; rw [HA.out, if_neg (by simpa using h0)]
    have hok := matE_ok (by rw [HME.out]; exact hm0)
    have hin := insideM_ok (by rw [HME.out]; exact hm0)
    have hxb := innerL_bd hxe
    have hn24 : n ≤ 24 := by rw [← HN.out]; exact hok.1
    have HI := Lib.hid (inside_any w4 _ m (HH.out.later hb4) (by rw [HN.out]; omega) (fun r hr => by rw [(hok.2 r hr).1, HN.out]; omega))
    rw [HN.out] at HI
    have HIN := Lib.hid hin
    have HXB := Lib.hid hxb
    have HXM := Lib.hid hxm
    have hnx : nx ≤ 24 := by omega
    have HB4 := Lib.hid hb4
    clear h0 hm0 hxm hxe hok hin hxb HOK HA hb4
    go_wp2_with fail
    refine HI.out.mono ?_
    rintro e w5 ⟨v5, vs, rfl, hvs, S5⟩
    clear HI
    have hrows := ownT_rows S5 (k := 0) rfl (by rw [insideM_len, HN.out]; exact hvs)
    have HB5 := Lib.hid (HB4.out.trans (S5.bel.mono HB4.out.size))
    have hvn := (S5.row_rd (i := 0) rfl)
    obtain ⟨A5, c5, rfl, _, _, _⟩ := hvn.open_
    obtain ⟨vs', hr1, hr2⟩ := hrows
    rw [insideM_len, HN.out] at hr1
    have HR1 := Lib.hid hr1
    have HR2 : Hid (∀ (i : Nat) (x : Value) (r : List Int), vs'[i]? = some x → (insideM m)[i]? = some r → Rd w5 (· < w5.heap.size) 1 x r.length (ints r)) := hr2
    clear S5 hvn hr1 hr2 hvs
    have S0 := (St.refl w5).row_nil 3 1
    go_wp2_with fail
    go_loopw [28, 7] (fun i v w' => ∃ (k : Nat), k ≤ n ∧ i = .int .i64 k ∧ St w5 w' [row 3 1 v k (ints (((insideM m).take k).map fun r => timesR r (innerL x)))]) (fun i _ _ => n - (intOf i).toNat)
    case atStart => exact ⟨0, Nat.zero_le _, rfl, S0⟩
    case round =>
      obtain ⟨k, hk, rfl, S⟩ := hrel
      clear S0
      by_cases hlt : k < n
      · obtain ⟨b, o, xr, rfl, hxr, k1⟩ := (HR1.out.later S.bel).val hlt
        have hkm : k < (insideM m).length := by rw [insideM_len, HN.out]; exact hlt
        have hr : (insideM m)[k]? = some (insideM m)[k] := List.getElem?_eq_getElem hkm
        have hrok := HIN.out _ (List.getElem_mem hkm)
        have hrd := HR2.out k xr _ hxr hr
        have HG := Lib.hid (take_map (f := fun r => timesR r (innerL x)) hr)
        generalize (insideM m)[k] = r at *
        have hrl : r.length = n := by rw [hrok.1]; exact HN.out
        rw [hrl] at hrd
        obtain ⟨Ar, cr, rfl, _, _, _⟩ := hrd.open_
        have HRD := Lib.hid hrd
        have HRB := Lib.hid hrok.2
        have HRL := Lib.hid hrl
        have HSS := Lib.hid S
        have hbS := S.bel
        clear hxr hr hrok hrd hrl hkm S
        go_wp2_with fail
        refine (plus_any _).mono ?_
        rintro e w6 ⟨rfl, hb6⟩
        have S6 := HSS.out.ext hb6
        have hb6W := HB5.out.trans (S6.bel.mono HB5.out.size)
        go_wp2_with fail
        refine (inner_any w6 _ x (by rw [HNX.out]; exact HX.out.later hb6W) (by rw [HNX.out]; omega)).mono ?_
        rintro e w7 ⟨v7, rfl, S7⟩
        have S8 := S6.call S7
        have hv7 := S7.row_rd (i := 0) rfl
        rw [← innerL_len] at hv7
        have HT := Lib.hid (times_any w7 _ _ (.slice Ar n cr) v7 r (innerL x) 999999999 999999999 (by rw [HRL.out]; exact HRD.out.later S8.bel) hv7 (by rw [HRL.out, innerL_len, HNX.out]; have := HXM.out; omega) HRB.out HXB.out (by omega) (by omega) (by omega))
        clear S6 S7 hv7 hb6 hb6W hbS k1
        go_wp2_with fail
        refine HT.out.mono ?_
        rintro e w8 ⟨rfl, hb8⟩
        have S9 := S8.ext hb8
        clear HT S8 hb8
        generalize timesR r (innerL x) = tv at *
        go_wp2_with (at_builtin; refine wpList_append_st eltI rfl _ _ rfl rfl (S9.alloc _) (k := 0) rfl rfl (rd_one (by simp)) (one_int _ _) (by omega) (by omega) ?_; intro v' w' S' _)
        have S10 := S'.sub (L' := [row 3 1 v' (k + 1) (ints (((insideM m).take k).map fun r => timesR r (innerL x)) ++ [.int .i64 tv])]) (List.sublist_append_left [_] [_])
        go_roundw
        case rel => exact ⟨k + 1, by omega, by go_num, by rw [HG.out]; simpa [ints] using S10⟩
        case measure => simp [intOf]; omega
      · have hkb : decide ((k : Int) < n) = false := by simp; omega
        obtain rfl : k = n := by omega
        rw [List.take_of_length_le (by rw [insideM_len, HN.out]; omega)] at S
        have hrd := (S.row_rd (i := 0) rfl).mono (S' := (· < wr.heap.size)) fun b hb _ => hb
        have hll : ((insideM m).map fun r => timesR r (innerL x)).length = k := by rw [List.length_map, insideM_len, HN.out]
        rw [← hll] at hrd
        have HO := Lib.hid (outer_any wr _ _ hrd (by rw [hll]; omega))
        have HB6 := Lib.hid (HB5.out.trans (S.bel.mono HB5.out.size))
        clear S hrd hll
        go_wp2_with fail
        refine HO.out.mono ?_
        rintro e w6 ⟨v6, rfl, S6⟩
        have HSF := Lib.hid ((St.of_below HB6.out).call S6)
        clear S6 HO
        generalize outerL ((insideM m).map fun r => timesR r (innerL x)) = R at *
        go_wp2
        go_ret2
        rw [HS.out]
        exact ⟨_, rfl, HSF.out⟩
end Go.Proofs.YtlffgdmljioaoaaGreatDoor
/-
  DERIVED: THE SHELF's CONTRACTS AT THIS DUMP, IN PLAIN WORDS (tools/lay-plain.mjs out of 'TryzShelf.lean', which tools/lay-shelf.mjs wrote): THE SAME DECLARATIONS UNDER THE SAME NAMES: 'import', 'namespace', 'open', 'def', 'theorem' AND NOTHING ELSE: no command of the shelf's: FOR A HAND-IN. Each laying: the table of numbers ('.._ren') and one theorem, a field a fact of the dump's own or the kernel's comparison; each contract: ONE APPLICATION.
-/
namespace Go.Proofs
open Go.Shelf
def Tryz.lays129_ren : Go.Shelf.Ren := ⟨fun | 129 => 179 | n => n, fun | 53 => 199 | 3 => 3 | 4 => 4 | 46 => 163 | 5 => 5 | 9 => 9 | n => n, fun | n => n⟩
theorem Tryz.lays129 : Go.Proofs.Lays.n129 Tryz.prog Tryz.lays129_ren := {
  mixed := by kernel_rfl
  f129 := Tryz.func179.trans (congrArg some (by kernel_rfl))
  t3 := Tryz.underlying3
  a3 := Tryz.isAgg3
  z3 := Tryz.sizeOf3
  v3 := Tryz.zeroValue3
  t4 := Tryz.underlying4
  a4 := Tryz.isAgg4
  z4 := Tryz.sizeOf4
  v4 := Tryz.zeroValue4
  t5 := Tryz.underlying5
  a5 := Tryz.isAgg5
  z5 := Tryz.sizeOf5
  v5 := Tryz.zeroValue5
  t9 := Tryz.underlying9
  a9 := Tryz.isAgg9
  z9 := Tryz.sizeOf9
  v9 := Tryz.zeroValue9
  t46 := Tryz.underlying163
  a46 := Tryz.isAgg163
  z46 := Tryz.sizeOf163
  v46 := Tryz.zeroValue163
  t53 := Tryz.underlying199
  a53 := Tryz.isAgg199
  z53 := Tryz.sizeOf199
  v53 := Tryz.zeroValue199 }
/-- bits.Len64: "Len64 returns the minimum number of bits required to represent x; the result is 0 for x == 0.": IT RETURNS 'Lib.bitLen x'; the world is as it was. ('h0', 'h1': x is a uint64.) (LAID: no walk: one application.) -/
theorem Tryz.bits_Len64 (x : Int) (w : World) (h0 : 0 ≤ x) (h1 : x ≤ 18446744073709551615) :
    Calls Tryz.prog 179 #[.int .u64 x] w fun e w' => e = .returned (.int .i64 (Lib.bitLen x.toNat)) ∧ w' = w := Any.bits_Len64 Tryz.lays129 x w h0 h1
def Tryz.laysM171_ren : Go.Shelf.Ren := ⟨fun | 171 => 169 | 243 => 181 | 246 => 196 | 283 => 199 | 284 => 200 | 285 => 201 | 286 => 202 | 129 => 179 | 317 => 205 | 318 => 206 | 319 => 207 | 320 => 208 | 337 => 210 | 338 => 211 | n => n, fun | 3 => 3 | 9 => 9 | 2 => 2 | 4 => 4 | 171 => 241 | 0 => 0 | 53 => 199 | 37 => 223 | 5 => 5 | 173 => 243 | 212 => 249 | 51 => 196 | 20 => 20 | 213 => 250 | 46 => 163 | 232 => 254 | 233 => 255 | n => n, fun | 17 => 2 | 18 => 4 | 19 => 5 | n => n⟩
theorem Tryz.laysM171 : Go.Proofs.LaysM.n171 Tryz.prog Tryz.laysM171_ren := {
  mixed := by kernel_rfl
  f129 := Tryz.func179.trans (congrArg some (by kernel_rfl))
  f171 := Tryz.func169.trans (congrArg some (by kernel_rfl))
  f243 := Tryz.func181.trans (congrArg some (by kernel_rfl))
  f246 := Tryz.func196.trans (congrArg some (by kernel_rfl))
  f283 := Tryz.func199.trans (congrArg some (by kernel_rfl))
  f284 := Tryz.func200.trans (congrArg some (by kernel_rfl))
  f285 := Tryz.func201.trans (congrArg some (by kernel_rfl))
  f286 := Tryz.func202.trans (congrArg some (by kernel_rfl))
  f317 := Tryz.func205.trans (congrArg some (by kernel_rfl))
  f318 := Tryz.func206.trans (congrArg some (by kernel_rfl))
  f319 := Tryz.func207.trans (congrArg some (by kernel_rfl))
  f320 := Tryz.func208.trans (congrArg some (by kernel_rfl))
  f337 := Tryz.func210.trans (congrArg some (by kernel_rfl))
  f338 := Tryz.func211.trans (congrArg some (by kernel_rfl))
  t0 := Tryz.underlying0
  a0 := Tryz.isAgg0
  z0 := Tryz.sizeOf0
  v0 := Tryz.zeroValue0
  t2 := Tryz.underlying2
  a2 := Tryz.isAgg2
  z2 := Tryz.sizeOf2
  v2 := Tryz.zeroValue2
  t3 := Tryz.underlying3
  a3 := Tryz.isAgg3
  z3 := Tryz.sizeOf3
  v3 := Tryz.zeroValue3
  t4 := Tryz.underlying4
  a4 := Tryz.isAgg4
  z4 := Tryz.sizeOf4
  v4 := Tryz.zeroValue4
  t5 := Tryz.underlying5
  a5 := Tryz.isAgg5
  z5 := Tryz.sizeOf5
  v5 := Tryz.zeroValue5
  t9 := Tryz.underlying9
  a9 := Tryz.isAgg9
  z9 := Tryz.sizeOf9
  v9 := Tryz.zeroValue9
  t20 := Tryz.underlying20
  a20 := Tryz.isAgg20
  z20 := Tryz.sizeOf20
  v20 := Tryz.zeroValue20
  t37 := Tryz.underlying223
  a37 := Tryz.isAgg223
  z37 := Tryz.sizeOf223
  v37 := Tryz.zeroValue223
  t46 := Tryz.underlying163
  a46 := Tryz.isAgg163
  z46 := Tryz.sizeOf163
  v46 := Tryz.zeroValue163
  t51 := Tryz.underlying196
  a51 := Tryz.isAgg196
  z51 := Tryz.sizeOf196
  v51 := Tryz.zeroValue196
  t53 := Tryz.underlying199
  a53 := Tryz.isAgg199
  z53 := Tryz.sizeOf199
  v53 := Tryz.zeroValue199
  t171 := Tryz.underlying241
  a171 := Tryz.isAgg241
  z171 := Tryz.sizeOf241
  v171 := Tryz.zeroValue241
  t173 := Tryz.underlying243
  a173 := Tryz.isAgg243
  z173 := Tryz.sizeOf243
  v173 := Tryz.zeroValue243
  t212 := Tryz.underlying249
  a212 := Tryz.isAgg249
  z212 := Tryz.sizeOf249
  v212 := Tryz.zeroValue249
  t213 := Tryz.underlying250
  a213 := Tryz.isAgg250
  z213 := Tryz.sizeOf250
  t232 := Tryz.underlying254
  a232 := Tryz.isAgg254
  z232 := Tryz.sizeOf254
  v232 := Tryz.zeroValue254
  t233 := Tryz.underlying255
  a233 := Tryz.isAgg255
  z233 := Tryz.sizeOf255
  v233 := Tryz.zeroValue255
  g17 := by kernel_rfl
  g18 := by kernel_rfl
  g19 := by kernel_rfl
  i0 := by kernel_rfl
  i2 := by kernel_rfl
  i3 := by kernel_rfl
  i4 := by kernel_rfl
  i5 := by kernel_rfl
  i9 := by kernel_rfl
  i20 := by kernel_rfl
  i37 := by kernel_rfl
  i46 := by kernel_rfl
  i51 := by kernel_rfl
  i53 := by kernel_rfl
  i171 := by kernel_rfl
  i173 := by kernel_rfl
  i212 := by kernel_rfl
  i232 := by kernel_rfl
  i233 := by kernel_rfl
  m17 := by kernel_rfl
  m18 := by kernel_rfl
  m19 := by kernel_rfl }
open Go.RowKit Go.Sort Go.Lib in
/-- strconv.Itoa: "Itoa is equivalent to FormatInt(int64(i), 10).": i's DECIMAL NUMERAL ('Lib.itoa': a '-' where i is negative, then the digits), FOR EVERY int. The world behind the call: the world before it, new blocks behind the heap (the library's 'var a [24]byte'), draws. (LAID: no walk: one application.) -/
theorem Tryz.strconv_Itoa (n : Int) (h0 : -9223372036854775808 ≤ n) (h1 : n ≤ 9223372036854775807) (w : World) (htab : Lib.TabIs Tryz.prog w "internal/strconv.uint64pow10" .u64 Lib.pow10Tab) :
    Calls Tryz.prog 169 #[.int .i64 n] w fun e w' => e = .returned (.string ⟨(Lib.itoa n).toArray⟩) ∧ ∃ k os, w' = grow (w.drewN k) os := Any.strconv_Itoa Tryz.laysM171 n h0 h1 w htab
def Tryz.lays171_ren : Go.Shelf.Ren := ⟨fun | 171 => 169 | 243 => 181 | 246 => 196 | 283 => 199 | 284 => 200 | 285 => 201 | 286 => 202 | 129 => 179 | 317 => 205 | 318 => 206 | 319 => 207 | 320 => 208 | 337 => 210 | 338 => 211 | n => n, fun | 3 => 3 | 9 => 9 | 2 => 2 | 4 => 4 | 171 => 241 | 0 => 0 | 53 => 199 | 37 => 223 | 5 => 5 | 173 => 243 | 212 => 249 | 51 => 196 | 20 => 20 | 213 => 250 | 46 => 163 | 232 => 254 | 233 => 255 | n => n, fun | 17 => 2 | 18 => 4 | 19 => 5 | n => n⟩
theorem Tryz.lays171 : Go.Proofs.Lays.n171 Tryz.prog Tryz.lays171_ren := {
  mixed := by kernel_rfl
  f129 := Tryz.func179.trans (congrArg some (by kernel_rfl))
  f171 := Tryz.func169.trans (congrArg some (by kernel_rfl))
  f243 := Tryz.func181.trans (congrArg some (by kernel_rfl))
  f246 := Tryz.func196.trans (congrArg some (by kernel_rfl))
  f283 := Tryz.func199.trans (congrArg some (by kernel_rfl))
  f284 := Tryz.func200.trans (congrArg some (by kernel_rfl))
  f285 := Tryz.func201.trans (congrArg some (by kernel_rfl))
  f286 := Tryz.func202.trans (congrArg some (by kernel_rfl))
  f317 := Tryz.func205.trans (congrArg some (by kernel_rfl))
  f318 := Tryz.func206.trans (congrArg some (by kernel_rfl))
  f319 := Tryz.func207.trans (congrArg some (by kernel_rfl))
  f320 := Tryz.func208.trans (congrArg some (by kernel_rfl))
  f337 := Tryz.func210.trans (congrArg some (by kernel_rfl))
  f338 := Tryz.func211.trans (congrArg some (by kernel_rfl))
  t0 := Tryz.underlying0
  a0 := Tryz.isAgg0
  z0 := Tryz.sizeOf0
  v0 := Tryz.zeroValue0
  t2 := Tryz.underlying2
  a2 := Tryz.isAgg2
  z2 := Tryz.sizeOf2
  v2 := Tryz.zeroValue2
  t3 := Tryz.underlying3
  a3 := Tryz.isAgg3
  z3 := Tryz.sizeOf3
  v3 := Tryz.zeroValue3
  t4 := Tryz.underlying4
  a4 := Tryz.isAgg4
  z4 := Tryz.sizeOf4
  v4 := Tryz.zeroValue4
  t5 := Tryz.underlying5
  a5 := Tryz.isAgg5
  z5 := Tryz.sizeOf5
  v5 := Tryz.zeroValue5
  t9 := Tryz.underlying9
  a9 := Tryz.isAgg9
  z9 := Tryz.sizeOf9
  v9 := Tryz.zeroValue9
  t20 := Tryz.underlying20
  a20 := Tryz.isAgg20
  z20 := Tryz.sizeOf20
  v20 := Tryz.zeroValue20
  t37 := Tryz.underlying223
  a37 := Tryz.isAgg223
  z37 := Tryz.sizeOf223
  v37 := Tryz.zeroValue223
  t46 := Tryz.underlying163
  a46 := Tryz.isAgg163
  z46 := Tryz.sizeOf163
  v46 := Tryz.zeroValue163
  t51 := Tryz.underlying196
  a51 := Tryz.isAgg196
  z51 := Tryz.sizeOf196
  v51 := Tryz.zeroValue196
  t53 := Tryz.underlying199
  a53 := Tryz.isAgg199
  z53 := Tryz.sizeOf199
  v53 := Tryz.zeroValue199
  t171 := Tryz.underlying241
  a171 := Tryz.isAgg241
  z171 := Tryz.sizeOf241
  v171 := Tryz.zeroValue241
  t173 := Tryz.underlying243
  a173 := Tryz.isAgg243
  z173 := Tryz.sizeOf243
  v173 := Tryz.zeroValue243
  t212 := Tryz.underlying249
  a212 := Tryz.isAgg249
  z212 := Tryz.sizeOf249
  v212 := Tryz.zeroValue249
  t213 := Tryz.underlying250
  a213 := Tryz.isAgg250
  z213 := Tryz.sizeOf250
  t232 := Tryz.underlying254
  a232 := Tryz.isAgg254
  z232 := Tryz.sizeOf254
  v232 := Tryz.zeroValue254
  t233 := Tryz.underlying255
  a233 := Tryz.isAgg255
  z233 := Tryz.sizeOf255
  v233 := Tryz.zeroValue255
  g17 := by kernel_rfl
  g18 := by kernel_rfl
  g19 := by kernel_rfl }
open Go.RowKit Go.Sort Go.Lib in
/-- THE ROAD WITHOUT THE TABLE: 0 <= i < 100: NO PREMISE ON THE WORLD, AND THE WORLD IS AS IT WAS: a row that keeps its argument in that range need list no table ('laid = []'). (LAID: no walk: one application.) -/
theorem Tryz.strconv_Itoa_small (i : Nat) (hi : i < 100) (w : World) :
    Calls Tryz.prog 169 #[.int .i64 i] w fun e w' => e = .returned (.string ⟨(Lib.decDigits i).toArray⟩) ∧ w' = w := Any.strconv_Itoa_small Tryz.lays171 i hi w
def Tryz.lays212_ren : Go.Shelf.Ren := ⟨fun | 212 => 110 | 263 => 144 | 264 => 145 | n => n, fun | 46 => 163 | 51 => 196 | 146 => 197 | 53 => 199 | 148 => 200 | n => n, fun | n => n⟩
theorem Tryz.lays212 : Go.Proofs.Lays.n212 Tryz.prog Tryz.lays212_ren := {
  mixed := by kernel_rfl
  f212 := Tryz.func110.trans (congrArg some (by kernel_rfl))
  f263 := Tryz.func144.trans (congrArg some (by kernel_rfl))
  f264 := Tryz.func145.trans (congrArg some (by kernel_rfl))
  t46 := Tryz.underlying163
  a46 := Tryz.isAgg163
  z46 := Tryz.sizeOf163
  v46 := Tryz.zeroValue163
  t51 := Tryz.underlying196
  a51 := Tryz.isAgg196
  z51 := Tryz.sizeOf196
  v51 := Tryz.zeroValue196
  t53 := Tryz.underlying199
  a53 := Tryz.isAgg199
  z53 := Tryz.sizeOf199
  v53 := Tryz.zeroValue199
  t146 := Tryz.underlying197
  a146 := Tryz.isAgg197
  z146 := Tryz.sizeOf197
  v146 := Tryz.zeroValue197
  t148 := Tryz.underlying200
  a148 := Tryz.isAgg200
  z148 := Tryz.sizeOf200
  v148 := Tryz.zeroValue200 }
open Go.RowKit Go.Lib in
/-- math/bits.Mul: "Mul returns the full-width product of x and y": on a machine of 64 bits: Mul64's. (LAID: no walk: one application.) -/
theorem Tryz.bits_Mul (x y : Nat) (hx : x < 18446744073709551616) (hy : y < 18446744073709551616) (w : World) :
    Calls Tryz.prog 110 #[.int .u64 x, .int .u64 y] w fun e w' => e = .returned (.tuple #[.int .u64 ((x * y / 18446744073709551616 : Nat) : Int), .int .u64 ((x * y % 18446744073709551616 : Nat) : Int)]) ∧ w' = w := Any.bits_Mul Tryz.lays212 x y hx hy w
def Tryz.lays112_ren : Go.Shelf.Ren := ⟨fun | 112 => 104 | n => n, fun | 28 => 23 | 3 => 3 | 4 => 4 | 0 => 0 | n => n, fun | n => n⟩
theorem Tryz.lays112 : Go.Proofs.Lays.n112 Tryz.prog Tryz.lays112_ren := {
  mixed := by kernel_rfl
  f112 := Tryz.func104.trans (congrArg some (by kernel_rfl))
  t0 := Tryz.underlying0
  a0 := Tryz.isAgg0
  z0 := Tryz.sizeOf0
  v0 := Tryz.zeroValue0
  t3 := Tryz.underlying3
  a3 := Tryz.isAgg3
  z3 := Tryz.sizeOf3
  v3 := Tryz.zeroValue3
  t4 := Tryz.underlying4
  a4 := Tryz.isAgg4
  z4 := Tryz.sizeOf4
  v4 := Tryz.zeroValue4
  t28 := Tryz.underlying23
  a28 := Tryz.isAgg23
  z28 := Tryz.sizeOf23
  v28 := Tryz.zeroValue23 }
open Go.RowKit Go.Lib Go.Sort in
/-- The same at a slice of length 0, a nil one too: nothing is read, nothing written, nothing drawn. (LAID: no walk: one application.) -/
theorem Tryz.slices_Reverse_int_empty (a : Option Addr) (cap : Nat) (w : World) :
    Calls Tryz.prog 104 #[.slice a 0 cap] w fun e w' => e = .returned (.tuple #[]) ∧ w' = w := Any.slices_Reverse_int_empty Tryz.lays112 a cap w
open Go.RowKit Go.Lib Go.Sort in
/-- slices.Reverse at []int, of an argument: the n cells hold the elements in reverse. (LAID: no walk: one application.) -/
theorem Tryz.slices_Reverse_int_cells (b off n c : Nat) (zs : List Int) (w : World) (hz : n ≤ zs.length) (hbig : n ≤ 9223372036854775807) (hc : ∀ j, j < zs.length → w.cell? ⟨b, off + j, none⟩ = some (.int .i64 (zs.getD j 0))) (hf : ∀ j, j < n → w.frozen? ⟨b, off + j, none⟩ = false) :
    Calls Tryz.prog 104 #[.slice (some ⟨b, off, none⟩) n c] w fun e w' => e = .returned (.tuple #[]) ∧ ∃ q, w' = (w.drewN q).setCells b off ((zs.take n).reverse.map (Value.int .i64)) := Any.slices_Reverse_int_cells Tryz.lays112 b off n c zs w hz hbig hc hf
end Go.Proofs
/- Walks: slices.Repeat of one number, Holes. -/
namespace Go.Mem
open Go Go.RowKit
theorem row_block {W w : World} {L : List Asr} {i : Nat} {e : TypeId} {g n : Nat} {xs : List Value} (h : St W w L) (hi : L[i]? = some (row e 1 (.slice (some ⟨g, 0, none⟩) n n) n xs)) : w.heap[g]? = some (.cells xs.toArray e (0, 0)) := by
  have ho := h.row_own hi
  rcases ho.2 with ⟨h1, _⟩ | ⟨g', cap, cur, h1, _, hg, _, _, hs, ht⟩
  · cases h1
  · injection h1 with e1 e2 e3
    injection e1 with e1
    injection e1 with e1 _
    subst e1 e3
    rw [List.take_of_length_le (by simp [hs])] at ht
    rw [hg, ← ht]
theorem st_of_block {W w : World} {e : TypeId} {g n : Nat} {xs : List Value} (hb : Below W.heap.size W w) (hg : W.heap.size ≤ g) (h : w.heap[g]? = some (.cells xs.toArray e (0, 0))) (hn : xs.length = n) (hm : n ≤ maxLen) : St W w [row e 1 (.slice (some ⟨g, 0, none⟩) n n) n xs] := by
  have hlt : g < w.heap.size := by
    rcases Nat.lt_or_ge g w.heap.size with h' | h'
    · exact h'
    · rw [Array.getElem?_eq_none h'] at h; cases h
  refine ⟨hb, fun b => b = g, fun b hb' => by subst hb'; exact ⟨hg, hlt⟩, ⟨⟨by rw [hn, Nat.mul_one], .inr ⟨g, n, xs.toArray, rfl, Nat.zero_le _, h, Nat.le_refl _, hm, by simp [hn], ?_⟩⟩, fun g' hg' => by simpa [Value.ownBlock] using hg'.symm⟩, trivial⟩
  rw [List.take_of_length_le (by simp [hn])]
end Go.Mem
namespace Go.Proofs.YtlffgdmljioaoaaGreatDoor
open Go.RowKit Go.Mem Go.Sheet
theorem mul1 (n : Nat) (h : n < 18446744073709551616) (w : World) : Calls Tryz.prog 110 #[.int .u64 1, .int .u64 n] w fun e w' => e = .returned (.tuple #[.int .u64 0, .int .u64 n]) ∧ w = w' := by
  refine (Tryz.bits_Mul 1 n (by decide) h w).mono ?_
  rintro e w' ⟨rfl, rfl⟩
  refine ⟨?_, rfl⟩
  rw [Nat.one_mul, Nat.mod_eq_of_lt h, Nat.div_eq_of_lt h]; rfl
def fillA (a : Int) (n k : Nat) : List Value := List.replicate k (.int .i64 a) ++ List.replicate (n - k) (.int .i64 0)
theorem fillA_len {a : Int} {n k : Nat} (h : k ≤ n) : (fillA a n k).length = n := by simp [fillA]; omega
theorem fillA_at {a : Int} {n k j : Nat} (h : j < k) : (fillA a n k)[j]? = some (.int .i64 a) := by
  rw [fillA, List.getElem?_append_left (by simpa using h), List.getElem?_replicate, if_pos h]
theorem fillA_splice {a : Int} {n k m : Nat} (h : k + m ≤ n) : splice (fillA a n k) k (List.replicate m (.int .i64 a)) = fillA a n (k + m) := by
  rw [splice, fillA, fillA]
  rw [List.take_append_of_le_length (by simp), List.take_of_length_le (by simp), List.drop_append, List.drop_of_length_le (by simp), List.nil_append, List.length_replicate, List.length_replicate, List.drop_replicate, ← List.append_assoc]
  rw [List.replicate_append_replicate]
  congr 2; omega
theorem one_src {w : World} {b0 n : Nat} {a : Int} (h : w.cell? ⟨b0, 0, none⟩ = some (.int .i64 a)) : ∀ (j : Nat) (v : Value), (List.replicate (Nat.min 1 n) (Value.int .i64 a))[j]? = some v → w.cell? ((⟨b0, 0, none⟩ : Addr).add j) = some v := by
  intro j v hv
  have hj : j < 1 := by have h1 := (List.getElem?_eq_some_iff.1 hv).1; rw [List.length_replicate] at h1; have : Nat.min 1 n ≤ 1 := Nat.min_le_left 1 n; omega
  have hj0 : j = 0 := by omega
  subst hj0
  have := (List.mem_replicate.1 (List.mem_of_getElem? hv)).2
  subst this
  rw [Addr.add_lit]
  exact h
theorem src_fill {w : World} {g n k m : Nat} {a : Int} (h : w.heap[g]? = some (.cells (fillA a n k).toArray 3 (0, 0))) (hm : m ≤ k) : ∀ (j : Nat) (v : Value), (List.replicate m (Value.int .i64 a))[j]? = some v → w.cell? ((⟨g, 0, none⟩ : Addr).add j) = some v := by
  intro j v hv
  have hj : j < m := by have h1 := (List.getElem?_eq_some_iff.1 hv).1; rwa [List.length_replicate] at h1
  have := (List.mem_replicate.1 (List.mem_of_getElem? hv)).2
  subst this
  rw [Addr.add_lit, Nat.zero_add, cell_of_row w g j _ _ _ h]
  simpa using fillA_at (by omega)
theorem one_fit (a : Int) (n : Nat) : 0 + (List.replicate (Nat.min 1 n) (Value.int .i64 a)).length ≤ (fillA a n 0).length := by
  rw [List.length_replicate, fillA_len (Nat.zero_le _)]; have : Nat.min 1 n ≤ n := Nat.min_le_right 1 n; omega
set_option maxRecDepth 100000 in
set_option maxHeartbeats 1000000 in
theorem repeat1_any (W : World) (b0 : Nat) (a : Int) (n : Nat) (c0 : W.cell? ⟨b0, 0, none⟩ = some (.int .i64 a)) (hn : n ≤ 1000) :
    Calls Tryz.prog 57 #[.slice (some ⟨b0, 0, none⟩) 1 1, .int .i64 n] W fun e w' => ∃ g, e = .returned (.slice (some ⟨g, 0, none⟩) n n) ∧ St W w' [row 3 1 (.slice (some ⟨g, 0, none⟩) n n) n (List.replicate n (.int .i64 a))] := by
  have hb0 : b0 < W.heap.size := World.block_lt_of_cell? W _ c0
  have hnn : ¬ (n : Int) < 0 := by omega
  go_enter Tryz.func57, Tryz.ntmps57
  have hbig : decide ((9223372036854775807 : Int) < n) = false := by simp; omega
  go_wp2_with (first
    | (go_at_call 110; refine (mul1 n (by omega) _).mono ?_; rintro e w' ⟨rfl, rfl⟩)
    | (refine wpList_make_st eltI rfl _ _ rfl (n := n) rfl rfl (St.refl W) (by omega) (by omega) ?_; intro w1 g S1 hg hb1
       have HB1 : Hid (w1.heap[g]? = some (.cells (fillA a n 0).toArray 3 (0, 0))) := by
         show _ = _
         have h1 := row_block S1 (i := 0) rfl
         have hz : (madeCells (Value.int .i64 0).cells (n * 1)).toList = fillA a n 0 := by
           show (madeCells #[.int .i64 0] (n * 1)).toList = _
           rw [toList_madeCells_one]; simp [fillA]
         rw [hz] at h1; exact h1
       have HK2 := Lib.hid (one_src (n := n) ((hb1.cell (p := ⟨b0, 0, none⟩) hb0).trans c0))
       have HK3 := Lib.hid (one_fit a n))
    | (refine wpList_copy_splice rfl _ _ 23 23 rfl 3 Tryz.underlying23 (by kernel_rfl) (some ⟨g, 0, none⟩) (some ⟨b0, 0, none⟩) n n 1 1 rfl rfl g 0 (fillA a n 0) 3 HB1.out (List.replicate (Nat.min 1 n) (.int .i64 a)) List.length_replicate (fun _ => ⟨rfl, _, rfl, HK2.out⟩) HK3.out (fun v hv => by rw [(List.mem_replicate.1 hv).2]; rfl) W.heap.size W hb1 hg ?_
       intro w2 HB2 hb2))
  have HF : Hid (∃ k, k = Nat.min 1 n ∧ w2.heap[g]? = some (.cells (fillA a n k).toArray 3 (0, 0))) := by
    refine ⟨_, rfl, ?_⟩
    rw [HB2.out, fillA_splice (by have : Nat.min 1 n ≤ n := Nat.min_le_right 1 n; omega), Nat.zero_add]
  clear HK2 HK3 HB1 HB2 S1 hb1 c0 hb0
  go_loopw [8] (fun i w' => ∃ (k : Nat), k ≤ n ∧ i = .int .i64 k ∧ (0 < n → 0 < k) ∧ Below W.heap.size W w' ∧ Hid (w'.heap[g]? = some (.cells (fillA a n k).toArray 3 (0, 0)))) (fun i _ => n - (intOf i).toNat)
  case atStart =>
    obtain ⟨k, hk, hh⟩ := HF.out
    subst hk
    exact ⟨_, Nat.min_le_right 1 n, by simp, fun h => by show 0 < min 1 n; omega, hb2, hh⟩
  case round =>
    obtain ⟨k, hk, rfl, hk0, hb, HC⟩ := hrel
    clear HF hb2
    by_cases hlt : k < n
    · have hk1 : 0 < k := hk0 (by omega)
      have hkn : (k : Int) < n := by omega
      have HK0 : Hid (0 < n → 0 < k) := hk0
      clear hk0
      go_wp2_with fail
      refine wp_pre_tail 1 7 (fun w' => ∃ q, w' = wr.drewN q) (by kernel_rfl) (by kernel_rfl) ⟨1, rfl⟩ ?_
      simp only [List.take_succ_cons, List.take_zero, List.drop_succ_cons, List.drop_zero, Nat.reduceSub]
      generalize hK : (fun w' => ∃ q, w' = wr.drewN q) = K
      intro hne
      have kw : ∀ y : Wd K, ∃ q, y.w = wr.drewN q := by subst hK; exact fun y => y.h
      clear hK
      change wpQuiet _ _ _ _ (_ :: []) _
      go_big_quiet_step ((fail))
      refine wpQuiet_nil ?_
      repeat (go_big_quiet_step ((fail)))
      refine wpQuiet_nil ?_
      intro y
      obtain ⟨q, hq⟩ := kw y
      have hb3 : Below W.heap.size W y.w := by rw [hq]; exact below_drewN hb q
      have HC3 : Hid (y.w.heap[g]? = some (.cells (fillA a n k).toArray 3 (0, 0))) := by show _ = _; rw [hq]; exact HC.out
      clear kw hq hb HC
      generalize y.w = w3 at *
      obtain ⟨m, hm⟩ : ∃ m, m = Nat.min k (n - k) := ⟨_, rfl⟩
      have hm1 : m ≤ n - k := by rw [hm]; exact Nat.min_le_right _ _
      have hm2 : m ≤ k := by rw [hm]; exact Nat.min_le_left _ _
      have hm0 : 0 < m := by rw [hm]; show 0 < min k (n - k); omega
      have HK2 := Lib.hid (src_fill HC3.out hm2)
      have HK3 : Hid (k + (List.replicate m (Value.int .i64 a)).length ≤ (fillA a n k).length) := by
        show _ ≤ _
        rw [List.length_replicate, fillA_len hk]; omega
      have HMM := Lib.hid hm
      clear hm
      refine wpList_copy_splice rfl _ _ 23 23 rfl 3 Tryz.underlying23 (by kernel_rfl) (some ⟨g, k, none⟩) (some ⟨g, 0, none⟩) (n - k) (n - k) k n rfl rfl g k (fillA a n k) 3 HC3.out (List.replicate m (.int .i64 a)) (by rw [List.length_replicate, HMM.out]) (fun _ => ⟨rfl, _, rfl, HK2.out⟩) HK3.out (fun v hv => by rw [(List.mem_replicate.1 hv).2]; rfl) W.heap.size W hb3 hg ?_
      intro w4 HC4 hb4
      have HC5 : Hid (w4.heap[g]? = some (.cells (fillA a n (k + m)).toArray 3 (0, 0))) := by
        show _ = _
        rw [HC4.out, fillA_splice (by omega)]
      clear HC4 HC3 HMM HK2 HK3
      simp only [List.length_replicate]
      go_wp2_with fail
      refine NoPanic.normal ?_
      go_wp2
      go_roundw
      case rel => exact ⟨k + m, by omega, by simp, fun _ => by omega, hb4, HC5.out⟩
      case measure => simp [intOf]; omega
    · have hkb : decide ((k : Int) < n) = false := by simp; omega
      obtain rfl : k = n := by omega
      have S := st_of_block hb hg HC.out (fillA_len (Nat.le_refl _)) (by unfold maxLen; omega)
      have HS : Hid (St W wr [row 3 1 (.slice (some ⟨g, 0, none⟩) k k) k (List.replicate k (.int .i64 a))]) := by
        show St _ _ _
        simpa [fillA] using S
      clear S hk0
      go_wp2
      go_ret
      exact ⟨g, rfl, HS.out⟩
end Go.Proofs.YtlffgdmljioaoaaGreatDoor
/- The reference's matrices of max-plus are the program's: plain law. -/
namespace Go.Sheet
def hole : Int := -1000000000000000
theorem col_bd {b : IMat} {n k : Nat} {B : Int} (hk : k < n) (h : XOk n B b) : ∀ y ∈ col b k, XB B y := by
  intro y hy
  obtain ⟨r, hr, rfl⟩ := List.mem_map.1 hy
  have hl := h.len r hr
  rw [List.getD_eq_getElem?_getD, List.getElem?_eq_getElem (by omega), Option.getD_some]
  exact h.bd r hr _ (List.getElem_mem _)
theorem matMul_ok {a b : IMat} {n : Nat} {A B : Int} (bAB : A + B ≤ 1125899906842624) (ha : XOk n A a) (hb : XOk n B b) (lb : b.length = n) : XOk n (A + B) (matMul a b) := by
  constructor
  · intro r hr
    obtain ⟨s, hs, rfl⟩ := List.mem_map.1 hr
    rw [List.length_map, List.length_range, lb]
  · intro r hr x hx
    obtain ⟨s, hs, rfl⟩ := List.mem_map.1 hr
    obtain ⟨k, hk, rfl⟩ := List.mem_map.1 hx
    have hk' : k < n := by rw [← lb]; exact List.mem_range.1 hk
    exact timesF_bd bAB s (col b k) noth (.inl rfl) (fun y hy => ha.bd s hs y hy) (col_bd hk' hb)
theorem matMul_len (a b : IMat) : (matMul a b).length = a.length := by simp [matMul]
theorem XOk.mono {n : Nat} {A B : Int} {m : IMat} (h : XOk n A m) (hAB : A ≤ B) : XOk n B m :=
  ⟨h.len, fun r hr x hx => by rcases h.bd r hr x hx with h | h; exact .inl h; right; omega⟩
theorem insideM_xok {m : IMat} (h : matE m = 0) : XOk m.length 999999999 (insideM m) := ⟨fun r hr => (insideM_ok h r hr).1, fun r hr x hx => (insideM_ok h r hr).2 x hx⟩
theorem unitM_xok (n : Nat) : XOk n 0 (unitM n) := by
  constructor
  · intro r hr
    obtain ⟨i, hi, rfl⟩ := List.mem_map.1 hr
    simp
  · intro r hr x hx
    obtain ⟨i, hi, rfl⟩ := List.mem_map.1 hr
    rcases List.mem_or_eq_of_mem_set hx with h | h
    · exact .inl (List.eq_of_mem_replicate h)
    · exact .inr (by omega)
theorem unitM_len (n : Nat) : (unitM n).length = n := by simp [unitM]
theorem powM_ok {own : IMat} {A : Int} {n : Nat} (h0 : 0 ≤ A ∧ A ≤ 1000000000) (h : XOk n A own) (hl : own.length = n) : ∀ t : Nat, t ≤ 64 → XOk n (A * t) (powM own t) ∧ (powM own t).length = n := by
  intro t
  induction t with
  | zero => intro _; rw [powM, hl]; exact ⟨(unitM_xok n).mono (by omega), unitM_len n⟩
  | succ t ih =>
    intro ht
    obtain ⟨h1, h2⟩ := ih (by omega)
    have hb : A * (t : Int) ≤ 1000000000 * 64 := Int.mul_le_mul h0.2 (by omega) (by omega) (by omega)
    rw [powM]
    refine ⟨?_, by rw [matMul_len, h2]⟩
    have := matMul_ok (by omega) h1 h hl
    rw [show A * ((t + 1 : Nat) : Int) = A * t + A by rw [Int.natCast_add, Int.mul_add]; simp]
    exact this
end Go.Sheet
/- Walks: matrix, result, Product, Power. -/
namespace Go.Proofs.YtlffgdmljioaoaaGreatDoor
open Go.RowKit Go.Mem Go.Sheet
/-- a row of a table, now and later -/
theorem row_of {w : World} {A : Option Addr} {n c k : Nat} {m : IMat} {r : List Int} (h : RdRows w (· < w.heap.size) (.slice A n c) m) (hk : m[k]? = some r) :
    ∃ b o Ar cr, A = some ⟨b, o, none⟩ ∧ ∀ w', Below w.heap.size w w' → w'.cell? ⟨b, o + k, none⟩ = some (.slice Ar r.length cr) ∧ Rd w' (· < w'.heap.size) 1 (.slice Ar r.length cr) r.length (ints r) := by
  obtain ⟨vs, h1, h2⟩ := h
  obtain ⟨b, o, x, hA, hx, hc⟩ := h1.val (k := k) (List.getElem?_eq_some_iff.1 hk).1
  have hr := h2 k x r hx hk
  obtain ⟨Ar, cr, rfl, _, _, _⟩ := hr.open_
  exact ⟨b, o, Ar, cr, hA, fun w' hb => ⟨(hb.cell (p := ⟨b, o + k, none⟩) (World.block_lt_of_cell? _ _ hc)).trans hc, hr.later hb⟩⟩
theorem matMul_at {a b : IMat} {n k : Nat} {r : List Int} (lb : b.length = n) (h : a[k]? = some r) : (matMul a b)[k]? = some ((List.range n).map fun j => timesR r (col b j)) := by
  rw [matMul, List.getElem?_map, h, lb]; rfl
theorem col_snoc {b : IMat} {j k : Nat} {r : List Int} {x : Int} (h : b[j]? = some r) (hx : r[k]? = some x) : (col b k).take (j + 1) = (col b k).take j ++ [x] := by
  refine take_at ?_
  rw [col, List.getElem?_map, h]
  show some (r.getD k 0) = _
  rw [List.getD_eq_getElem?_getD, hx]; rfl
set_option maxRecDepth 100000 in
set_option maxHeartbeats 4000000 in
theorem matrix_any (W : World) (va vb : Value) (a b : IMat) (n : Nat) (A B : Int) (ha : RdRows W (· < W.heap.size) va a) (hb : RdRows W (· < W.heap.size) vb b) (la : a.length = n) (lb : b.length = n) (xa : XOk n A a) (xb : XOk n B b) (h24 : n ≤ 24) (h0 : 0 ≤ A) (h1 : 0 ≤ B) (hAB : A + B ≤ 1125899906842624) :
    Calls Tryz.prog 61 #[plusV, va, vb] W fun e w' => ∃ v', e = .returned v' ∧ Below W.heap.size W w' ∧ RdRows w' (· < w'.heap.size) v' (matMul a b) := by
  have hb1 := (Below.refl W.heap.size W).alloc (Nat.le_refl _) (.cells #[.func (.func 98) #[] #[], .func (.func 99) #[] #[], .int .i64 (-1125899906842624)] 90)
  have HA := Lib.hid (ha.later hb1)
  have HB := Lib.hid (hb.later hb1)
  obtain ⟨vsa, g1, _⟩ := ha
  obtain ⟨vsb, g3, _⟩ := hb
  rw [la] at g1
  rw [lb] at g3
  obtain ⟨Aa, ca, rfl, _, _, _⟩ := g1.open_
  obtain ⟨Ab, cb, rfl, _, _, _⟩ := g3.open_
  clear g1 g3
  have HXA := Lib.hid xa
  have HXB := Lib.hid xb
  have HLA := Lib.hid la
  have HLB := Lib.hid lb
  have HML : Hid ((matMul a b).length = n) := (matMul_len a b).trans la
  have HB1 := Lib.hid hb1
  clear xa xb la lb hb1
  have c0 : (W.alloc (.cells #[.func (.func 98) #[] #[], .func (.func 99) #[] #[], .int .i64 (-1125899906842624)] 90)).cell? ⟨W.heap.size, 0, none⟩ = some (.func (.func 98) #[] #[]) := by simp
  have c1 : (W.alloc (.cells #[.func (.func 98) #[] #[], .func (.func 99) #[] #[], .int .i64 (-1125899906842624)] 90)).cell? ⟨W.heap.size, 1, none⟩ = some (.func (.func 99) #[] #[]) := by simp
  have c2 : (W.alloc (.cells #[.func (.func 98) #[] #[], .func (.func 99) #[] #[], .int .i64 (-1125899906842624)] 90)).cell? ⟨W.heap.size, 2, none⟩ = some (.int .i64 (-1125899906842624)) := by simp
  go_enter Tryz.func61, Tryz.ntmps61
  go_wp2_with fail
  generalize W.alloc (.cells #[.func (.func 98) #[] #[], .func (.func 99) #[] #[], .int .i64 (-1125899906842624)] 90) = W1 at *
  have hg0 : W.heap.size < W1.heap.size := World.block_lt_of_cell? W1 _ c0
  have HK : Hid (∀ w', Below W1.heap.size W1 w' → w'.cell? ⟨W.heap.size, 0, none⟩ = some (.func (.func 98) #[] #[]) ∧ w'.cell? ⟨W.heap.size, 1, none⟩ = some (.func (.func 99) #[] #[]) ∧ w'.cell? ⟨W.heap.size, 2, none⟩ = some (.int .i64 (-1125899906842624))) :=
    fun w' hb => ⟨(hb.cell (p := ⟨W.heap.size, 0, none⟩) hg0).trans c0, (hb.cell (p := ⟨W.heap.size, 1, none⟩) hg0).trans c1, (hb.cell (p := ⟨W.heap.size, 2, none⟩) hg0).trans c2⟩
  have HBW : Hid (∀ w', Below W1.heap.size W1 w' → Below W.heap.size W w') := fun w' hb => HB1.out.trans (hb.mono HB1.out.size)
  clear c0 c1 c2 hg0 HB1
  generalize W.heap.size = gp at HK ⊢
  have S0 := (St.refl W1).row_nil 23 1
  go_loopw [15, 7] (fun i v w' => ∃ (k : Nat) (vs : List Value), k ≤ n ∧ i = .int .i64 k ∧ Hid (vs.length = k) ∧ St W1 w' ([row 23 1 v k vs] ++ ownT 3 vs ((matMul a b).take k))) (fun i _ _ => n - (intOf i).toNat)
  case atStart => exact ⟨0, [], Nat.zero_le _, rfl, rfl, S0⟩
  case round =>
    obtain ⟨k, vs, hk, rfl, HV, S⟩ := hrel
    clear S0
    by_cases hlt : k < n
    · have hka : k < a.length := by rw [HLA.out]; exact hlt
      have hra : a[k]? = some a[k] := List.getElem?_eq_getElem hka
      obtain ⟨ba, oa, Ar, cr, hAa, hrow⟩ := row_of HA.out hra
      subst hAa
      have hrl := HXA.out.len _ (List.getElem_mem hka)
      have hrb := HXA.out.bd _ (List.getElem_mem hka)
      have HMA := Lib.hid (matMul_at HLB.out hra)
      generalize a[k] = r at *
      rw [hrl] at hrow
      have HRL := Lib.hid hrl
      have HRB := Lib.hid hrb
      have HROW := Lib.hid hrow
      obtain ⟨RW, hRW⟩ : ∃ RW, (List.range n).map (fun j => timesR r (col b j)) = RW := ⟨_, rfl⟩
      have HRW : Hid (RW.length = n ∧ ∀ j, j < n → RW[j]? = some (timesR r (col b j))) := by
        subst hRW
        refine ⟨by simp, fun j hj => ?_⟩
        rw [List.getElem?_map, List.getElem?_range hj]; rfl
      rw [hRW] at HMA
      have HS := Lib.hid S
      clear hra hrl hrb hrow hka hRW S
      obtain ⟨wA, hwA⟩ : ∃ w, w = wr := ⟨_, rfl⟩
      subst hwA
      go_wp2_with fail
      have S1 := (St.refl wA).row_nil 3 1
      have HBR := Lib.hid HS.out.bel
      go_loopw [20, 9] (fun i v w' => ∃ (m : Nat), m ≤ n ∧ i = .int .i64 m ∧ St wA w' [row 3 1 v m (ints (RW.take m))]) (fun i _ _ => n - (intOf i).toNat)
      case atStart => exact ⟨0, Nat.zero_le _, rfl, S1⟩
      case round =>
        obtain ⟨m, hm, rfl, S2⟩ := hrel
        clear S1
        obtain ⟨wB, hwB⟩ : ∃ w, w = wr := ⟨_, rfl⟩
        subst hwB
        have HS2 := Lib.hid S2
        have HBR2 := Lib.hid (HBR.out.trans (S2.bel.mono HBR.out.size))
        clear S2
        by_cases hml : m < n
        · go_wp2_with fail
          have S3 := (St.refl wB).row_nil 3 1
          go_loopw [25, 11] (fun i v w' => ∃ (j : Nat), j ≤ n ∧ i = .int .i64 j ∧ St wB w' [row 3 1 v j (ints ((col b m).take j))]) (fun i _ _ => n - (intOf i).toNat)
          case atStart => exact ⟨0, Nat.zero_le _, rfl, S3⟩
          case round =>
            obtain ⟨j, hj, rfl, S4⟩ := hrel
            clear S3
            have HBR3 := Lib.hid (HBR2.out.trans (S4.bel.mono HBR2.out.size))
            by_cases hjl : j < n
            · have hjb : j < b.length := by rw [HLB.out]; exact hjl
              have hrbj : b[j]? = some b[j] := List.getElem?_eq_getElem hjb
              obtain ⟨bb, ob, bb', ob', cb', x, hAb, k1, hcb', hx, k2⟩ := rows_at (HB.out.later HBR3.out) hrbj (HXB.out.len _ (List.getElem_mem hjb)) hml
              subst hAb
              have HCS := Lib.hid (col_snoc hrbj hx)
              clear hrbj hx hjb
              go_wp2_with (at_builtin; refine wpList_append_st eltI rfl _ _ rfl rfl (S4.alloc _) (k := 0) rfl rfl (rd_one (by simp)) (one_int _ _) (by omega) (by omega) ?_; intro v' w' S' _)
              go_roundw
              case rel => exact ⟨j + 1, by omega, by go_num, by rw [HCS.out]; simpa [ints] using S'⟩
              case measure => simp [intOf]; omega
            · obtain rfl : j = n := by omega
              have hcl : (col b m).length = j := by rw [col, List.length_map]; exact HLB.out
              rw [List.take_of_length_le (by omega)] at S4
              have hvc := (S4.row_rd (i := 0) rfl).now
              have hcb : ∀ y ∈ col b m, XB B y := col_bd hml HXB.out
              obtain ⟨Av, cv, rfl, _, _, _⟩ := hvc.open_
              obtain ⟨d0, d1⟩ := HROW.out _ HBR3.out
              obtain ⟨p0, p1, p2⟩ := HK.out _ HBR3.out
              have hC : ∀ w, Below wr.heap.size wr w → Calls Tryz.prog 47 #[plusV, .slice Ar j cr, .slice Av j cv] w fun e w' => e = .returned (.int .i64 (timesR r (col b m))) ∧ Below w.heap.size w w' := fun w hw =>
                times_any w _ _ (.slice Ar j cr) (.slice Av j cv) r (col b m) A B (by rw [HRL.out]; exact d1.later hw) (by rw [hcl]; exact hvc.later hw) (by rw [HRL.out, hcl]; exact Nat.le_refl _) HRB.out hcb h0 h1 hAB
              have HC := Lib.hid hC
              have z0 := World.block_lt_of_cell? _ _ d0
              have z1 := World.block_lt_of_cell? _ _ p0
              have HS4 := Lib.hid ((HS2.out.call S4).sub (L' := [_]) (List.sublist_append_left [_] [_]))
              have HTM := Lib.hid (HRW.out.2 m hml)
              clear hvc hcb d1 hC S4 hcl
              generalize timesR r (col b m) = tv at *
              have tjj : decide ((j : Int) < (j : Int)) = false := by simp
              go_wp2_with fail
              clear tjj
              refine wp_pre_tail 1 8 (fun w' => Below wr.heap.size wr w') (by kernel_rfl) (by kernel_rfl) (Below.refl _ _).drew ?_
              simp only [List.take_succ_cons, List.take_zero, List.drop_succ_cons, List.drop_zero, Nat.reduceSub]
              generalize hK : (fun w' => Below wr.heap.size wr w') = K
              intro hne
              have kb : ∀ y : Wd K, Below wr.heap.size wr y.w := by subst hK; exact fun y => y.h
              have hK3 : ∀ w w', K w → Below w.heap.size w w' → K w' := by subst hK; exact fun w w' h h' => h.trans (h'.mono h.size)
              have y0 : ∀ y : Wd K, y.w.cell? ⟨ba, oa + k, none⟩ = some (.slice Ar j cr) := fun y => ((kb y).cell (p := ⟨ba, oa + k, none⟩) z0).trans d0
              have y1 : ∀ y : Wd K, y.w.cell? ⟨gp, 0, none⟩ = some (.func (.func 98) #[] #[]) := fun y => ((kb y).cell (p := ⟨gp, 0, none⟩) z1).trans p0
              have y2 : ∀ y : Wd K, y.w.cell? ⟨gp, 1, none⟩ = some (.func (.func 99) #[] #[]) := fun y => ((kb y).cell (p := ⟨gp, 1, none⟩) z1).trans p1
              have y3 : ∀ y : Wd K, y.w.cell? ⟨gp, 2, none⟩ = some (.int .i64 (-1125899906842624)) := fun y => ((kb y).cell (p := ⟨gp, 2, none⟩) z1).trans p2
              have hC : ∀ y : Wd K, Calls Tryz.prog 47 #[plusV, .slice Ar j cr, .slice Av j cv] y.w fun e w' => e = .returned (.int .i64 tv) ∧ Below y.w.heap.size y.w w' := fun y => HC.out _ (kb y)
              clear hK d0 p0 p1 p2
              change wpQuiet _ _ _ _ (_ :: []) _
              go_big_quiet_step ((fail))
              refine wpQuiet_nil ?_
              repeat (go_big_quiet_step ((go_at_call 47; with_reducible exact cls_below hK3 (hC _))))
              refine wpQuiet_nil ?_
              intro y
              have S5 := HS4.out.ext (kb y)
              clear y0 y1 y2 y3 hC hK3 hne
              generalize y.w = w5 at *
              go_wp2_with (at_builtin; refine wpList_append_st eltI rfl _ _ rfl rfl (S5.alloc _) (k := 0) rfl rfl (rd_one (by simp)) (one_int _ _) (by omega) (by omega) ?_; intro v' w' S' _)
              refine NoPanic.normal ?_
              go_wp2
              go_roundw
              case rel => exact ⟨m + 1, by omega, by go_num, by rw [take_at HTM.out]; simpa [ints] using S'⟩
              case measure => simp [intOf]; omega
        · obtain rfl : m = n := by omega
          have S6 := HS.out.call HS2.out
          rw [List.take_of_length_le (Nat.le_of_eq HRW.out.1)] at S6
          obtain ⟨Av, cv, rfl, _, _, _⟩ := (HS2.out.row_rd (i := 0) rfl).open_
          have tjj : decide ((m : Int) < (m : Int)) = false := by simp
          have HS6 := Lib.hid S6
          clear S6
          go_wp2_with (at_builtin; refine wpList_append_st eltL rfl _ _ rfl rfl (HS6.out.alloc _) (k := 0) rfl rfl (rd_one (by simp)) one_slice (by omega) (by omega) ?_; intro v' w' S' _)
          go_roundw
          case rel =>
            refine ⟨k + 1, vs ++ [.slice Av m cv], by omega, by go_num, by show _ = _; simp [HV.out], ?_⟩
            rw [take_at HMA.out, ownT_snoc (by rw [HV.out, List.length_take, HML.out]; omega), HRW.out.1]
            simpa using S'
          case measure => simp [intOf]; omega
    · obtain rfl : k = n := by omega
      rw [List.take_of_length_le (Nat.le_of_eq HML.out)] at S
      have hrows := ownT_rows S (k := 0) rfl (by rw [HV.out, HML.out])
      have HRW := Lib.hid hrows
      have hbW := HBW.out _ S.bel
      have tkk : decide ((k : Int) < (k : Int)) = false := by simp
      clear S hrows
      go_wp2
      go_ret
      exact ⟨_, rfl, hbW, HRW.out⟩
theorem resultM_at {m : IMat} {k : Nat} {r : List Int} (h : m[k]? = some r) : (m.take (k + 1)).any (fun r => r.any outerBad) = ((m.take k).any (fun r => r.any outerBad) || r.any outerBad) ∧ (m.take (k + 1)).map (fun r => r.map outerX) = (m.take k).map (fun r => r.map outerX) ++ [r.map outerX] := by
  rw [take_at h]; simp
set_option maxRecDepth 100000 in
set_option maxHeartbeats 4000000 in
theorem result_any (W : World) (v : Value) (m : IMat) (h : RdRows W (· < W.heap.size) v m) (hl : m.length ≤ 1000) (hl2 : ∀ r ∈ m, r.length ≤ 1000) :
    Calls Tryz.prog 60 #[v] W (RetRows W (resultM m)) := by
  obtain ⟨vs0, g1, _⟩ := id h
  generalize hn : m.length = n at *
  obtain ⟨A, c, rfl, _, _, _⟩ := g1.open_
  have HH := Lib.hid h
  have HN := Lib.hid hn
  have HL2 := Lib.hid hl2
  have HRES : Hid (resultM m = if m.any (fun r => r.any outerBad) then ([], 4) else (m.map fun r => r.map outerX, 0)) := rfl
  clear h g1 hn hl2
  have S0 := (St.refl W).row_nil 23 1
  go_enter Tryz.func60, Tryz.ntmps60
  go_wp2_with fail
  go_loopw [11, 4] (fun i v w' => ∃ (k : Nat) (vs : List Value), k ≤ n ∧ i = .int .i64 k ∧ Hid (vs.length = k) ∧ Hid ((m.take k).any (fun r => r.any outerBad) = false) ∧ St W w' ([row 23 1 v k vs] ++ ownT 3 vs ((m.take k).map fun r => r.map outerX))) (fun i _ _ => n - (intOf i).toNat)
  case atStart => exact ⟨0, [], Nat.zero_le _, rfl, rfl, rfl, S0⟩
  case round =>
    obtain ⟨k, vs, hk, rfl, HV, HB, S⟩ := hrel
    clear S0
    by_cases hlt : k < n
    · have hkm : k < m.length := by rw [HN.out]; exact hlt
      have hr : m[k]? = some m[k] := List.getElem?_eq_getElem hkm
      obtain ⟨b, o, Ar, cr, hA, hrow⟩ := row_of HH.out hr
      subst hA
      obtain ⟨d0, d1⟩ := hrow _ S.bel
      have HG := Lib.hid (resultM_at hr)
      have hrl := HL2.out _ (List.getElem_mem hkm)
      have HRM : Hid (m[k].any outerBad = true → m.any (fun r => r.any outerBad) = true) := fun h => List.any_eq_true.2 ⟨_, List.getElem_mem hkm, h⟩
      generalize m[k] = r at *
      have HO := Lib.hid (outer_any wr _ r d1 (by omega))
      have HOL : Hid (outerL r = if r.any outerBad then ([], 4) else (r.map outerX, 0)) := rfl
      generalize outerL r = ol at *
      obtain ⟨ol1, ol2⟩ := ol
      have HS := Lib.hid S
      clear hr hkm hrow S d1
      go_wp2_with fail
      refine HO.out.mono ?_
      rintro e w3 ⟨v3, rfl, S3⟩
      dsimp only at *
      have S4 := HS.out.call S3
      obtain ⟨A3, c3, rfl, _, _, _⟩ := (S3.row_rd (i := 0) rfl).open_
      have hb4 := S4.bel
      have HS4 := Lib.hid S4
      have h63 := (S3.row_rd (i := 0) rfl).le
      clear S3 S4 d0 HO
      cases hbad : r.any outerBad with
      | true =>
        have h1 := HOL.out
        rw [hbad] at h1
        injection h1 with e1 e2
        subst e1 e2
        have HF : Hid (resultM m = ([], 4)) := by show _ = _; rw [HRES.out, if_pos (HRM.out hbad)]
        clear hbad
        go_wp2_with fail
        go_ret2
        rw [HF.out]
        exact ⟨_, rfl, hb4, RdRows.nil _⟩
      | false =>
        have h1 := HOL.out
        rw [hbad] at h1
        injection h1 with e1 e2
        subst e1 e2
        have HBD := Lib.hid hbad
        clear hbad
        go_wp2_with (at_builtin; refine wpList_append_st eltL rfl _ _ rfl rfl (HS4.out.alloc _) (k := 0) rfl rfl (rd_one (by simp)) one_slice (by omega) (by omega) ?_; intro v' w' S' _)
        go_roundw
        case rel =>
          refine ⟨k + 1, vs ++ [.slice A3 (r.map outerX).length c3], by omega, by go_num, by show _ = _; simp [HV.out], by show _ = _; rw [HG.out.1, HB.out, HBD.out]; rfl, ?_⟩
          rw [HG.out.2, ownT_snoc (by rw [HV.out, List.length_map, List.length_take, HN.out]; omega)]
          simpa [ints] using S'
        case measure => simp [intOf]; omega
    · obtain rfl : k = n := by omega
      have hB := HB.out
      rw [List.take_of_length_le (Nat.le_of_eq HN.out)] at S hB
      have hrows := ownT_rows S (k := 0) rfl (by rw [HV.out, List.length_map, HN.out])
      have HF : Hid (resultM m = (m.map fun r => r.map outerX, 0)) := by show _ = _; rw [HRES.out, if_neg (by rw [hB]; decide)]
      have HRW := Lib.hid hrows
      have hbW := S.bel
      have tkk : decide ((k : Int) < (k : Int)) = false := by simp
      clear S hrows hB
      go_wp2
      go_ret2
      rw [HF.out]
      exact ⟨_, rfl, hbW, HRW.out⟩
set_option maxRecDepth 100000 in
set_option maxHeartbeats 4000000 in
theorem product_any (W : World) (va vb : Value) (a b : IMat) (ha : RdRows W (· < W.heap.size) va a) (hb : RdRows W (· < W.heap.size) vb b) :
    Calls Tryz.prog 20 #[va, vb] W (RetRows W (product a b)) := by
  have HMA := Lib.hid (checkMatrix_any W va a ha)
  have HMB := Lib.hid (fun w (h : Below W.heap.size W w) => checkMatrix_any w vb b (hb.later h))
  have HP : Hid (product a b = if fst [matE a, matE b, whenE (decide (a.length ≠ b.length)) 2] ≠ 0 then ([], fst [matE a, matE b, whenE (decide (a.length ≠ b.length)) 2]) else resultM (matMul (insideM a) (insideM b))) := rfl
  have HE : Hid (fst [matE a, matE b, whenE ((a.length : Int) != (b.length : Int)) 2] = fst [matE a, matE b, whenE (decide (a.length ≠ b.length)) 2]) := by
    show _ = _
    have e : ((a.length : Int) != (b.length : Int)) = decide (a.length ≠ b.length) := by rw [Bool.eq_iff_iff]; simp only [bne_iff_ne, decide_eq_true_eq, ne_eq, Int.ofNat_inj]
    rw [e]
  have HOK : Hid (fst [matE a, matE b, whenE (decide (a.length ≠ b.length)) 2] = 0 → matE a = 0 ∧ matE b = 0 ∧ a.length = b.length) := fun h => by
    rw [fst_zero] at h
    simp only [List.mem_cons, List.not_mem_nil, or_false, forall_eq_or_imp, forall_eq] at h
    obtain ⟨h1, h2, h3⟩ := h
    rw [whenE_zero _ _ (by decide)] at h3
    simp only [decide_eq_false_iff_not] at h3
    exact ⟨h1, h2, by omega⟩
  have HA := Lib.hid ha
  have HB := Lib.hid hb
  obtain ⟨vsa, g1, _⟩ := ha
  obtain ⟨vsb, g3, _⟩ := hb
  obtain ⟨Aa, ca, rfl, _, _, _⟩ := g1.open_
  obtain ⟨Ab, cb, rfl, _, _, _⟩ := g3.open_
  have hla := g1.le
  have hlb := g3.le
  clear g1 g3
  generalize hna : a.length = na at *
  generalize hnb : b.length = nb at *
  have HNA := Lib.hid hna
  have HNB := Lib.hid hnb
  generalize hma : matE a = ma at *
  generalize hmb : matE b = mb at *
  have HMAE := Lib.hid hma
  have HMBE := Lib.hid hmb
  generalize fst [ma, mb, whenE (decide (na ≠ nb)) 2] = E at *
  clear hna hnb hma hmb
  go_enter Tryz.func20, Tryz.ntmps20
  go_wp2_with fail
  refine HMA.out.mono ?_
  rintro e w2 ⟨rfl, hb2⟩
  clear HMA
  go_wp2_with fail
  refine (HMB.out _ hb2).mono ?_
  rintro e w3 ⟨rfl, hb3⟩
  clear HMB
  go_wp2_with (go_at_call 53; refine (when_any _ _ _).mono ?_; rintro e w' ⟨rfl, rfl⟩)
  have hb4 := (hb2.trans (hb3.mono hb2.size)).alloc (hb2.trans (hb3.mono hb2.size)).size (.cells #[.int .i64 ma, .int .i64 mb, .int .i64 (whenE ((na : Int) != (nb : Int)) 2)] 28)
  refine (first3 _ _ ma mb (whenE ((na : Int) != (nb : Int)) 2) (by simp) (by simp) (by simp) (by simp)).mono ?_
  rw [HE.out]
  rintro e w' ⟨rfl, rfl⟩
  generalize w3.alloc (.cells #[.int .i64 ma, .int .i64 mb, .int .i64 (whenE ((na : Int) != (nb : Int)) 2)] 28) = w4 at *
  have HB4 := Lib.hid hb4
  clear HE hb2 hb3 hb4
  by_cases h0 : (E != 0) = true
  · have hbW := HB4.out
    go_wp2
    go_ret2
    rw [HP.out, if_pos (by simpa using h0)]
    exact ⟨_, rfl, hbW, RdRows.nil _⟩
  · have h0' : (E != 0) = false := by simpa using h0
    obtain ⟨hm1, hm2, hle⟩ := HOK.out (by simpa using h0)
    have HS : Hid (product a b = resultM (matMul (insideM a) (insideM b))) := by show _ = _; rw [HP.out, if_neg (by simpa using h0)]
    have hea : matE a = 0 := HMAE.out.trans hm1
    have heb : matE b = 0 := HMBE.out.trans hm2
    have oka := matE_ok hea
    have okb := matE_ok heb
    have hxa := insideM_xok hea
    have hxb := insideM_xok heb
    rw [HNA.out] at hxa
    rw [HNB.out, ← hle] at hxb
    have hn24 : na ≤ 24 := by rw [← HNA.out]; exact oka.1
    have HIA := Lib.hid (fun w (h : Below W.heap.size W w) => inside_any w _ a (HA.out.later h) (by rw [HNA.out]; omega) (fun r hr => by rw [(oka.2 r hr).1, HNA.out]; omega))
    have HIB := Lib.hid (fun w (h : Below W.heap.size W w) => inside_any w _ b (HB.out.later h) (by rw [HNB.out]; omega) (fun r hr => by rw [(okb.2 r hr).1, HNB.out]; omega))
    have HXA := Lib.hid hxa
    have HXB := Lib.hid hxb
    have HLE := Lib.hid hle
    clear h0 hm1 hm2 hle hea heb oka okb hxa hxb HOK HP
    go_wp2_with fail
    refine (plus_any _).mono ?_
    rintro e w5 ⟨rfl, hb5⟩
    have HB5 := Lib.hid (HB4.out.trans (hb5.mono HB4.out.size))
    clear HB4 hb5
    go_wp2_with fail
    refine (HIA.out _ HB5.out).mono ?_
    rintro e w6 ⟨v6, vs6, rfl, hv6, S6⟩
    have hr6 := ownT_rows S6 (k := 0) rfl (by rw [insideM_len]; exact hv6)
    have HB6 := Lib.hid (HB5.out.trans (S6.bel.mono HB5.out.size))
    have HR6 := Lib.hid hr6
    clear HB5 S6 hv6 hr6 HIA
    go_wp2_with fail
    refine (HIB.out _ HB6.out).mono ?_
    rintro e w7 ⟨v7, vs7, rfl, hv7, S7⟩
    have hr7 := ownT_rows S7 (k := 0) rfl (by rw [insideM_len]; exact hv7)
    have HB7 := Lib.hid (HB6.out.trans (S7.bel.mono HB6.out.size))
    have HMM := Lib.hid (matrix_any w7 v6 v7 (insideM a) (insideM b) na 999999999 999999999 (HR6.out.later S7.bel) hr7 (by rw [insideM_len, HNA.out]) (by rw [insideM_len, HNB.out, HLE.out]) HXA.out HXB.out hn24 (by omega) (by omega) (by omega))
    have HML := Lib.hid ((matMul_len (insideM a) (insideM b)).trans ((insideM_len a).trans HNA.out))
    have HMR := Lib.hid (matMul_ok (n := na) (a := insideM a) (b := insideM b) (by omega) HXA.out HXB.out (by rw [insideM_len, HNB.out, HLE.out]))
    generalize matMul (insideM a) (insideM b) = mm at *
    clear HB6 HR6 S7 hr7 hv7 HIB
    go_wp2_with fail
    refine HMM.out.mono ?_
    rintro e w8 ⟨v8, rfl, hb8, hr8⟩
    have HB8 := Lib.hid (HB7.out.trans (hb8.mono HB7.out.size))
    have HRS := Lib.hid (result_any w8 v8 mm hr8 (by rw [HML.out]; omega) (fun r hr => by rw [HMR.out.len r hr]; omega))
    clear HB7 HMM hb8 hr8
    go_wp2_with fail
    refine HRS.out.mono ?_
    rintro e w9 ⟨v9, rfl, hb9, hr9⟩
    have HF : Hid (RetRows W (product a b) (.returned (.tuple #[v9, .int .i64 (resultM mm).2])) w9) := by
      show RetRows _ _ _ _
      rw [HS.out]
      exact ⟨v9, rfl, HB8.out.trans (hb9.mono HB8.out.size), hr9⟩
    clear HB8 hb9 hr9 HRS
    go_wp2
    go_ret2
    exact HF.out
theorem unitM_at {n k : Nat} (h : k < n) : (unitM n)[k]? = some ((List.replicate n noth).set k 0) := by
  rw [unitM, List.getElem?_map, List.getElem?_range h]; rfl
theorem set_ints (n k : Nat) (x : Int) (c : Int) : (List.replicate n (Value.int .i64 c)).set k (.int .i64 x) = ints ((List.replicate n c).set k x) := by
  rw [ints, List.map_set, List.map_replicate]
set_option maxRecDepth 100000 in
set_option maxHeartbeats 4000000 in
theorem power_any (W : World) (v : Value) (m : IMat) (z : Int) (h : RdRows W (· < W.heap.size) v m) :
    Calls Tryz.prog 21 #[v, .int .i64 z] W (RetRows W (power m z)) := by
  have HM := Lib.hid (checkMatrix_any W v m h)
  have HP : Hid (power m z = if fst [matE m, outE z 0 64] ≠ 0 then ([], fst [matE m, outE z 0 64]) else resultM (powM (insideM m) z.toNat)) := rfl
  have HOK : Hid (fst [matE m, outE z 0 64] = 0 → matE m = 0 ∧ 0 ≤ z ∧ z ≤ 64) := fun h => by
    rw [fst_zero] at h
    simp only [List.mem_cons, List.not_mem_nil, or_false, forall_eq_or_imp, forall_eq] at h
    exact ⟨h.1, (outE_zero _ _ _).1 h.2⟩
  have HH := Lib.hid h
  obtain ⟨vs0, g1, _⟩ := h
  obtain ⟨A, c, rfl, _, _, _⟩ := g1.open_
  have hl := g1.le
  clear g1
  generalize hn : m.length = n at *
  have HN := Lib.hid hn
  generalize hme : matE m = me at *
  have HME := Lib.hid hme
  generalize hE : fst [me, outE z 0 64] = E at *
  have HE := Lib.hid hE
  clear hn hme hE
  go_enter Tryz.func21, Tryz.ntmps21
  go_wp2_with fail
  refine HM.out.mono ?_
  rintro e w2 ⟨rfl, hb2⟩
  clear HM
  go_wp2_with (go_at_call 56; refine (outside_any _ _ _ _).mono ?_; rintro e w' ⟨rfl, rfl⟩)
  have hb4 := hb2.alloc hb2.size (.cells #[.int .i64 me, .int .i64 (outE z 0 64)] 28)
  refine (first2 _ _ me (outE z 0 64) (by simp) (by simp) (by simp)).mono ?_
  rw [HE.out]
  rintro e w' ⟨rfl, rfl⟩
  generalize w2.alloc (.cells #[.int .i64 me, .int .i64 (outE z 0 64)] 28) = w4 at *
  have HB4 := Lib.hid hb4
  clear HE hb2 hb4
  by_cases h0 : (E != 0) = true
  · have hbW := HB4.out
    go_wp2
    go_ret2
    rw [HP.out, if_pos (by simpa using h0)]
    exact ⟨_, rfl, hbW, RdRows.nil _⟩
  · have h0' : (E != 0) = false := by simpa using h0
    obtain ⟨hm1, hz0, hz1⟩ := HOK.out (by simpa using h0)
    have HS : Hid (power m z = resultM (powM (insideM m) z.toNat)) := by show _ = _; rw [HP.out, if_neg (by simpa using h0)]
    have hea : matE m = 0 := HME.out.trans hm1
    have oka := matE_ok hea
    have hxa := insideM_xok hea
    rw [HN.out] at hxa
    have hn24 : n ≤ 24 := by rw [← HN.out]; exact oka.1
    have HIA := Lib.hid (fun w (h : Below W.heap.size W w) => inside_any w _ m (HH.out.later h) (by rw [HN.out]; omega) (fun r hr => by rw [(oka.2 r hr).1, HN.out]; omega))
    have hlo : (insideM m).length = n := (insideM_len m).trans HN.out
    have HLO := Lib.hid hlo
    have HXA := Lib.hid hxa
    obtain ⟨t0, ht0⟩ : ∃ t0 : Nat, z = (t0 : Int) := ⟨z.toNat, by omega⟩
    subst ht0
    rw [Int.toNat_natCast] at HS
    have HPW := Lib.hid (fun t ht => powM_ok (own := insideM m) (A := 999999999) (by omega) hxa hlo t ht)
    have HP0 : Hid (powM (insideM m) 0 = unitM n) := by show _ = _; rw [powM, hlo]
    have HPS : Hid (∀ t, powM (insideM m) (t + 1) = matMul (powM (insideM m) t) (insideM m)) := fun t => rfl
    clear h0 hm1 hea oka hxa HOK HP hlo
    have S0 := (St.refl w4).row_nil 23 1
    go_wp2_with fail
    go_loopw [22, 7] (fun i v w' => ∃ (k : Nat) (vs : List Value), k ≤ n ∧ i = .int .i64 k ∧ Hid (vs.length = k) ∧ St w4 w' ([row 23 1 v k vs] ++ ownT 3 vs ((unitM n).take k))) (fun i _ _ => n - (intOf i).toNat)
    case atStart => exact ⟨0, [], Nat.zero_le _, rfl, rfl, S0⟩
    case round =>
      obtain ⟨k, vs, hk, rfl, HV, S⟩ := hrel
      clear S0
      by_cases hlt : k < n
      · have HU := Lib.hid (unitM_at hlt)
        have HSS := Lib.hid S
        have hba := (Below.refl wr.heap.size wr).alloc (Nat.le_refl _) (.cells #[.int .i64 (-1125899906842624)] 3)
        have HC := Lib.hid (repeat1_any (wr.alloc (.cells #[.int .i64 (-1125899906842624)] 3)) wr.heap.size (-1125899906842624) n (by simp) (by omega))
        have HS5 := Lib.hid (S.ext hba)
        clear S hba
        go_wp2_with fail
        refine HC.out.mono ?_
        rintro e w5 ⟨g, rfl, S5⟩
        have S6 := HS5.out.call S5
        have hcell : w5.cell? ⟨g, k, none⟩ = some (.int .i64 (-1125899906842624)) := by
          rw [(S5.row_own (i := 0) rfl).cellAt k (by omega), List.getElem?_replicate, if_pos hlt]
        have hfr := (S5.row_own (i := 0) rfl).frozenAt k
        have S7 := S5.row_set (i := 0) rfl k (.int .i64 0)
        simp only [List.set_cons_zero] at S7
        rw [set_ints] at S7
        have S8 := HS5.out.call S7
        have HS8 := Lib.hid S8
        clear S5 S6 S7 S8 HC HSS HS5
        go_wp2_with (at_builtin; refine wpList_append_st eltL rfl _ _ rfl rfl (HS8.out.alloc _) (k := 0) rfl rfl (rd_one (by simp)) one_slice (by omega) (by omega) ?_; intro v' w' S' _)
        go_roundw
        case rel =>
          refine ⟨k + 1, vs ++ [.slice (some ⟨g, 0, none⟩) n n], by omega, by go_num, by show _ = _; simp [HV.out], ?_⟩
          rw [take_at HU.out, ownT_snoc (by rw [HV.out, List.length_take, unitM_len]; omega), List.length_set, List.length_replicate]
          simpa [noth] using S'
        case measure => simp [intOf]; omega
      · obtain rfl : k = n := by omega
        rw [List.take_of_length_le (by rw [unitM_len]; exact Nat.le_refl _)] at S
        have hr5 := ownT_rows S (k := 0) rfl (by rw [HV.out, unitM_len])
        have HB5 := Lib.hid (HB4.out.trans (S.bel.mono HB4.out.size))
        have HR5 := Lib.hid hr5
        have tkk : decide ((k : Int) < (k : Int)) = false := by simp
        obtain ⟨wA, hwA⟩ : ∃ w, w = wr := ⟨_, rfl⟩
        subst hwA
        clear S hr5 HB4 HV
        go_wp2_with fail
        refine (HIA.out _ HB5.out).mono ?_
        rintro e w6 ⟨v6, vs6, rfl, hv6, S6⟩
        have hr6 := ownT_rows S6 (k := 0) rfl (by rw [insideM_len]; exact hv6)
        have HB6 := Lib.hid (HB5.out.trans (S6.bel.mono HB5.out.size))
        have HR6 := Lib.hid hr6
        have HR56 := Lib.hid (HR5.out.later S6.bel)
        rw [← HP0.out] at HR56
        clear HB5 S6 hv6 hr6 HIA HR5 tkk
        go_wp2_with fail
        go_loopw [40, 7] (fun i v w' => ∃ (t : Nat), t ≤ t0 ∧ i = .int .i64 t ∧ Below w6.heap.size w6 w' ∧ Hid (RdRows w' (· < w'.heap.size) v (powM (insideM m) t))) (fun i _ _ => t0 - (intOf i).toNat)
        case atStart => exact ⟨0, Nat.zero_le _, rfl, Below.refl _ _, HR56.out⟩
        case round =>
          obtain ⟨t, ht, rfl, hbt, HRT⟩ := hrel
          by_cases htl : t < t0
          · have HBT := Lib.hid hbt
            obtain ⟨hx1, hx2⟩ := HPW.out t (by omega)
            have hbd : (999999999 : Int) * (t : Int) ≤ 999999999 * 64 := Int.mul_le_mul_of_nonneg_left (by omega) (by omega)
            have hbd0 : 0 ≤ (999999999 : Int) * (t : Int) := Int.mul_nonneg (by omega) (by omega)
            have HX1 := Lib.hid hx1
            have HX2 := Lib.hid hx2
            have HPS1 := Lib.hid (HPS.out t)
            clear hx1 hx2 hbt
            go_wp2_with fail
            refine (plus_any _).mono ?_
            rintro e w7 ⟨rfl, hb7⟩
            have HB7 := Lib.hid (HBT.out.trans (hb7.mono HBT.out.size))
            have HMM := Lib.hid (matrix_any w7 _ v6 (powM (insideM m) t) (insideM m) k (999999999 * t) 999999999 (HRT.out.later hb7) (HR6.out.later HB7.out) HX2.out HLO.out HX1.out HXA.out hn24 hbd0 (by omega) (by omega))
            rw [← HPS1.out] at HMM
            clear hb7 HRT
            go_wp2_with fail
            refine HMM.out.mono ?_
            rintro e w8 ⟨v8, rfl, hb8, hr8⟩
            have HB8 := Lib.hid (HB7.out.trans (hb8.mono HB7.out.size))
            have HR8 := Lib.hid hr8
            clear HB7 HMM hb8 hr8 hbd hbd0
            go_wp2
            go_roundw
            case rel => exact ⟨t + 1, by omega, by go_num, HB8.out, HR8.out⟩
            case measure => simp [intOf]; omega
          · obtain rfl : t = t0 := by omega
            obtain ⟨hx1, hx2⟩ := HPW.out t (by omega)
            have HRS := Lib.hid (result_any wr _ (powM (insideM m) t) HRT.out (by rw [hx2]; omega) (fun r hr => by rw [hx1.len r hr]; omega))
            have HB8 := Lib.hid (HB6.out.trans (hbt.mono HB6.out.size))
            have ttt : decide ((t : Int) < (t : Int)) = false := by simp
            clear hx1 hx2 hbt HRT
            go_wp2_with fail
            refine HRS.out.mono ?_
            rintro e w9 ⟨v9, rfl, hb9, hr9⟩
            have HF : Hid (RetRows W (power m t) (.returned (.tuple #[v9, .int .i64 (resultM (powM (insideM m) t)).2])) w9) := by
              show RetRows _ _ _ _
              rw [HS.out]
              exact ⟨v9, rfl, HB8.out.trans (hb9.mono HB8.out.size), hr9⟩
            clear HB8 hb9 hr9 HRS
            go_wp2
            go_ret2
            exact HF.out
end Go.Proofs.YtlffgdmljioaoaaGreatDoor
/- What the reference's checks answer, in the terms of the program's plain functions. -/
namespace Go.Sheet
def outB (n lo hi : Int) : Bool := decide (n < lo) || decide (hi < n)
theorem outB_false {n lo hi : Int} : outB n lo hi = false ↔ lo ≤ n ∧ n ≤ hi := by
  rw [outB]; simp
end Go.Sheet
/- Walks of the reference: Outside, Weight, CheckSlots. -/
namespace Go.Proofs.YtlffgdmljioaoaaGreatDoor
open Go.RowKit Go.Mem Go.Sheet
theorem outB_any (n lo hi : Int) (w : World) : Calls Tryz.prog 13 #[.int .i64 n, .int .i64 lo, .int .i64 hi] w fun r w' => r = .returned (.bool (outB n lo hi)) ∧ w = w' := Outside_any n lo hi w
end Go.Proofs.YtlffgdmljioaoaaGreatDoor
/- Walks of the reference: Short, CheckRequests. -/
namespace Go.Proofs.YtlffgdmljioaoaaGreatDoor
open Go.RowKit Go.Mem Go.Sheet
end Go.Proofs.YtlffgdmljioaoaaGreatDoor
/- Walks of the reference: entry, CheckMatrix, CheckList, ShortMatrix, unlimited, product, limited. -/
namespace Go.Sheet
theorem entryE_outB (n : Int) : entryE n = if n = -1000000000 then 0 else if outB n (-999999999) 999999999 = true then 3 else 0 := rfl
def entB (n : Int) : Bool := (n == -1000000000) || !outB n (-999999999) 999999999
theorem entB_true {n : Int} : entB n = true ↔ entryE n = 0 := by
  rw [entB, entryE_outB]
  by_cases h : n = -1000000000
  · simp [h]
  · rw [if_neg h]
    have : (n == -1000000000) = false := by simpa using h
    rw [this, Bool.false_or]
    cases outB n (-999999999) 999999999 <;> simp
theorem entB_false {n : Int} (h : entB n = false) : entryE n = 3 := by
  rw [entryE_outB]
  rw [entB, Bool.or_eq_false_iff] at h
  rw [if_neg (by simpa using h.1)]
  have := h.2
  cases hb : outB n (-999999999) 999999999 with
  | true => rfl
  | false => rw [hb] at this; cases this
theorem entries_zero {l : List Int} : eachF (fun _ n => entryE n) 0 l = 0 ↔ ∀ x ∈ l, entryE x = 0 := by
  rw [eachF_zero]
  constructor
  · intro h x hx
    obtain ⟨k, hk, rfl⟩ := List.mem_iff_getElem.1 hx
    exact h k _ (List.getElem?_eq_getElem hk)
  · exact fun h i x hx => h x (List.mem_of_getElem? hx)
theorem entries_bad : ∀ (l : List Int) (k : Nat), (∃ x ∈ l, entryE x ≠ 0) → eachF (fun _ n => entryE n) k l = 3
  | [], _, ⟨x, hx, _⟩ => by cases hx
  | y :: l, k, ⟨x, hx, hn⟩ => by
    rw [eachF]
    by_cases h : entryE y ≠ 0
    · rw [if_pos h, entryE_outB]
      rw [entryE_outB] at h
      split
      · rename_i h1; rw [if_pos h1] at h; exact absurd rfl h
      · rename_i h1
        rw [if_neg h1] at h
        split
        · rfl
        · rename_i h2; rw [if_neg h2] at h; exact absurd rfl h
    · rw [if_neg h]
      refine entries_bad l (k + 1) ⟨x, ?_, hn⟩
      rcases List.mem_cons.1 hx with rfl | hx
      · exact absurd hn h
      · exact hx
theorem matRow_shape {n : Nat} {r : List Int} (h : r.length ≠ n) : matRowE n r = 2 := by
  rw [matRowE]; simp [fst, whenE, h]
theorem matRow_else {n : Nat} {r : List Int} (h : r.length = n) : matRowE n r = eachF (fun _ x => entryE x) 0 r := by
  have e : whenE (decide (r.length ≠ n)) 2 = 0 := by simp [whenE, h]
  rw [matRowE, e]
  generalize eachF (fun _ x => entryE x) 0 r = E
  simp only [fst]
  split
  · rename_i h; exact absurd rfl h
  · split
    · rfl
    · rename_i h; simpa using (Classical.not_not.1 h).symm
/-- a step of the reference's check on rows -/
theorem matE_stop {m : IMat} {k : Nat} {r : List Int} (h24 : ¬ 24 < m.length) (hr : m[k]? = some r) (he : eachF (fun _ row => matRowE m.length row) k (m.drop k) = eachF (fun _ row => matRowE m.length row) 0 m) (h0 : matRowE m.length r ≠ 0) : matE m = matRowE m.length r := by
  rw [matE, if_neg h24, ← eachF_stop hr h0 he]
end Go.Sheet
namespace Go.Proofs.YtlffgdmljioaoaaGreatDoor
open Go.RowKit Go.Mem Go.Sheet
theorem refEntry_any (n : Int) (w : World) : Calls Tryz.prog 42 #[.int .i64 n] w fun e w' => e = .returned (.bool (entB n)) ∧ w = w' := by
  go_enter Tryz.func42, Tryz.ntmps42
  have HD : Hid (entB n = ((n == -1000000000) || !outB n (-999999999) 999999999)) := rfl
  by_cases h : n = -1000000000
  · have H : Hid (entB n = true) := by show _ = _; rw [HD.out, h]; rfl
    have hb : (n == -1000000000) = true := by simpa using h
    clear h HD
    go_wp2
    go_ret
    exact ⟨ret_bool H.out.symm, rfl⟩
  · have hb : (n == -1000000000) = false := by simpa using h
    have H : Hid (entB n = !outB n (-999999999) 999999999) := by show _ = _; rw [HD.out, hb]; rfl
    clear h HD
    go_wp2_with (go_at_call 13; refine (outB_any _ _ _ _).mono ?_; rintro e w' ⟨rfl, rfl⟩)
    go_ret
    exact ⟨ret_bool H.out.symm, rfl⟩
set_option maxRecDepth 100000 in
set_option maxHeartbeats 2000000 in
theorem refCheckMatrix_any (w : World) (v : Value) (m : IMat) (h : RdRows w (· < w.heap.size) v m) :
    Calls Tryz.prog 7 #[v] w fun e w' => e = .returned (.int .i64 (matE m)) ∧ w = w' := by
  have HH := Lib.hid h
  obtain ⟨vs, g1, _⟩ := h
  obtain ⟨A, c, rfl, _, _, _⟩ := g1.open_
  have hl := g1.le
  clear g1
  have HM24 : Hid (24 < m.length → matE m = 5) := fun h => by rw [matE, if_pos h]
  have HM0 : Hid (¬ 24 < m.length → eachF (fun _ row => matRowE m.length row) 0 m = matE m) := fun h => by rw [matE, if_neg h]
  have HSTOP := Lib.hid (fun (k : Nat) (r : List Int) h1 h2 h3 h4 => matE_stop (m := m) (k := k) (r := r) h1 h2 h3 h4)
  generalize hn : m.length = n at *
  have HN := Lib.hid hn
  clear hn
  go_enter Tryz.func7, Tryz.ntmps7
  by_cases h24 : 24 < n
  · have HR := Lib.hid (HM24.out h24)
    have t24 : decide (24 < (n : Int)) = true := by simp; omega
    clear h24
    go_wp2
    go_ret
    exact ⟨ret_i64 HR.out.symm, rfl⟩
  have t24 : decide (24 < (n : Int)) = false := by simp; omega
  have HR0 := Lib.hid (HM0.out h24)
  have H24 := Lib.hid h24
  have hn24 : n ≤ 24 := by omega
  clear h24 HM24 HM0
  go_wp2_with fail
  go_loop [3] (fun i => ∃ k : Nat, k ≤ n ∧ i = .int .i64 k ∧ Hid (eachF (fun _ row => matRowE n row) k (m.drop k) = eachF (fun _ row => matRowE n row) 0 m)) (fun i => n - (intOf i).toNat)
  case atStart => exact ⟨0, Nat.zero_le _, rfl, rfl⟩
  case round =>
    obtain ⟨k, hk, rfl, he⟩ := hrel
    by_cases hlt : k < n
    · have hkm : k < m.length := by rw [HN.out]; exact hlt
      have hr : m[k]? = some m[k] := List.getElem?_eq_getElem hkm
      obtain ⟨b, o, Ar, cr, hA, hrow⟩ := row_of HH.out hr
      subst hA
      obtain ⟨d0, d1⟩ := hrow w (Below.refl _ _)
      have HST := Lib.hid (fun h0 => HSTOP.out _ _ H24.out hr he.out h0)
      have HGO := Lib.hid (fun h0 => eachF_go (f := fun _ row => matRowE n row) hr h0 he.out)
      generalize m[k] = r at *
      have hrl := d1.le
      have HD1 := Lib.hid d1
      generalize hrn : r.length = rn at *
      have HRN := Lib.hid hrn
      clear hr hkm hrow d1 he
      by_cases hs : rn = n
      · subst hs
        have tne : ((rn : Int) != (rn : Int)) = false := by simp
        have HRE := Lib.hid (matRow_else (n := rn) (r := r) HRN.out)
        clear hrn
        go_wp2_with fail
        clear tne
        go_loop [4] (fun i => ∃ j : Nat, j ≤ rn ∧ i = .int .i64 j ∧ Hid (∀ x ∈ r.take j, entryE x = 0)) (fun i => rn - (intOf i).toNat)
        case atStart => exact ⟨0, Nat.zero_le _, rfl, fun x hx => by simp at hx⟩
        case round =>
          obtain ⟨j, hj, rfl, HA⟩ := hrel
          by_cases hjl : j < rn
          · obtain ⟨b2, o2, x, hA2, hx, cx⟩ := Rd.int (q := .i64) (l := r) HD1.out hjl
            subst hA2
            have HX := Lib.hid hx
            clear hx
            cases hb : entB x with
            | true =>
              have hx0 := entB_true.1 hb
              have HB := Lib.hid hb
              have HX0 := Lib.hid hx0
              clear hb hx0
              go_wp2_with (go_at_call 42; refine (refEntry_any _ _).mono ?_; rw [HB.out]; rintro e w' ⟨rfl, rfl⟩)
              go_round
              case rel => exact ⟨j + 1, by omega, by go_num, fun y hy => by
                rw [take_at HX.out] at hy
                rcases List.mem_append.1 hy with hy | hy
                · exact HA.out y hy
                · obtain rfl := List.mem_singleton.1 hy; exact HX0.out⟩
              case measure => simp [intOf]; omega
            | false =>
              have e3 := entries_bad r 0 ⟨x, List.mem_of_getElem? HX.out, by rw [entB_false hb]; decide⟩
              have HR : Hid (matE m = 3) := by
                show _ = _
                rw [HST.out (by rw [HRE.out, e3]; decide), HRE.out, e3]
              have HB := Lib.hid hb
              clear hb e3
              go_wp2_with (go_at_call 42; refine (refEntry_any _ _).mono ?_; rw [HB.out]; rintro e w' ⟨rfl, rfl⟩)
              go_ret
              exact ⟨ret_i64 HR.out.symm, rfl⟩
          · obtain rfl : j = rn := by omega
            have hall := HA.out
            rw [List.take_of_length_le (Nat.le_of_eq HRN.out)] at hall
            have HG := Lib.hid (HGO.out (by rw [HRE.out, entries_zero.2 hall]; simp))
            have tjj : decide ((j : Int) < (j : Int)) = false := by simp
            clear hall HA
            go_wp2
            go_round
            case rel => exact ⟨k + 1, by omega, by go_num, HG.out⟩
            case measure => simp [intOf]; omega
      · have HR : Hid (matE m = 2) := by
          show _ = _
          have e2 := matRow_shape (n := n) (r := r) (by rw [HRN.out]; exact hs)
          rw [HST.out (by rw [e2]; decide), e2]
        have tne : ((rn : Int) != (n : Int)) = true := by simp; omega
        clear hs
        go_wp2
        go_ret
        exact ⟨ret_i64 HR.out.symm, rfl⟩
    · obtain rfl : k = n := by omega
      have HR : Hid (matE m = 0) := by
        show _ = _
        rw [← HR0.out]
        exact eachF_end (n := k) (by rw [HN.out]; exact Nat.le_refl _) he.out
      have tkk : decide ((k : Int) < (k : Int)) = false := by simp
      clear he
      go_wp2
      go_ret
      exact ⟨ret_i64 HR.out.symm, rfl⟩
/-- CheckList's answer -/
def listE (m : IMat) (x : List Int) : Int := if x.length ≠ m.length then 2 else eachF (fun _ n => entryE n) 0 x
set_option maxRecDepth 100000 in
set_option maxHeartbeats 2000000 in
theorem refCheckList_any (w : World) (v vx : Value) (m : IMat) (x : List Int) (h : RdRows w (· < w.heap.size) v m) (hx : Rd w (· < w.heap.size) 1 vx x.length (x.map (Value.int .i64))) :
    Calls Tryz.prog 18 #[v, vx] w fun e w' => e = .returned (.int .i64 (listE m x)) ∧ w = w' := by
  obtain ⟨vs, g1, _⟩ := h
  obtain ⟨A, c, rfl, _, _, _⟩ := g1.open_
  obtain ⟨Ax, cx, rfl, _, _, _⟩ := hx.open_
  have hl := g1.le
  have hxl := hx.le
  have HX := Lib.hid hx
  have HD : Hid (listE m x = if x.length ≠ m.length then 2 else eachF (fun _ n => entryE n) 0 x) := rfl
  generalize hn : m.length = n at *
  generalize hnx : x.length = nx at *
  have HNX := Lib.hid hnx
  clear g1 hx hn hnx
  go_enter Tryz.func18, Tryz.ntmps18
  by_cases hs : nx = n
  case neg =>
    have HR : Hid (listE m x = 2) := by show _ = _; rw [HD.out, if_pos hs]
    have tne : ((nx : Int) != (n : Int)) = true := by simp; omega
    clear hs
    go_wp2
    go_ret
    exact ⟨ret_i64 HR.out.symm, rfl⟩
  subst hs
  have HR : Hid (listE m x = eachF (fun _ n => entryE n) 0 x) := by show _ = _; rw [HD.out, if_neg (by simp)]
  have tne : ((nx : Int) != (nx : Int)) = false := by simp
  clear HD
  go_wp2_with fail
  clear tne
  go_loop [5] (fun i => ∃ j : Nat, j ≤ nx ∧ i = .int .i64 j ∧ Hid (∀ y ∈ x.take j, entryE y = 0)) (fun i => nx - (intOf i).toNat)
  case atStart => exact ⟨0, Nat.zero_le _, rfl, fun y hy => by simp at hy⟩
  case round =>
    obtain ⟨j, hj, rfl, HA⟩ := hrel
    by_cases hjl : j < nx
    · obtain ⟨b2, o2, y, hA2, hy, cy⟩ := Rd.int (q := .i64) (l := x) HX.out hjl
      subst hA2
      have HY := Lib.hid hy
      clear hy
      cases hb : entB y with
      | true =>
        have hx0 := entB_true.1 hb
        have HB := Lib.hid hb
        have HX0 := Lib.hid hx0
        clear hb hx0
        go_wp2_with (go_at_call 42; refine (refEntry_any _ _).mono ?_; rw [HB.out]; rintro e w' ⟨rfl, rfl⟩)
        go_round
        case rel => exact ⟨j + 1, by omega, by go_num, fun z hz => by
          rw [take_at HY.out] at hz
          rcases List.mem_append.1 hz with hz | hz
          · exact HA.out z hz
          · obtain rfl := List.mem_singleton.1 hz; exact HX0.out⟩
        case measure => simp [intOf]; omega
      | false =>
        have HR3 : Hid (listE m x = 3) := by
          show _ = _
          rw [HR.out, entries_bad x 0 ⟨y, List.mem_of_getElem? HY.out, by rw [entB_false hb]; decide⟩]
        have HB := Lib.hid hb
        clear hb
        go_wp2_with (go_at_call 42; refine (refEntry_any _ _).mono ?_; rw [HB.out]; rintro e w' ⟨rfl, rfl⟩)
        go_ret
        exact ⟨ret_i64 HR3.out.symm, rfl⟩
    · obtain rfl : j = nx := by omega
      have hall := HA.out
      rw [List.take_of_length_le (Nat.le_of_eq HNX.out)] at hall
      have HR0 : Hid (listE m x = 0) := by show _ = _; rw [HR.out, entries_zero.2 hall]
      have tjj : decide ((j : Int) < (j : Int)) = false := by simp
      clear hall HA
      go_wp2
      go_ret
      exact ⟨ret_i64 HR0.out.symm, rfl⟩
end Go.Proofs.YtlffgdmljioaoaaGreatDoor
