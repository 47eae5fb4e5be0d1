/- Walks of the reference: Product, Apply. -/
import Derived.Test.YtjfhncnpmelopaaGreatDoorL12
import Derived.Test.YtjfhncnpmelopaaGreatDoorB09
import Derived.Test.YtjfhncnpmelopaaGreatDoorB10
import Derived.Test.YtjfhncnpmelopaaGreatDoorB11
import Derived.Test.YtjfhncnpmelopaaGreatDoorB15
import Derived.Test.YtjfhncnpmelopaaGreatDoorB23
set_option linter.unusedVariables false
set_option linter.unusedSimpArgs false
set_option linter.unusedSectionVars false
set_option linter.constructorNameAsVariable false
namespace Go.Sheet
theorem swap_xok {n : Nat} {A : Int} {m : IMat} (h : XOk n A m) : ∀ r ∈ swapM m, r.length = n ∧ ∀ x ∈ r, HBd A x := by
  intro r hr
  obtain ⟨s, hs, rfl⟩ := List.mem_map.1 hr
  refine ⟨by rw [List.length_map]; exact h.len s hs, fun x hx => ?_⟩
  obtain ⟨y, hy, rfl⟩ := List.mem_map.1 hx
  exact swap_bd (h.bd s hs y hy)
theorem unl_bd {m : IMat} (h : matE m = 0) : ∀ r ∈ unlM m, r.length = m.length ∧ ∀ x ∈ r, HBd 999999999 x := by
  rw [unlM_swap h]; exact swap_xok (insideM_xok h)
theorem rmul_rows {a b : IMat} {n : Nat} (la : a.length = n) : ∀ r ∈ rmul a b, r.length = n := by
  intro r hr
  obtain ⟨s, hs, rfl⟩ := List.mem_map.1 hr
  rw [List.length_map, List.length_range, la]
theorem adot_go {acc y z t : Int} {r x : List Int} {k : Nat} (hy : r[k]? = some y) (hz : x[k]? = some z) (e : adot acc (r.drop k) (x.drop k) = t) : adot (astep acc y z) (r.drop (k + 1)) (x.drop (k + 1)) = t := by
  rw [← e, drop_at hy, drop_at hz, adot]
theorem adot_end {acc t : Int} {r x : List Int} {k : Nat} (h : r.length ≤ k) (e : adot acc (r.drop k) (x.drop k) = t) : acc = t := by
  rw [← e, List.drop_of_length_le h, adot]; intros; contradiction
theorem rapply_at {m : IMat} {x : List Int} {k : Nat} {r : List Int} (h : m[k]? = some r) : (rapply m x)[k]? = some (adot hole r x) := by rw [rapply, List.getElem?_map, h]; rfl
theorem limL_bad {l : List Int} {x : Int} (hx : x ∈ l) (hb : limBad x = true) : limL l = ([], 4) := by rw [limL, if_pos (List.any_eq_true.2 ⟨x, hx, hb⟩)]
theorem limL_good {l : List Int} (h : ∀ x ∈ l, limBad x = false) : limL l = (l.map limX, 0) := by
  rw [limL, if_neg]
  intro hh
  obtain ⟨x, hx, hb⟩ := List.any_eq_true.1 hh
  rw [h x hx] at hb; cases hb
theorem entry_bd {x : Int} (h : entryE x = 0) : -1000000000 ≤ x ∧ x ≤ 999999999 := by
  unfold entryE NONE at h
  split at h
  · omega
  · have := (outE_zero _ _ _).1 h; omega
end Go.Sheet
namespace Go.Proofs.YtjfhncnpmelopaaGreatDoor
open Go.RowKit Go.Mem Go.Sheet
set_option maxRecDepth 100000 in
set_option maxHeartbeats 4000000 in
theorem refProduct_any (W : World) (va vb : Value) (a b : IMat) (ha : RdRows W (· < W.heap.size) va a) (hb : RdRows W (· < W.heap.size) vb b) (hma : matE a = 0) (hmb : matE b = 0) (hl : a.length = b.length) :
    Calls Tryz.prog 61 #[va, vb] W (RetRows W (product a b)) := by
  have HP := Lib.hid (product_ref hma hmb hl)
  have oka := matE_ok hma
  have okb := matE_ok hmb
  have h24 := oka.1
  have hUA := refUnlimited_any W va a ha (by omega) (fun r hr => by rw [(oka.2 r hr).1]; omega)
  have HUB := Lib.hid (fun w (h : Below W.heap.size W w) => refUnlimited_any w vb b (hb.later h) (by omega) (fun r hr => by rw [(okb.2 r hr).1]; omega))
  have HUA := Lib.hid hUA
  have hxa := unl_bd hma
  have hxb := unl_bd hmb
  rw [← hl] at hxb
  have hlua := unlM_len a
  have hlub := (unlM_len b).trans hl.symm
  generalize a.length = n at *
  have HXA := Lib.hid hxa
  have HXB := Lib.hid hxb
  have HLA := Lib.hid hlua
  have HLB := Lib.hid hlub
  clear ha hb hma hmb oka okb hUA hxa hxb hlua hlub hl
  generalize unlM a = ua at *
  generalize unlM b = ub at *
  go_enter Tryz.func61, Tryz.ntmps61
  go_wp2_with fail
  refine HUA.out.mono ?_
  rintro e w1 ⟨v1, rfl, hb1, hr1⟩
  have HB1 := Lib.hid hb1
  have HR1 := Lib.hid hr1
  clear HUA hb1 hr1
  go_wp2_with fail
  refine (HUB.out _ HB1.out).mono ?_
  rintro e w2 ⟨v2, rfl, hb2, hr2⟩
  have HB2 := Lib.hid (HB1.out.trans (hb2.mono HB1.out.size))
  have HM := Lib.hid (refproduct_any w2 v1 v2 ua ub n 999999999 999999999 (HR1.out.later hb2) hr2 HLA.out HLB.out HXA.out HXB.out h24 (by omega) (by omega))
  have HML := Lib.hid ((rmul_len ua ub).trans HLA.out)
  have HMR := Lib.hid (rmul_rows (b := ub) HLA.out)
  generalize rmul ua ub = mm at *
  clear HUB HB1 HR1 hb2 hr2
  go_wp2_with fail
  refine HM.out.mono ?_
  rintro e w3 ⟨v3, rfl, hb3, hr3⟩
  have HB3 := Lib.hid (HB2.out.trans (hb3.mono HB2.out.size))
  have HLM := Lib.hid (refLimited_any w3 v3 mm hr3 (by rw [HML.out]; omega) (fun r hr => by rw [HMR.out r hr]; omega))
  clear HB2 HM hb3 hr3
  go_wp2_with fail
  refine HLM.out.mono ?_
  rintro e w4 ⟨v4, rfl, hb4, hr4⟩
  have HF : Hid (RetRows W (product a b) (.returned (.tuple #[v4, .int .i64 (limM mm).2])) w4) := by
    show RetRows _ _ _ _
    rw [HP.out]
    exact ⟨v4, rfl, HB3.out.trans (hb4.mono HB3.out.size), hr4⟩
  clear HB3 hb4 hr4 HLM HP
  go_wp2
  go_ret2
  exact HF.out
set_option maxRecDepth 100000 in
set_option maxHeartbeats 4000000 in
theorem refApply_any (W : World) (v vx : Value) (m : IMat) (x : List Int) (h : RdRows W (· < W.heap.size) v m) (hx : Rd W (· < W.heap.size) 1 vx x.length (x.map (Value.int .i64))) (hm : matE m = 0) (hl : x.length = m.length) (he : ∀ y ∈ x, entryE y = 0) :
    Calls Tryz.prog 63 #[v, vx] W (RetInts W (applyM m x)) := by
  have HP := Lib.hid (apply_ref hm hl he)
  rw [hl] at hx
  have ok := matE_ok hm
  have HOK := Lib.hid ok.2
  have HE := Lib.hid he
  have h24 := ok.1
  have HH := Lib.hid h
  have HX := Lib.hid hx
  have HRL : Hid ((rapply m x).length = m.length) := by show _ = _; rw [rapply, List.length_map]
  have HRA := Lib.hid (fun k r (hk : m[k]? = some r) => rapply_at (x := x) hk)
  obtain ⟨vs0, g1, _⟩ := h
  obtain ⟨A, c, rfl, _, _, _⟩ := g1.open_
  obtain ⟨Ax, cx, rfl, _, _, _⟩ := hx.open_
  generalize hn : m.length = n at *
  have HN := Lib.hid hn
  have HXN := Lib.hid hl
  generalize rapply m x = ra at *
  clear g1 hx hm ok he hn hl
  have S0 := (St.refl W).row_nil 3 1
  go_enter Tryz.func63, Tryz.ntmps63
  go_wp2_with fail
  go_loopw [7, 6] (fun i v w' => ∃ (k : Nat), k ≤ n ∧ i = .int .i64 k ∧ Hid (∀ y ∈ ra.take k, limBad y = false) ∧ St W w' [row 3 1 v k (ints ((ra.take k).map limX))]) (fun i _ _ => n - (intOf i).toNat)
  case atStart => exact ⟨0, Nat.zero_le _, rfl, fun y hy => by simp at hy, S0⟩
  case round =>
    obtain ⟨k, hk, rfl, HG, S⟩ := hrel
    clear S0
    by_cases hlt : k < n
    · have hkm : k < m.length := by rw [HN.out]; exact hlt
      have hr : m[k]? = some m[k] := List.getElem?_eq_getElem hkm
      obtain ⟨b, o, Ar, cr, hA, hrow⟩ := row_of HH.out hr
      subst hA
      obtain ⟨hrl, hre⟩ := HOK.out _ (List.getElem_mem hkm)
      have HRK := Lib.hid (HRA.out k _ hr)
      generalize m[k] = r at *
      rw [hrl] at hrow
      have HROW := Lib.hid hrow
      have HRE := Lib.hid hre
      have HRN := Lib.hid hrl
      have HS := Lib.hid S
      obtain ⟨wA, hwA⟩ : ∃ w, w = wr := ⟨_, rfl⟩
      subst hwA
      clear hr hkm hrow hrl hre S
      go_wp2_with fail
      go_loopw [9, 8] (fun i vn w' => ∃ (j q : Nat) (acc : Int), j ≤ n ∧ i = .int .i64 j ∧ vn = .int .i64 acc ∧ w' = wA.drewN q ∧ Hid (adot acc (r.drop j) (x.drop j) = adot hole r x)) (fun i _ _ => n - (intOf i).toNat)
      case atStart => exact ⟨0, 0, -1000000000000000, Nat.zero_le _, rfl, rfl, rfl, rfl⟩
      case round =>
        obtain ⟨j, q, acc, hj, rfl, rfl, rfl, hac⟩ := hrel
        have hbq : Below W.heap.size W (wA.drewN q) := HS.out.bel.trans (below_drewN (Below.refl _ _) q |>.mono HS.out.bel.size)
        obtain ⟨d0, d1⟩ := HROW.out _ hbq
        by_cases hjl : j < n
        · obtain ⟨b2, o2, y, hA2, hy, cy⟩ := Rd.int (q := .i64) (l := r) d1 hjl
          subst hA2
          obtain ⟨b3, o3, z, hA3, hz, cz⟩ := Rd.int (q := .i64) (l := x) (HX.out.later hbq) hjl
          subst hA3
          have hyb := entry_bd (HRE.out y (List.mem_of_getElem? hy))
          have hzb := entry_bd (HE.out z (List.mem_of_getElem? hz))
          have HGO := Lib.hid (adot_go hy hz hac.out)
          have HST : Hid (astep acc y z = if y = -1000000000 ∨ z = -1000000000 then acc else max acc (y + z)) := rfl
          clear hy hz d1 hac hbq
          by_cases hy0 : y = -1000000000
          · have ty : (y != -1000000000) = false := by simpa using hy0
            have HMX : Hid (astep acc y z = acc) := by show _ = _; rw [HST.out, if_pos (.inl hy0)]
            clear hy0 HST
            go_wp2
            go_roundw
            case rel => exact ⟨j + 1, q, acc, by omega, by go_num, rfl, rfl, by show _ = _; rw [← HGO.out, HMX.out]⟩
            case measure => simp [intOf]; omega
          · have ty : (y != -1000000000) = true := by simpa using hy0
            by_cases hz0 : z = -1000000000
            · have tz : (z != -1000000000) = false := by simpa using hz0
              have HMX : Hid (astep acc y z = acc) := by show _ = _; rw [HST.out, if_pos (.inr hz0)]
              clear hy0 hz0 HST
              go_wp2
              go_roundw
              case rel => exact ⟨j + 1, q, acc, by omega, by go_num, rfl, rfl, by show _ = _; rw [← HGO.out, HMX.out]⟩
              case measure => simp [intOf]; omega
            · have tz : (z != -1000000000) = true := by simpa using hz0
              have HMX : Hid (astep acc y z = max acc (y + z)) := by show _ = _; rw [HST.out, if_neg (fun h => h.elim hy0 hz0)]
              clear hy0 hz0 HST
              generalize hw5 : wA.drewN q = w5 at *
              have HW5 := Lib.hid hw5
              clear hw5
              go_wp2_with fail
              go_quiet (fail)
              go_wp2
              go_roundw
              case rel => exact ⟨j + 1, q + nq, _, by omega, by go_num, rfl, by rw [← HW5.out]; first | rfl | exact World.drewN_drewN _ _ _, by show _ = _; rw [← HGO.out, HMX.out]⟩
              case measure => simp [intOf]; omega
        · obtain rfl : j = n := by omega
          have hE := adot_end (k := j) (by rw [HRN.out]; exact Nat.le_refl _) hac.out
          have HE2 := Lib.hid hE
          have HLB := Lib.hid (limBad_outB acc)
          have HLX : Hid (limX acc = if acc = -1000000000000000 then -1000000000 else acc) := rfl
          have HT := Lib.hid (take_at HRK.out)
          rw [← hE] at HT
          have HMEM : Hid (acc ∈ ra) := by show _ ∈ _; rw [hE]; exact List.mem_of_getElem? HRK.out
          have tjj : decide ((j : Int) < (j : Int)) = false := by simp
          have SQ := HS.out.drewN q
          have hbW := SQ.bel
          have HSQ := Lib.hid SQ
          clear hE hac d0 d1 hbq SQ
          generalize wA.drewN q = w5 at *
          by_cases hn0 : acc = -1000000000000000
          · have HXX : Hid (limX acc = -1000000000) := by show _ = _; rw [HLX.out, if_pos hn0]
            have hxb : (acc == -1000000000000000) = true := by simpa using hn0
            have HGX : Hid (limBad acc = false) := by show _ = _; rw [HLB.out, hxb]; rfl
            clear hn0 HLX HLB
            go_wp2_with (at_builtin; refine wpList_append_st eltI rfl _ _ rfl rfl (HSQ.out.alloc _) (k := 0) rfl rfl (rd_one (by simp)) (one_int _ _) (by omega) (by omega) ?_; intro v' w' S' _)
            go_roundw
            case rel => exact ⟨k + 1, by omega, by go_num, fun y hy => by
              rw [HT.out] at hy
              rcases List.mem_append.1 hy with hy | hy
              · exact HG.out y hy
              · obtain rfl := List.mem_singleton.1 hy; exact HGX.out, by rw [HT.out, List.map_append, List.map_cons, HXX.out]; simpa [ints] using S'⟩
            case measure => simp [intOf]; omega
          · have HXX : Hid (limX acc = acc) := by show _ = _; rw [HLX.out, if_neg hn0]
            have hxb : (acc == -1000000000000000) = false := by simpa using hn0
            clear hn0 HLX
            cases hob : outB acc (-999999999) 999999999 with
            | true =>
              have HF : Hid (limL ra = ([], 4)) := limL_bad HMEM.out (by rw [HLB.out, hxb, hob]; rfl)
              have HOB := Lib.hid hob
              clear hob
              go_wp2_with (go_at_call 52; refine (outB_any _ _ _ _).mono ?_; rw [HOB.out]; rintro e w' ⟨rfl, rfl⟩)
              go_ret2
              rw [HP.out, HF.out]
              exact RetInts.err hbW
            | false =>
              have HGX : Hid (limBad acc = false) := by show _ = _; rw [HLB.out, hxb, hob]; rfl
              have HOB := Lib.hid hob
              clear hob
              go_wp2_with (first
                | (go_at_call 52; refine (outB_any _ _ _ _).mono ?_; rw [HOB.out]; rintro e w' ⟨rfl, rfl⟩)
                | (at_builtin; refine wpList_append_st eltI rfl _ _ rfl rfl (HSQ.out.alloc _) (k := 0) rfl rfl (rd_one (by simp)) (one_int _ _) (by omega) (by omega) ?_; intro v' w' S' _))
              go_roundw
              case rel => exact ⟨k + 1, by omega, by go_num, fun y hy => by
                rw [HT.out] at hy
                rcases List.mem_append.1 hy with hy | hy
                · exact HG.out y hy
                · obtain rfl := List.mem_singleton.1 hy; exact HGX.out, by rw [HT.out, List.map_append, List.map_cons, HXX.out]; simpa [ints] using S'⟩
              case measure => simp [intOf]; omega
    · obtain rfl : k = n := by omega
      have hg := HG.out
      rw [List.take_of_length_le (Nat.le_of_eq HRL.out)] at S hg
      have HF := Lib.hid (limL_good hg)
      have HS := Lib.hid S
      have tkk : decide ((k : Int) < (k : Int)) = false := by simp
      clear S hg
      go_wp2
      go_ret2
      rw [HP.out, HF.out]
      exact ⟨_, rfl, by rw [List.length_map, HRL.out]; exact HS.out⟩
end Go.Proofs.YtjfhncnpmelopaaGreatDoor
/- Walk of the reference: Power. -/
namespace Go.Sheet
/-- a row of the unit matrix, its first j entries laid -/
def unitRow (n k j : Nat) : List Int := (List.range n).map fun q => if q < j ∧ k ≠ q then hole else 0
theorem unitRow_len (n k j : Nat) : (unitRow n k j).length = n := by simp [unitRow]
theorem unitRow_zero (n k : Nat) : List.replicate n (0 : Int) = unitRow n k 0 := by
  refine List.ext_getElem (by simp [unitRow]) fun q h1 h2 => ?_
  simp [unitRow]
theorem unitRow_set {n k j : Nat} (h : k ≠ j) : (unitRow n k j).set j hole = unitRow n k (j + 1) := by
  refine List.ext_getElem (by simp [unitRow]) fun q h1 h2 => ?_
  simp only [unitRow, List.getElem_set, List.getElem_map, List.getElem_range]
  by_cases e : j = q
  · subst e
    rw [if_pos rfl, if_pos ⟨by omega, h⟩]
  · rw [if_neg e]
    by_cases hq : q < j ∧ k ≠ q
    · rw [if_pos hq, if_pos ⟨by omega, hq.2⟩]
    · rw [if_neg hq, if_neg (fun h' => hq ⟨by omega, h'.2⟩)]
theorem unitRow_skip {n j : Nat} : unitRow n j j = unitRow n j (j + 1) := by
  refine List.ext_getElem (by simp [unitRow]) fun q h1 h2 => ?_
  simp only [unitRow, List.getElem_map, List.getElem_range]
  by_cases hq : q < j ∧ j ≠ q
  · rw [if_pos hq, if_pos ⟨by omega, hq.2⟩]
  · rw [if_neg hq, if_neg (fun h' => hq ⟨by omega, h'.2⟩)]
theorem runit_at {n k : Nat} (h : k < n) : (runit n)[k]? = some (unitRow n k n) := by
  rw [runit, List.getElem?_map, List.getElem?_range h]
  show some _ = some _
  congr 1
  refine List.ext_getElem (by simp [unitRow]) fun q h1 h2 => ?_
  simp only [unitRow, List.getElem_map, List.getElem_range]
  have hq : q < n := by simpa using h1
  by_cases e : k = q
  · rw [if_pos e, if_neg (fun h' => h'.2 e)]
  · rw [if_neg e, if_pos ⟨hq, e⟩]
theorem runit_len (n : Nat) : (runit n).length = n := by simp [runit]
theorem rpow_bd {m : IMat} (h : matE m = 0) (t : Nat) (ht : t ≤ 64) : (rpow (unlM m) t).length = m.length ∧ ∀ r ∈ rpow (unlM m) t, r.length = m.length ∧ ∀ x ∈ r, HBd (999999999 * t) x := by
  have hl : (insideM m).length = m.length := by simp [insideM]
  obtain ⟨h1, h2⟩ := powM_ok (own := insideM m) (A := 999999999) (by omega) (insideM_xok h) hl t ht
  rw [unlM_swap h, rpow_swap (A := 999999999) (by omega) (insideM_xok h) hl t ht]
  refine ⟨by rw [swapM, List.length_map]; exact h2, swap_xok h1⟩
end Go.Sheet
namespace Go.Proofs.YtjfhncnpmelopaaGreatDoor
open Go.RowKit Go.Mem Go.Sheet
theorem nils_set {vs : List Value} {n k : Nat} {x : Value} (h : vs.length = k) (hk : k < n) : (vs ++ List.replicate (n - k) (Value.slice none 0 0)).set k x = (vs ++ [x]) ++ List.replicate (n - (k + 1)) (Value.slice none 0 0) := by
  subst h
  rw [List.set_append, if_neg (by omega), Nat.sub_self, show n - vs.length = (n - (vs.length + 1)) + 1 by omega, List.replicate_succ, List.set_cons_zero, List.append_assoc]; rfl
set_option maxRecDepth 100000 in
set_option maxHeartbeats 4000000 in
theorem refPower_any (W : World) (v : Value) (m : IMat) (z : Int) (h : RdRows W (· < W.heap.size) v m) (hm : matE m = 0) (hz : 0 ≤ z ∧ z ≤ 64) :
    Calls Tryz.prog 62 #[v, .int .i64 z] W (RetRows W (power m z)) := by
  have HP := Lib.hid (power_ref hm hz)
  have ok := matE_ok hm
  have h24 := ok.1
  have HUN := Lib.hid (fun w (hb : Below W.heap.size W w) => refUnlimited_any w v m (h.later hb) (by omega) (fun r hr => by rw [(ok.2 r hr).1]; omega))
  have hub := unl_bd hm
  have hul := unlM_len m
  have hpb := fun t ht => rpow_bd hm t ht
  have hp0 : rpow (unlM m) 0 = runit m.length := by rw [rpow, hul]
  have hps : ∀ t, rpow (unlM m) (t + 1) = rmul (rpow (unlM m) t) (unlM m) := fun t => rfl
  obtain ⟨vs0, g1, _⟩ := h
  obtain ⟨A, c, rfl, _, _, _⟩ := g1.open_
  clear g1
  generalize m.length = n at *
  generalize unlM m = um at *
  have HUB := Lib.hid hub
  have HUL := Lib.hid hul
  have HPB := Lib.hid hpb
  have HP0 := Lib.hid hp0
  have HPS := Lib.hid hps
  obtain ⟨t0, ht0⟩ : ∃ t0 : Nat, z = (t0 : Int) := ⟨z.toNat, by omega⟩
  subst ht0
  rw [Int.toNat_natCast] at HP
  clear hm ok hub hul hpb hp0 hps
  go_enter Tryz.func62, Tryz.ntmps62
  go_wp2_with (first
    | (at_make; refine wpList_make_st eltL rfl _ _ rfl rfl rfl (St.refl W) (n := n) (by omega) (by omega) ?_; intro w1 g S1 hg1 hb1)
    | fail)
  have hmc : (madeCells (Value.slice none 0 0).cells (n * 1)).toList = ([] : List Value) ++ List.replicate (n - 0) (Value.slice none 0 0) := by
    show (madeCells #[.slice none 0 0] (n * 1)).toList = _
    rw [toList_madeCells_one]; simp
  rw [hmc] at S1
  simp only [List.nil_append] at S1
  clear hmc hg1 hb1
  go_loopw [7] (fun i w' => ∃ (k : Nat) (vs : List Value), k ≤ n ∧ i = .int .i64 k ∧ Hid (vs.length = k) ∧ St W w' (row 33 1 (.slice (some ⟨g, 0, none⟩) n n) n (vs ++ List.replicate (n - k) (.slice none 0 0)) :: ownT 3 vs ((runit n).take k))) (fun i _ => n - (intOf i).toNat)
  case atStart => exact ⟨0, [], Nat.zero_le _, rfl, rfl, S1⟩
  case round =>
    obtain ⟨k, vs, hk, rfl, HV, S⟩ := hrel
    clear S1
    by_cases hlt : k < n
    · have HS := Lib.hid S
      clear S
      go_wp2_with (first
        | (at_make; refine wpList_make_st eltI rfl _ _ rfl rfl rfl HS.out (n := n) (by omega) (by omega) ?_; intro w4 gk S4 hg4 hb4
           have c0 : w4.cell? ⟨g, k, none⟩ = some (.slice none 0 0) := by
             rw [(S4.row_own (i := 0) rfl).cellAt k (by omega), List.getElem?_append_right (by rw [HV.out]; exact Nat.le_refl _), HV.out, Nat.sub_self, List.getElem?_replicate, if_pos (by omega)]
           have f0 := (S4.row_own (i := 0) rfl).frozenAt k)
        | fail)
      have hmc : (madeCells (Value.int .i64 0).cells (n * 1)).toList = ints (unitRow n k 0) := by
        show (madeCells #[.int .i64 0] (n * 1)).toList = _
        rw [toList_madeCells_one, ← unitRow_zero, ints]; simp
      rw [hmc] at S4
      have S5 := S4.row_set (i := 0) rfl k (.slice (some ⟨gk, 0, none⟩) n n)
      simp only [List.cons_append, List.set_cons_zero] at S5
      rw [nils_set HV.out hlt] at S5
      have S6 : St W _ (row 3 1 (.slice (some ⟨gk, 0, none⟩) n n) n (ints (unitRow n k 0)) :: row 33 1 (.slice (some ⟨g, 0, none⟩) n n) n ((vs ++ [.slice (some ⟨gk, 0, none⟩) n n]) ++ List.replicate (n - (k + 1)) (.slice none 0 0)) :: ownT 3 vs ((runit n).take k)) :=
        S5.perm (List.perm_append_comm (l₁ := _ :: ownT 3 vs ((runit n).take k)) (l₂ := [_]))
      have HS6 := Lib.hid S6
      have hOK : Hid (((vs ++ [Value.slice (some ⟨gk, 0, none⟩) n n]) ++ List.replicate (n - (k + 1)) (Value.slice none 0 0))[k]? = some (.slice (some ⟨gk, 0, none⟩) n n)) := by
        show _ = _
        rw [List.getElem?_append_left (by rw [List.length_append, HV.out]; simp), List.getElem?_append_right (by rw [HV.out]; exact Nat.le_refl _), HV.out, Nat.sub_self]; rfl
      generalize w4.setCell ⟨g, k, none⟩ (.slice (some ⟨gk, 0, none⟩) n n) = w5 at HS6 ⊢
      clear S4 S5 S6 hmc c0 f0 hg4 hb4 HS
      go_loopw [8] (fun i w' => ∃ (j : Nat), j ≤ n ∧ i = .int .i64 j ∧ St W w' (row 3 1 (.slice (some ⟨gk, 0, none⟩) n n) n (ints (unitRow n k j)) :: row 33 1 (.slice (some ⟨g, 0, none⟩) n n) n ((vs ++ [.slice (some ⟨gk, 0, none⟩) n n]) ++ List.replicate (n - (k + 1)) (.slice none 0 0)) :: ownT 3 vs ((runit n).take k))) (fun i _ => n - (intOf i).toNat)
      case atStart => exact ⟨0, Nat.zero_le _, rfl, HS6.out⟩
      case round =>
        obtain ⟨j, hj, rfl, S⟩ := hrel
        clear HS6
        by_cases hjl : j < n
        · by_cases hkj : k = j
          · subst hkj
            have tne : ((k : Int) != (k : Int)) = false := by simp
            have HS := Lib.hid S
            clear S
            go_wp2
            go_roundw
            case rel => exact ⟨k + 1, by omega, by go_num, by rw [← unitRow_skip]; exact HS.out⟩
            case measure => simp [intOf]; omega
          · have tne : ((k : Int) != (j : Int)) = true := by simp; omega
            have HU := Lib.hid (unitRow_set (n := n) hkj)
            have c0 : wr.cell? ⟨g, k, none⟩ = some (.slice (some ⟨gk, 0, none⟩) n n) := by
              rw [(S.row_own (i := 1) rfl).cellAt k (by omega)]; exact hOK.out
            have c1 : wr.cell? ⟨gk, j, none⟩ = some (.int .i64 ((unitRow n k j).getD j 0)) := by
              have hlj : j < (unitRow n k j).length := by rw [unitRow_len]; exact hjl
              rw [(S.row_own (i := 0) rfl).cellAt j (by omega), ints, List.getElem?_map, List.getElem?_eq_getElem hlj, List.getD_eq_getElem?_getD, List.getElem?_eq_getElem hlj]; rfl
            have f1 := (S.row_own (i := 0) rfl).frozenAt j
            have S2 := S.row_set (i := 0) rfl j (.int .i64 (-1000000000000000))
            simp only [List.set_cons_zero] at S2
            rw [show (ints (unitRow n k j)).set j (.int .i64 (-1000000000000000)) = ints ((unitRow n k j).set j hole) by rw [ints, ints, List.map_set]; rfl, HU.out] at S2
            have HS2 := Lib.hid S2
            clear S S2 hkj
            generalize (unitRow n k j).getD j 0 = u0 at *
            go_wp2
            go_roundw
            case rel => exact ⟨j + 1, by omega, by go_num, HS2.out⟩
            case measure => simp [intOf]; omega
        · obtain rfl : j = n := by omega
          have S2 := S.perm (List.perm_append_comm (l₁ := [_]) (l₂ := _ :: ownT 3 vs ((runit j).take k)))
          have tjj : decide ((j : Int) < (j : Int)) = false := by simp
          have HS2 := Lib.hid S2
          clear S S2
          go_wp2
          go_roundw
          case rel =>
            refine ⟨k + 1, vs ++ [.slice (some ⟨gk, 0, none⟩) j j], by omega, by go_num, by show _ = _; simp [HV.out], ?_⟩
            rw [take_at (runit_at hlt), ownT_snoc (by rw [HV.out, List.length_take, runit_len]; omega), unitRow_len]
            exact HS2.out
          case measure => simp [intOf]; omega
    · obtain rfl : k = n := by omega
      rw [List.take_of_length_le (by rw [runit_len]; exact Nat.le_refl _), Nat.sub_self, List.replicate_zero, List.append_nil] at S
      have hr5 := ownT_rows (L := [_]) S (k := 0) rfl (by rw [HV.out, runit_len])
      have HB5 := Lib.hid S.bel
      rw [← HP0.out] at hr5
      have HR5 := Lib.hid hr5
      have tkk : decide ((k : Int) < (k : Int)) = false := by simp
      obtain ⟨wA, hwA⟩ : ∃ w, w = wr := ⟨_, rfl⟩
      subst hwA
      clear S hr5 HV
      go_wp2_with fail
      refine (HUN.out _ HB5.out).mono ?_
      rintro e w6 ⟨v6, rfl, hb6, hr6⟩
      have HB6 := Lib.hid (HB5.out.trans (hb6.mono HB5.out.size))
      have HR6 := Lib.hid hr6
      have HR56 := Lib.hid (HR5.out.later hb6)
      clear HB5 hb6 hr6 HUN HR5 tkk
      go_wp2_with fail
      go_loopw [10, 6] (fun i v w' => ∃ (t : Nat), t ≤ t0 ∧ i = .int .i64 t ∧ Below w6.heap.size w6 w' ∧ Hid (RdRows w' (· < w'.heap.size) v (rpow um t))) (fun i _ _ => t0 - (intOf i).toNat)
      case atStart => exact ⟨0, Nat.zero_le _, rfl, Below.refl _ _, HR56.out⟩
      case round =>
        obtain ⟨t, ht, rfl, hbt, HRT⟩ := hrel
        by_cases htl : t < t0
        · obtain ⟨hx2, hx1⟩ := HPB.out t (by omega)
          have hbd : (999999999 : Int) * (t : Int) ≤ 999999999 * 64 := Int.mul_le_mul_of_nonneg_left (by omega) (by omega)
          have hbd0 : 0 ≤ (999999999 : Int) * (t : Int) := Int.mul_nonneg (by omega) (by omega)
          have HMM := refproduct_any wr _ v6 (rpow um t) um k (999999999 * t) 999999999 HRT.out (HR6.out.later hbt) hx2 HUL.out hx1 HUB.out h24 ⟨hbd0, by omega⟩ (by omega)
          rw [← HPS.out t] at HMM
          have HM := Lib.hid HMM
          have HBT := Lib.hid hbt
          clear hx1 hx2 hbd hbd0 HMM hbt HRT
          go_wp2_with fail
          refine HM.out.mono ?_
          rintro e w8 ⟨v8, rfl, hb8, hr8⟩
          have HB8 := Lib.hid (HBT.out.trans (hb8.mono HBT.out.size))
          have HR8 := Lib.hid hr8
          clear hb8 hr8 HM
          go_wp2
          go_roundw
          case rel => exact ⟨t + 1, by omega, by go_num, HB8.out, HR8.out⟩
          case measure => simp [intOf]; omega
        · obtain rfl : t = t0 := by omega
          obtain ⟨hx2, hx1⟩ := HPB.out t (by omega)
          have HLM := Lib.hid (refLimited_any wr _ (rpow um t) HRT.out (by rw [hx2]; omega) (fun r hr => by rw [(hx1 r hr).1]; omega))
          have HB8 := Lib.hid (HB6.out.trans (hbt.mono HB6.out.size))
          have ttt : decide ((t : Int) < (t : Int)) = false := by simp
          clear hx1 hx2 hbt HRT
          go_wp2_with fail
          refine HLM.out.mono ?_
          rintro e w9 ⟨v9, rfl, hb9, hr9⟩
          have HF : Hid (RetRows W (power m t) (.returned (.tuple #[v9, .int .i64 (limM (rpow um t)).2])) w9) := by
            show RetRows _ _ _ _
            rw [HP.out]
            exact ⟨v9, rfl, HB8.out.trans (hb9.mono HB8.out.size), hr9⟩
          clear HB8 hb9 hr9 HLM
          go_wp2
          go_ret2
          exact HF.out
end Go.Proofs.YtjfhncnpmelopaaGreatDoor
/- Walks of the reference: ShortPace, CheckPace. -/
namespace Go.Sheet
theorem paceE1_cases (p : PC) : paceE1 p = if p.rd.length = 0 then 12 else if 24 < p.rd.length then 5 else if eachF (fun _ n => outE n 0 10000) 0 p.rd ≠ 0 then eachF (fun _ n => outE n 0 10000) 0 p.rd else if p.mi.length ≠ p.rd.length then 2 else 0 := by
  rw [paceE1]
  by_cases h1 : p.rd.length = 0
  · simp [fst, whenE, h1]
  · by_cases h2 : 24 < p.rd.length
    · simp [fst, whenE, h1, h2]
    · by_cases h3 : eachF (fun _ n => outE n 0 10000) 0 p.rd ≠ 0
      · simp [fst, whenE, h1, h2, h3]
      · simp only [ne_eq, Classical.not_not] at h3
        by_cases h4 : p.mi.length ≠ p.rd.length
        · simp [fst, whenE, h1, h2, h3, h4]
        · simp [fst, whenE, h1, h2, h3, h4]
theorem paceE2_cases (p : PC) : paceE2 p = if p.ho.length = 0 then 12 else if 36 < p.ho.length then 5 else eachF (fun _ n => outE n 1 8) 0 p.ho := by
  rw [paceE2]
  by_cases h1 : p.ho.length = 0
  · simp [fst, whenE, h1]
  · by_cases h2 : 36 < p.ho.length
    · simp [fst, whenE, h1, h2]
    · by_cases h3 : eachF (fun _ n => outE n 1 8) 0 p.ho = 0
      · simp [fst, whenE, h1, h2, h3]
      · simp [fst, whenE, h1, h2, h3]
end Go.Sheet
namespace Go.Proofs.YtjfhncnpmelopaaGreatDoor
open Go.RowKit Go.Mem Go.Sheet
set_option maxRecDepth 100000 in
set_option maxHeartbeats 1000000 in
theorem refShortPace_any (W : World) (vr vm vh : Value) (p : PC) (h : RdPace W (· < W.heap.size) vr vm vh p) :
    Calls Tryz.prog 26 #[.agg #[vr, vm, vh]] W fun e w' => IsB e ∧ Below W.heap.size W w' := by
  obtain ⟨h1, ⟨vs, h2, h2'⟩, h3⟩ := h
  have b1 := h1.le
  have b2 := h2.le
  have b3 := h3.le
  have hb := (Below.refl W.heap.size W).alloc (Nat.le_refl _) (.cells #[vr, vm, vh] 56)
  have h2w := h2.later hb
  have H2' : Hid (∀ (i : Nat) (x : Value) (r : List Int), vs[i]? = some x → p.mi[i]? = some r → Rd W (· < W.heap.size) 1 x r.length (ints r)) := h2'
  obtain ⟨Ar, cr, rfl, _, _, _⟩ := h1.open_
  obtain ⟨Am, cm, rfl, _, _, _⟩ := h2.open_
  obtain ⟨Ah, ch, rfl, _, _, _⟩ := h3.open_
  generalize p.rd.length = n1 at *
  generalize HN2 : p.mi.length = n2 at *
  have HN2 := Lib.hid HN2
  generalize p.ho.length = n3 at *
  have k0 : (W.alloc (.cells #[.slice Ar n1 cr, .slice Am n2 cm, .slice Ah n3 ch] 56)).cell? ⟨W.heap.size, 0, none⟩ = some (.slice Ar n1 cr) := by simp
  have k1 : (W.alloc (.cells #[.slice Ar n1 cr, .slice Am n2 cm, .slice Ah n3 ch] 56)).cell? ⟨W.heap.size, 1, none⟩ = some (.slice Am n2 cm) := by simp
  have k2 : (W.alloc (.cells #[.slice Ar n1 cr, .slice Am n2 cm, .slice Ah n3 ch] 56)).cell? ⟨W.heap.size, 2, none⟩ = some (.slice Ah n3 ch) := by simp
  clear h1 h2 h3 h2'
  go_enter Tryz.func26, Tryz.ntmps26
  by_cases g1 : 30 < n1
  · go_wp2
    go_ret
    exact ⟨⟨_, rfl⟩, hb⟩
  · by_cases g2 : 30 < n2
    · go_wp2
      go_ret
      exact ⟨⟨_, rfl⟩, hb⟩
    · by_cases g3 : 40 < n3
      · go_wp2
        go_ret
        exact ⟨⟨_, rfl⟩, hb⟩
      · go_wp2
        generalize W.alloc (.cells #[.slice Ar n1 cr, .slice Am n2 cm, .slice Ah n3 ch] 56) = w1 at *
        go_loop [3] (fun i => ∃ k : Nat, k ≤ n2 ∧ i = .int .i64 k) (fun i => n2 - (intOf i).toNat)
        case atStart => exact ⟨0, Nat.zero_le _, rfl⟩
        case round =>
          obtain ⟨k, hk, rfl⟩ := hrel
          by_cases hlt : k < n2
          · obtain ⟨b, o, y, rfl, hy, cy⟩ := h2w.val hlt
            have hrm : p.mi[k]? = some p.mi[k] := List.getElem?_eq_getElem (by rw [HN2.out]; exact hlt)
            obtain ⟨Ay, cy', rfl, _, _, _⟩ := (H2'.out k y _ hy hrm).open_
            have hrl := (H2'.out k _ _ hy hrm).le
            generalize p.mi[k].length = m at *
            clear hy hrm
            by_cases g4 : 40 < m
            · have g4' : decide (40 < (m : Int)) = true := by simp; omega
              go_wp2
              go_ret
              exact ⟨⟨_, rfl⟩, hb⟩
            · have g4' : decide (40 < (m : Int)) = false := by simp; omega
              go_wp2
              go_round
              case rel => exact ⟨k + 1, by omega, by go_num⟩
              case measure => simp [intOf]; omega
          · obtain rfl : k = n2 := by omega
            go_wp2
            go_ret
            exact ⟨⟨_, rfl⟩, hb⟩
theorem outE_yes {n lo hi : Int} (h : outB n lo hi = true) : outE n lo hi = 3 := by rw [outE_outB, if_pos h]
theorem outE_no {n lo hi : Int} (h : outB n lo hi = false) : outE n lo hi = 0 := by rw [outE_outB, if_neg (by rw [h]; decide)]
set_option maxRecDepth 100000 in
set_option maxHeartbeats 1000000 in
theorem refCheckPace_any (W : World) (vr vm vh : Value) (p : PC) (h : RdPace W (· < W.heap.size) vr vm vh p) :
    Calls Tryz.prog 27 #[.agg #[vr, vm, vh]] W fun e w' => e = .returned (.int .i64 (checkPace p)) ∧ Below W.heap.size W w' := by
  obtain ⟨h1, ⟨vs, h2, h2'⟩, h3⟩ := h
  have b1 := h1.le
  have b2 := h2.le
  have b3 := h3.le
  have hb := (Below.refl W.heap.size W).alloc (Nat.le_refl _) (.cells #[vr, vm, vh] 56)
  have h1w := h1.later hb
  have h2w := h2.later hb
  have h3w := h3.later hb
  have H2' : Hid (∀ (i : Nat) (x : Value) (r : List Int), vs[i]? = some x → p.mi[i]? = some r → Rd W (· < W.heap.size) 1 x r.length (ints r)) := h2'
  have HV : Hid (checkPace p = if p.rd.length = 0 then 12 else if 24 < p.rd.length then 5 else if eachF (fun _ n => outE n 0 10000) 0 p.rd ≠ 0 then eachF (fun _ n => outE n 0 10000) 0 p.rd else if p.mi.length ≠ p.rd.length then 2 else
      if p.ho.length = 0 then 12 else if 36 < p.ho.length then 5 else if eachF (fun _ n => outE n 1 8) 0 p.ho ≠ 0 then eachF (fun _ n => outE n 1 8) 0 p.ho else eachF (fun _ r => paceR p.ho.length r) 0 p.mi) := by
    show _ = _
    rw [checkPace, paceE1_cases, paceE2_cases]
    by_cases e1 : p.rd.length = 0
    · simp [e1]
    · by_cases e2 : 24 < p.rd.length
      · simp [e1, e2]
      · by_cases e3 : eachF (fun _ n => outE n 0 10000) 0 p.rd = 0
        · by_cases e4 : p.mi.length = p.rd.length
          · by_cases e5 : p.ho.length = 0
            · simp [e1, e2, e3, e4, e5]
            · by_cases e6 : 36 < p.ho.length
              · simp [e1, e2, e3, e4, e5, e6]
              · simp [e1, e2, e3, e4, e5, e6]
          · simp [e1, e2, e3, e4]
        · simp [e1, e2, e3]
  obtain ⟨Ar, cr, rfl, _, _, _⟩ := h1.open_
  obtain ⟨Am, cm, rfl, _, _, _⟩ := h2.open_
  obtain ⟨Ah, ch, rfl, _, _, _⟩ := h3.open_
  generalize HN1 : p.rd.length = n1 at *
  generalize HN2 : p.mi.length = n2 at *
  generalize HN3 : p.ho.length = n3 at *
  have HN1 := Lib.hid HN1
  have HN2 := Lib.hid HN2
  have HN3 := Lib.hid HN3
  have k0 : (W.alloc (.cells #[.slice Ar n1 cr, .slice Am n2 cm, .slice Ah n3 ch] 56)).cell? ⟨W.heap.size, 0, none⟩ = some (.slice Ar n1 cr) := by simp
  have k1 : (W.alloc (.cells #[.slice Ar n1 cr, .slice Am n2 cm, .slice Ah n3 ch] 56)).cell? ⟨W.heap.size, 1, none⟩ = some (.slice Am n2 cm) := by simp
  have k2 : (W.alloc (.cells #[.slice Ar n1 cr, .slice Am n2 cm, .slice Ah n3 ch] 56)).cell? ⟨W.heap.size, 2, none⟩ = some (.slice Ah n3 ch) := by simp
  clear h1 h2 h3 h2'
  go_enter Tryz.func27, Tryz.ntmps27
  by_cases g1 : n1 = 0
  · have g1' : ((n1 : Int) == 0) = true := by simp; omega
    have HR := Lib.hid (HV.out.trans (if_pos g1))
    clear HV g1
    go_wp2
    go_ret
    exact ⟨ret_i64 HR.out.symm, hb⟩
  · have g1' : ((n1 : Int) == 0) = false := by simp; omega
    have HV1 := Lib.hid (HV.out.trans (if_neg g1))
    clear HV g1
    by_cases g2 : 24 < n1
    · have g2' : decide (24 < (n1 : Int)) = true := by simp; omega
      have HR := Lib.hid (HV1.out.trans (if_pos g2))
      clear HV1
      go_wp2
      go_ret
      exact ⟨ret_i64 HR.out.symm, hb⟩
    · have g2' : decide (24 < (n1 : Int)) = false := by simp; omega
      have HV2 := Lib.hid (HV1.out.trans (if_neg g2))
      clear HV1 g2
      go_wp2
      generalize W.alloc (.cells #[.slice Ar n1 cr, .slice Am n2 cm, .slice Ah n3 ch] 56) = w1 at *
      go_loop [3] (fun i => ∃ k : Nat, k ≤ n1 ∧ i = .int .i64 k ∧ Hid (eachF (fun _ n => outE n 0 10000) k (p.rd.drop k) = eachF (fun _ n => outE n 0 10000) 0 p.rd)) (fun i => n1 - (intOf i).toNat)
      case atStart => exact ⟨0, Nat.zero_le _, rfl, rfl⟩
      case round =>
        obtain ⟨k, hk, rfl, he⟩ := hrel
        by_cases hlt : k < n1
        · obtain ⟨b, o, x, rfl, hx, cx⟩ := h1w.int hlt
          by_cases g3 : outB x 0 10000 = true
          · have e1 := eachF_stop hx (show outE x 0 10000 ≠ 0 by rw [outE_yes g3]; decide) he.out
            have HR : Hid (checkPace p = 3) := by
              show _ = _
              rw [HV2.out, if_pos (by rw [← e1, outE_yes g3]; decide), ← e1, outE_yes g3]
            clear HV2 he e1 hx
            go_wp2_with (go_at_call 52; refine (outB_any _ _ _ _).mono ?_; rintro e w' ⟨rfl, rfl⟩)
            go_ret
            exact ⟨ret_i64 HR.out.symm, hb⟩
          · have g3' : outB x 0 10000 = false := by simpa using g3
            have HN := Lib.hid (eachF_go hx (show ¬ outE x 0 10000 ≠ 0 by rw [outE_no g3']; simp) he.out)
            clear he g3 hx
            go_wp2_with (go_at_call 52; refine (outB_any _ _ _ _).mono ?_; rintro e w' ⟨rfl, rfl⟩)
            go_round
            case rel => exact ⟨k + 1, by omega, by go_num, HN.out⟩
            case measure => simp [intOf]; omega
        · obtain rfl : k = n1 := by omega
          have HV3 := Lib.hid (HV2.out.trans (if_neg (by rw [eachF_end (n := k) (by have := HN1.out; omega) he.out]; simp)))
          clear HV2 he
          by_cases g4 : n2 ≠ k
          · have g4' : ((n2 : Int) != (k : Int)) = true := by simp; omega
            have HR := Lib.hid (HV3.out.trans (if_pos g4))
            clear HV3 g4
            go_wp2
            go_ret
            exact ⟨ret_i64 HR.out.symm, hb⟩
          · have g4' : ((n2 : Int) != (k : Int)) = false := by simp; omega
            have HV4 := Lib.hid (HV3.out.trans (if_neg g4))
            have HNK : Hid (n2 = k) := by show _ = _; omega
            clear HV3 g4
            by_cases g5 : n3 = 0
            · have g5' : ((n3 : Int) == 0) = true := by simp; omega
              have HR := Lib.hid (HV4.out.trans (if_pos g5))
              clear HV4 g5
              go_wp2
              go_ret
              exact ⟨ret_i64 HR.out.symm, hb⟩
            · have g5' : ((n3 : Int) == 0) = false := by simp; omega
              have HV5 := Lib.hid (HV4.out.trans (if_neg g5))
              clear HV4 g5
              by_cases g6 : 36 < n3
              · have g6' : decide (36 < (n3 : Int)) = true := by simp; omega
                have HR := Lib.hid (HV5.out.trans (if_pos g6))
                clear HV5
                go_wp2
                go_ret
                exact ⟨ret_i64 HR.out.symm, hb⟩
              · have g6' : decide (36 < (n3 : Int)) = false := by simp; omega
                have HV6 := Lib.hid (HV5.out.trans (if_neg g6))
                clear HV5
                go_wp2
                go_loop [4] (fun i => ∃ j : Nat, j ≤ n3 ∧ i = .int .i64 j ∧ Hid (eachF (fun _ n => outE n 1 8) j (p.ho.drop j) = eachF (fun _ n => outE n 1 8) 0 p.ho)) (fun i => n3 - (intOf i).toNat)
                case atStart => exact ⟨0, Nat.zero_le _, rfl, rfl⟩
                case round =>
                  obtain ⟨j, hj, rfl, he⟩ := hrel
                  by_cases hlj : j < n3
                  · obtain ⟨b, o, x, rfl, hx, cx⟩ := h3w.int hlj
                    by_cases g3 : outB x 1 8 = true
                    · have e1 := eachF_stop hx (show outE x 1 8 ≠ 0 by rw [outE_yes g3]; decide) he.out
                      have HR : Hid (checkPace p = 3) := by
                        show _ = _
                        rw [HV6.out, if_pos (by rw [← e1, outE_yes g3]; decide), ← e1, outE_yes g3]
                      clear HV6 he e1 hx
                      go_wp2_with (go_at_call 52; refine (outB_any _ _ _ _).mono ?_; rintro e w' ⟨rfl, rfl⟩)
                      go_ret
                      exact ⟨ret_i64 HR.out.symm, hb⟩
                    · have g3' : outB x 1 8 = false := by simpa using g3
                      have HN := Lib.hid (eachF_go hx (show ¬ outE x 1 8 ≠ 0 by rw [outE_no g3']; simp) he.out)
                      clear he g3 hx
                      go_wp2_with (go_at_call 52; refine (outB_any _ _ _ _).mono ?_; rintro e w' ⟨rfl, rfl⟩)
                      go_round
                      case rel => exact ⟨j + 1, by omega, by go_num, HN.out⟩
                      case measure => simp [intOf]; omega
                  · obtain rfl : j = n3 := by omega
                    have HV7 := Lib.hid (HV6.out.trans (if_neg (by rw [eachF_end (n := j) (by have := HN3.out; omega) he.out]; simp)))
                    clear HV6 he
                    go_wp2
                    go_loopw [5] (fun i w' => ∃ m q : Nat, m ≤ n2 ∧ i = .int .i64 m ∧ w' = w1.drewN q ∧ Hid (eachF (fun _ r => paceR j r) m (p.mi.drop m) = eachF (fun _ r => paceR j r) 0 p.mi)) (fun i _ => n2 - (intOf i).toNat)
                    case atStart => exact ⟨0, 0, Nat.zero_le _, rfl, rfl, rfl⟩
                    case round =>
                      obtain ⟨m, q, hm, rfl, rfl, he⟩ := hrel
                      have hbq := hb.trans (below_drewN (Below.refl W.heap.size w1) q)
                      by_cases hlm : m < n2
                      · obtain ⟨b, o, y, rfl, hy, cy⟩ := h2w.val hlm
                        have hrm : p.mi[m]? = some p.mi[m] := List.getElem?_eq_getElem (by rw [HN2.out]; exact hlm)
                        have hrow := (H2'.out m y _ hy hrm).later hb
                        generalize p.mi[m] = r at *
                        obtain ⟨Ay, cy', rfl, _, _, hrow⟩ := hrow.open_
                        have hrl := hrow.le
                        have HRM := Lib.hid hrm
                        have HPR : Hid (paceR j r = if r.length ≠ j then 2 else eachF (fun _ n => outE n 1 10000) 0 r) := rfl
                        generalize HRL : r.length = rl at *
                        have HRL := Lib.hid HRL
                        clear hy hrm
                        by_cases g7 : rl ≠ j
                        · have g7' : ((rl : Int) != (j : Int)) = true := by simp; omega
                          have e1 := eachF_stop HRM.out (show paceR j r ≠ 0 by rw [HPR.out, if_pos g7]; decide) he.out
                          have HR : Hid (checkPace p = 2) := by
                            show _ = _
                            rw [HV7.out, ← e1, HPR.out, if_pos g7]
                          clear HV7 he e1 g7 hrow
                          go_wp2_with fail
                          go_quiet (fail)
                          go_wp2
                          go_ret
                          exact ⟨ret_i64 HR.out.symm, hbq.trans (below_drewN (Below.refl _ _) _)⟩
                        · have g7' : ((rl : Int) != (j : Int)) = false := by simp; omega
                          have HPR2 : Hid (paceR j r = eachF (fun _ n => outE n 1 10000) 0 r) := HPR.out.trans (if_neg g7)
                          have hrj : rl = j := by omega
                          subst hrj
                          clear HPR g7
                          go_wp2_with fail
                          go_quiet (fail)
                          have hbq2 := hbq.trans (below_drewN (Below.refl W.heap.size (w1.drewN q)) nq)
                          go_wp2
                          go_loopw [6] (fun i w' => ∃ t q' : Nat, t ≤ rl ∧ i = .int .i64 t ∧ w' = w1.drewN q' ∧ Hid (eachF (fun _ n => outE n 1 10000) t (r.drop t) = eachF (fun _ n => outE n 1 10000) 0 r)) (fun i _ => rl - (intOf i).toNat)
                          case atStart => exact ⟨0, q + nq, Nat.zero_le _, rfl, by first | rfl | exact World.drewN_drewN _ _ _, rfl⟩
                          case round =>
                            obtain ⟨t, q', ht, rfl, rfl, he2⟩ := hrel
                            have hbq3 := hb.trans (below_drewN (Below.refl W.heap.size w1) q')
                            by_cases hlt2 : t < rl
                            · obtain ⟨b9, o9, x, rfl, hx, cx⟩ := Rd.int (q := .i64) (l := r) hrow hlt2
                              by_cases g3 : outB x 1 10000 = true
                              · have e1 := eachF_stop hx (show outE x 1 10000 ≠ 0 by rw [outE_yes g3]; decide) he2.out
                                have e2 := eachF_stop HRM.out (show paceR rl r ≠ 0 by rw [HPR2.out, ← e1, outE_yes g3]; decide) he.out
                                have HR : Hid (checkPace p = 3) := by
                                  show _ = _
                                  rw [HV7.out, ← e2, HPR2.out, ← e1, outE_yes g3]
                                clear HV7 he he2 e1 e2 hx hrow
                                go_wp2_with (go_at_call 52; refine (outB_any _ _ _ _).mono ?_; rintro e w' ⟨rfl, rfl⟩)
                                go_ret
                                exact ⟨ret_i64 HR.out.symm, hbq3⟩
                              · have g3' : outB x 1 10000 = false := by simpa using g3
                                have HN := Lib.hid (eachF_go hx (show ¬ outE x 1 10000 ≠ 0 by rw [outE_no g3']; simp) he2.out)
                                clear he2 g3 hx
                                go_wp2_with (go_at_call 52; refine (outB_any _ _ _ _).mono ?_; rintro e w' ⟨rfl, rfl⟩)
                                go_roundw
                                case rel => exact ⟨t + 1, q', by omega, by go_num, rfl, HN.out⟩
                                case measure => simp [intOf]; omega
                            · obtain rfl : t = rl := by omega
                              have e1 := eachF_end (n := t) (by have := HRL.out; omega) he2.out
                              have HN := Lib.hid (eachF_go HRM.out (show ¬ paceR t r ≠ 0 by rw [HPR2.out, e1]; simp) he.out)
                              clear he he2 e1 hrow
                              go_wp2
                              go_roundw
                              case rel => exact ⟨m + 1, q', by omega, by go_num, rfl, HN.out⟩
                              case measure => simp [intOf]; omega
                      · obtain rfl : m = n2 := by omega
                        have HR : Hid (checkPace p = 0) := by
                          show _ = _
                          rw [HV7.out]
                          exact eachF_end (n := m) (by have := HN2.out; omega) he.out
                        clear HV7 he
                        go_wp2
                        go_ret
                        exact ⟨ret_i64 HR.out.symm, hbq⟩
end Go.Proofs.YtjfhncnpmelopaaGreatDoor
/- Walk of the law's package: table. -/
namespace Go.Sheet
/-- a table and an error are the wanted ones -/
def tabOk (l : IMat) (e bad : Int) (want : IMat) : Bool := if bad ≠ 0 then decide (l.length = 0) && (e == bad) else (e == 0) && decide (l = want)
theorem table_yes {l : IMat} {e bad : Int} {want : IMat} (h1 : bad ≠ 0 → l = [] ∧ e = bad) (h2 : bad = 0 → e = 0 ∧ l = want) : tabOk l e bad want = true := by
  rw [tabOk]
  by_cases h : bad ≠ 0
  · rw [if_pos h]; obtain ⟨a, b⟩ := h1 h; simp [a, b]
  · rw [if_neg h]; obtain ⟨a, b⟩ := h2 (by simpa using h); simp [a, b]
end Go.Sheet
namespace Go.Proofs.YtjfhncnpmelopaaGreatDoor
open Go.RowKit Go.Mem Go.Sheet
set_option maxRecDepth 100000 in
set_option maxHeartbeats 1000000 in
theorem table_any (w : World) (F F' : Nat → Prop) (va vb : Value) (l want : IMat) (e bad : Int) (ha : RdRows w F va l) (hb : RdRows w F' vb want) :
    Calls Tryz.prog 33 #[va, .int .i64 e, .int .i64 bad, vb] w fun r w' => r = .returned (.bool (tabOk l e bad want)) ∧ ∃ n, w' = w.drewN n := by
  have HC := Lib.hid (sameTable_any w F F' va vb l want ha hb)
  obtain ⟨vs, ha, _⟩ := ha
  generalize HL : l.length = n at *
  obtain ⟨A, c, rfl, _, _, _⟩ := ha.open_
  have hn := ha.le
  clear ha hb
  have HL := Lib.hid HL
  go_enter Tryz.func33, Tryz.ntmps33
  have HD : Hid (tabOk l e bad want = if bad ≠ 0 then decide (l.length = 0) && (e == bad) else (e == 0) && decide (l = want)) := rfl
  cases h1 : (bad != 0)
  · have h1' : ¬ bad ≠ 0 := by simpa using h1
    have HV : Hid (tabOk l e bad want = ((e == 0) && decide (l = want))) := by show _ = _; rw [HD.out, if_neg h1']
    clear h1' HD
    generalize decide (l = want) = r at *
    cases h2 : (e == 0)
    all_goals
      go_wp2_with (go_at_call 65; refine HC.out.mono ?_; rintro e w' ⟨rfl, ⟨q, rfl⟩⟩)
      go_ret
      exact ⟨ret_bool (by rw [HV.out, h2]; simp), by first | exact ⟨0, rfl⟩ | exact ⟨_, rfl⟩⟩
  · have h1' : bad ≠ 0 := by simpa using h1
    have HV : Hid (tabOk l e bad want = (((n : Int) == 0) && (e == bad))) := by show _ = _; rw [HD.out, if_pos h1', HL.out]; congr 1; rw [Bool.eq_iff_iff]; simp
    clear h1' HD
    cases h2 : ((n : Int) == 0)
    all_goals
      go_wp2
      go_ret
      exact ⟨ret_bool (by rw [HV.out, h2]; simp), 0, rfl⟩
end Go.Proofs.YtjfhncnpmelopaaGreatDoor
/- The law SheetMatrices, walked. (printed by wip/gen_matrices.py) -/
namespace Go.Sheet
open Go.Proofs.YtjfhncnpmelopaaGreatDoor
theorem product_first {a b : IMat} (h : fst [matE a, matE b, whenE ((a.length : Int) != (b.length : Int)) 2] ≠ 0) : product a b = ([], fst [matE a, matE b, whenE ((a.length : Int) != (b.length : Int)) 2]) := by
  have e : ((a.length : Int) != (b.length : Int)) = decide (a.length ≠ b.length) := by rw [Bool.eq_iff_iff]; simp only [bne_iff_ne, decide_eq_true_eq, ne_eq, Int.ofNat_inj]
  rw [e] at h ⊢
  rw [product, if_pos h]
theorem product_zero {a b : IMat} (h : fst [matE a, matE b, whenE ((a.length : Int) != (b.length : Int)) 2] = 0) : matE a = 0 ∧ matE b = 0 ∧ a.length = b.length := by
  rw [fst_zero] at h
  simp only [List.mem_cons, List.not_mem_nil, or_false, forall_eq_or_imp, forall_eq] at h
  obtain ⟨h1, h2, h3⟩ := h
  rw [whenE_zero _ _ (by decide)] at h3
  have h4 : (a.length : Int) = (b.length : Int) := by simpa using h3
  exact ⟨h1, h2, by omega⟩
theorem power_first {m : IMat} {z : Int} (h : fst [matE m, whenE (outB z 0 64) 3] ≠ 0) : power m z = ([], fst [matE m, whenE (outB z 0 64) 3]) := by
  have h' : fst [matE m, outE z 0 64] ≠ 0 := h
  show power m z = ([], fst [matE m, outE z 0 64])
  rw [power, if_pos h']
theorem power_zero {m : IMat} {z : Int} (h : fst [matE m, whenE (outB z 0 64) 3] = 0) : matE m = 0 ∧ 0 ≤ z ∧ z ≤ 64 := by
  rw [fst_zero] at h
  simp only [List.mem_cons, List.not_mem_nil, or_false, forall_eq_or_imp, forall_eq] at h
  exact ⟨h.1, (outE_zero _ _ _).1 h.2⟩
theorem applyE_list {m : IMat} {x : List Int} (h : matE m = 0) : applyE m x = listE m x := by
  rw [applyE, h, listE]
  by_cases hl : x.length = m.length
  · have e : whenE (decide (x.length ≠ m.length)) 2 = 0 := by simp [whenE, hl]
    rw [e, if_neg (fun h => h hl)]
    generalize eachF (fun _ n => entryE n) 0 x = E
    simp only [fst]
    by_cases hE : E = 0 <;> simp [hE]
  · have e : whenE (decide (x.length ≠ m.length)) 2 = 2 := by simp [whenE, hl]
    rw [e, if_pos hl]; rfl
theorem apply_first {m : IMat} {x : List Int} (h : matE m = 0) (h1 : listE m x ≠ 0) : applyM m x = ([], listE m x) := by
  rw [applyM, applyE_list h, if_pos h1]
theorem apply_bad {m : IMat} {x : List Int} (h : matE m ≠ 0) : applyM m x = ([], matE m) := by
  have e : applyE m x = matE m := by rw [applyE, fst, if_pos h]
  rw [applyM, e, if_pos h]
theorem listE_zero {m : IMat} {x : List Int} (h : listE m x = 0) : x.length = m.length ∧ ∀ y ∈ x, entryE y = 0 := by
  rw [listE] at h
  split at h
  · cases h
  · rename_i hl
    exact ⟨by omega, entries_zero.1 h⟩
theorem resultM_err (m : IMat) : (resultM m).2 ≠ 0 → (resultM m).1 = [] := by
  rw [resultM]; split
  · exact fun _ => rfl
  · exact fun h => absurd rfl h
theorem product_err (a b : IMat) : (product a b).2 ≠ 0 → (product a b).1 = [] := by
  rw [product]; split
  · exact fun _ => rfl
  · exact resultM_err _
theorem power_err (a : IMat) (z : Int) : (power a z).2 ≠ 0 → (power a z).1 = [] := by
  rw [power]; split
  · exact fun _ => rfl
  · exact resultM_err _
theorem apply_err (a : IMat) (x : List Int) : (applyM a x).2 ≠ 0 → (applyM a x).1 = [] := by
  rw [applyM]; split
  · exact fun _ => rfl
  · rw [outerL]; split
    · exact fun _ => rfl
    · exact fun h => absurd rfl h
end Go.Sheet
namespace Go.Proofs.YtjfhncnpmelopaaGreatDoor
open Go.RowKit Go.Mem Go.Sheet
/-- what the law's lines have given -/
structure MEnv (W w : World) (vp vm vx : Value) (P M : IMat) (X : List Int) : Prop where
  bel : Below W.heap.size W w
  p : RdRows w (· < w.heap.size) vp P
  m : RdRows w (· < w.heap.size) vm M
  x : Rd w (· < w.heap.size) 1 vx X.length (X.map (Value.int .i64))
theorem MEnv.later {W w w' : World} {vp vm vx : Value} {P M : IMat} {X : List Int} (h : MEnv W w vp vm vx P M X) (hb : Below w.heap.size w w') : MEnv W w' vp vm vx P M X :=
  ⟨h.bel.trans (hb.mono h.bel.size), h.p.later hb, h.m.later hb, h.x.later hb⟩
theorem lfirst3 (w : World) (a b c : Int) : Calls Tryz.prog 50 #[.slice (some ⟨w.heap.size, 0, none⟩) 3 3] (w.alloc (.cells #[.int .i64 a, .int .i64 b, .int .i64 c] 3)) fun r w' => r = .returned (.int .i64 (fst [a, b, c])) ∧ w.alloc (.cells #[.int .i64 a, .int .i64 b, .int .i64 c] 3) = w' :=
  lfirst_any _ (fun _ => True) _ 3 [a, b, c] (rd_new (m := 3) w #[.int .i64 a, .int .i64 b, .int .i64 c] 3 rfl (by omega) (fun _ => True) trivial)
theorem lfirst2 (w : World) (a b : Int) : Calls Tryz.prog 50 #[.slice (some ⟨w.heap.size, 0, none⟩) 2 2] (w.alloc (.cells #[.int .i64 a, .int .i64 b] 3)) fun r w' => r = .returned (.int .i64 (fst [a, b])) ∧ w.alloc (.cells #[.int .i64 a, .int .i64 b] 3) = w' :=
  lfirst_any _ (fun _ => True) _ 2 [a, b] (rd_new (m := 2) w #[.int .i64 a, .int .i64 b] 3 rfl (by omega) (fun _ => True) trivial)
set_option maxRecDepth 100000 in
set_option maxHeartbeats 0 in
theorem sheetMatrices_any (W : World) (va : Value) (a : IMat) (vb : Value) (b : IMat) (vl : Value) (x : List Int) (z : Int) (ha : RdRows W (· < W.heap.size) va a) (haf : ∀ r ∈ a, ∀ z ∈ r, (Lit.int .i64 z).wf = true) (hb : RdRows W (· < W.heap.size) vb b) (hbf : ∀ r ∈ b, ∀ z ∈ r, (Lit.int .i64 z).wf = true)
    (hx : Rd W (· < W.heap.size) 1 vl x.length (x.map (Value.int .i64))) (hf : (∀ u ∈ x, (Lit.int .i64 u).wf = true) ∧ (Lit.int .i64 z).wf = true) :
    Calls Tryz.prog 10 #[va, vb, .agg #[vl, .int .i64 z]] W fun e w' => e = .returned (.bool true) ∧ Below W.heap.size W w' := by
  clear haf hbf hf
  have hb0 := (Below.refl W.heap.size W).alloc (Nat.le_refl _) (.cells #[vl, .int .i64 z] 103)
  have HB0 := Lib.hid hb0
  have hxl := hx.le
  obtain ⟨vsa, g1, _⟩ := id ha
  obtain ⟨vsb, g3, _⟩ := id hb
  have hla := g1.le
  have hlb := g3.le
  obtain ⟨Aa, ca, rfl, -, -, -⟩ := g1.open_
  obtain ⟨Ab, cb, rfl, -, -, -⟩ := g3.open_
  obtain ⟨Ax, cx, rfl, -, -, -⟩ := hx.open_
  clear g1 g3
  have HA := Lib.hid (ha.later hb0)
  have HB := Lib.hid (hb.later hb0)
  have HX := Lib.hid (hx.later hb0)
  have HPE := Lib.hid (fun h => product_first (a := a) (b := b) h)
  have HPZ := Lib.hid (fun h => product_zero (a := a) (b := b) h)
  have HWE := Lib.hid (fun h => power_first (m := a) (z := z) h)
  have HWZ := Lib.hid (fun h => power_zero (m := a) (z := z) h)
  have HLE := Lib.hid (fun h h1 => apply_first (m := a) (x := x) h h1)
  have HLB := Lib.hid (fun h => apply_bad (m := a) (x := x) h)
  have HLZ := Lib.hid (fun h => listE_zero (m := a) (x := x) h)
  have HE1 := Lib.hid (product_err a b)
  have HE2 := Lib.hid (power_err a z)
  have HE3 := Lib.hid (apply_err a x)
  have HFE : Hid (∀ E1 E2 E3 : Int, E1 ≠ 0 → fst [E1, E2, E3] = E1 ∧ fst [E1, E2] = E1) := fun E1 E2 E3 h => ⟨by rw [fst, if_pos h], by rw [fst, if_pos h]⟩
  have k0 : (W.alloc (.cells #[.slice Ax x.length cx, .int .i64 z] 103)).cell? ⟨W.heap.size, 0, none⟩ = some (.slice Ax x.length cx) := by simp
  have k1 : (W.alloc (.cells #[.slice Ax x.length cx, .int .i64 z] 103)).cell? ⟨W.heap.size, 1, none⟩ = some (.int .i64 z) := by simp
  clear ha hb hx hb0
  generalize hna : a.length = na at *
  generalize hnb : b.length = nb at *
  generalize hnx : x.length = nx at *
  have HNA := Lib.hid hna
  have HNB := Lib.hid hnb
  have HNX := Lib.hid hnx
  clear hna hnb hnx
  go_enter Tryz.func10, Tryz.ntmps10
  go_wp2_with fail
  generalize W.alloc (.cells #[.slice Ax nx cx, .int .i64 z] 103) = W0 at *
  have hg0 := World.block_lt_of_cell? _ _ k0
  have HBW : Hid (∀ w', Below W0.heap.size W0 w' → Below W.heap.size W w') := fun w' hb => HB0.out.trans (hb.mono HB0.out.size)
  have HK : Hid (∀ w', Below W0.heap.size W0 w' → w'.cell? ⟨W.heap.size, 0, none⟩ = some (.slice Ax nx cx) ∧ w'.cell? ⟨W.heap.size, 1, none⟩ = some (.int .i64 z)) :=
    fun w' hb => ⟨(hb.cell (p := ⟨W.heap.size, 0, none⟩) hg0).trans k0, (hb.cell (p := ⟨W.heap.size, 1, none⟩) hg0).trans k1⟩
  clear k0 k1 hg0 HB0
  generalize W.heap.size = g0 at HK ⊢
  have HAW : Hid (∀ w, Below W0.heap.size W0 w → Calls Tryz.prog 14 #[] w fun e w' => e = .returned (.bool true) ∧ Below W.heap.size W w') :=
    fun w hb => (awake_any w).mono fun e w' ⟨p, q⟩ => ⟨p, HBW.out w' (hb.trans (q.mono hb.size))⟩
  refine (awake_any W0).mono ?_
  rintro e w1 ⟨rfl, hb1⟩
  have HW1 := Lib.hid hb1
  clear hb1
  go_wp2_with fail
  refine (refShortMatrix_any w1 _ a (HA.out.later HW1.out)).mono ?_
  rintro e w' ⟨⟨b1, rfl⟩, rfl⟩
  cases b1 with
  | false =>
    go_wp2_with fail
    refine (HAW.out w1 HW1.out).mono ?_
    rintro e w2 ⟨rfl, hbW⟩
    go_wp2
    go_ret
    exact ⟨rfl, hbW⟩
  | true =>
    go_wp2_with fail
    refine (refShortMatrix_any w1 _ b (HB.out.later HW1.out)).mono ?_
    rintro e w' ⟨⟨b2, rfl⟩, rfl⟩
    cases b2 with
    | false =>
      go_wp2_with fail
      refine (HAW.out w1 HW1.out).mono ?_
      rintro e w2 ⟨rfl, hbW⟩
      go_wp2
      go_ret
      exact ⟨rfl, hbW⟩
    | true =>
      obtain ⟨k0, k1⟩ := HK.out _ HW1.out
      by_cases h40 : 40 < nx
      · have t40 : decide (40 < (nx : Int)) = true := by simp; omega
        clear h40
        go_wp2_with fail
        refine (HAW.out w1 HW1.out).mono ?_
        rintro e w2 ⟨rfl, hbW⟩
        go_wp2
        go_ret
        exact ⟨rfl, hbW⟩
      have t40 : decide (40 < (nx : Int)) = false := by simp; omega
      clear h40
      have HPR : Hid (∀ w, Below W0.heap.size W0 w → Calls Tryz.prog 57 #[.slice Aa na ca, .slice Ab nb cb] w (RetRows w (product a b))) := fun w hb => product_any w _ _ a b (HA.out.later hb) (HB.out.later hb)
      have HPW : Hid (∀ w, Below W0.heap.size W0 w → Calls Tryz.prog 58 #[.slice Aa na ca, .int .i64 z] w (RetRows w (power a z))) := fun w hb => power_any w _ a z (HA.out.later hb)
      have HAP : Hid (∀ w, Below W0.heap.size W0 w → Calls Tryz.prog 59 #[.slice Aa na ca, .slice Ax nx cx] w (RetInts w (applyM a x))) := fun w hb => apply_any w _ _ a x (HA.out.later hb) (by rw [HNX.out]; exact HX.out.later hb)
      have HCM : Hid (∀ w, Below W0.heap.size W0 w → Calls Tryz.prog 56 #[.slice Aa na ca] w fun e w' => e = .returned (.int .i64 (matE a)) ∧ Below w.heap.size w w') := fun w hb => checkMatrix_any w _ a (HA.out.later hb)
      have HRA : Hid (∀ w, Below W0.heap.size W0 w → Calls Tryz.prog 46 #[.slice Aa na ca] w fun e w' => e = .returned (.int .i64 (matE a)) ∧ w = w') := fun w hb => refCheckMatrix_any w _ a (HA.out.later hb)
      have HRB : Hid (∀ w, Below W0.heap.size W0 w → Calls Tryz.prog 46 #[.slice Ab nb cb] w fun e w' => e = .returned (.int .i64 (matE b)) ∧ w = w') := fun w hb => refCheckMatrix_any w _ b (HB.out.later hb)
      have HCL : Hid (∀ w, Below W0.heap.size W0 w → Calls Tryz.prog 60 #[.slice Aa na ca, .slice Ax nx cx] w fun e w' => e = .returned (.int .i64 (listE a x)) ∧ w = w') := fun w hb => refCheckList_any w _ _ a x (HA.out.later hb) (by rw [HNX.out]; exact HX.out.later hb)
      have HRP : Hid (matE a = 0 ∧ matE b = 0 ∧ na = nb → ∀ w, Below W0.heap.size W0 w → Calls Tryz.prog 61 #[.slice Aa na ca, .slice Ab nb cb] w (RetRows w (product a b))) := fun h w hb => refProduct_any w _ _ a b (HA.out.later hb) (HB.out.later hb) h.1 h.2.1 (by rw [HNA.out, HNB.out]; exact h.2.2)
      have HRW : Hid (matE a = 0 ∧ 0 ≤ z ∧ z ≤ 64 → ∀ w, Below W0.heap.size W0 w → Calls Tryz.prog 62 #[.slice Aa na ca, .int .i64 z] w (RetRows w (power a z))) := fun h w hb => refPower_any w _ a z (HA.out.later hb) h.1 h.2
      have HRL : Hid (matE a = 0 → nx = na ∧ (∀ y ∈ x, entryE y = 0) → ∀ w, Below W0.heap.size W0 w → Calls Tryz.prog 63 #[.slice Aa na ca, .slice Ax nx cx] w (RetInts w (applyM a x))) := fun h h1 w hb => refApply_any w _ _ a x (HA.out.later hb) (by rw [HNX.out]; exact HX.out.later hb) h (by rw [HNX.out, HNA.out]; exact h1.1) h1.2
      clear HA HB HX HNA HNB HNX
      generalize product a b = PP at *
      generalize power a z = QQ at *
      generalize applyM a x = XX at *
      generalize matE a = one at *
      generalize matE b = two at *
      generalize listE a x = le at *
      obtain ⟨p1, p2⟩ := PP
      obtain ⟨q1, q2⟩ := QQ
      obtain ⟨x1, x2⟩ := XX
      dsimp only at *
      go_wp2_with fail
      clear t40 k0 k1
      refine (HRA.out w1 HW1.out).mono ?_
      rintro e w' ⟨rfl, rfl⟩
      go_wp2_with fail
      refine (HRB.out w1 HW1.out).mono ?_
      rintro e w' ⟨rfl, rfl⟩
      go_wp2_with fail
      refine (HCM.out w1 HW1.out).mono ?_
      rintro e w2 ⟨rfl, hb2⟩
      have HW2 := Lib.hid (HW1.out.trans (hb2.mono HW1.out.size))
      have tone : (one != one) = false := by simp
      clear HW1 hb2 HRA HRB HCM
      by_cases h8 : (one == 0 && decide (8 < (na : Int)) || two == 0 && decide (8 < (nb : Int))) = true
      · have hbW := HBW.out _ HW2.out
        have hcases : ((one == 0) = true ∧ decide (8 < (na : Int)) = true) ∨ (((one == 0) = false ∨ ((one == 0) = true ∧ decide (8 < (na : Int)) = false)) ∧ (two == 0) = true ∧ decide (8 < (nb : Int)) = true) := by
          cases e1 : (one == 0) <;> cases e2 : decide (8 < (na : Int)) <;> cases e3 : (two == 0) <;> cases e4 : decide (8 < (nb : Int)) <;> simp_all
        clear h8
        rcases hcases with ⟨e1, e2⟩ | ⟨e1 | ⟨e1, e2⟩, e3, e4⟩
        all_goals
          go_wp2
          go_ret
          exact ⟨rfl, hbW⟩
      have hcases : ((one == 0) = false ∨ ((one == 0) = true ∧ decide (8 < (na : Int)) = false)) ∧ ((two == 0) = false ∨ ((two == 0) = true ∧ decide (8 < (nb : Int)) = false)) := by
        cases e1 : (one == 0) <;> cases e2 : decide (8 < (na : Int)) <;> cases e3 : (two == 0) <;> cases e4 : decide (8 < (nb : Int)) <;> simp_all
      clear h8
      have HREST : Hid (∀ (f1 f2 : Bool), True) := fun _ _ => trivial
      rcases hcases with ⟨e1 | ⟨e1, e2⟩, e3⟩
      · rcases e3 with e3 | ⟨e3, e4⟩
        all_goals
         as_aux_lemma =>
            go_wp2_with fail
            clear tone
            refine (HPR.out w2 HW2.out).mono ?_
            rintro e w3 ⟨vp, rfl, hb3, hr3⟩
            have HW3 := Lib.hid (HW2.out.trans (hb3.mono HW2.out.size))
            have HR3 := Lib.hid hr3
            dsimp only at HR3
            clear HW2 hb3 hr3 HPR
            obtain ⟨k0, k1⟩ := HK.out _ HW3.out
            go_wp2_with fail
            clear k0 k1
            refine (HPW.out w3 HW3.out).mono ?_
            rintro e w4 ⟨vm, rfl, hb4, hr4⟩
            have HW4 := Lib.hid (HW3.out.trans (hb4.mono HW3.out.size))
            have HR34 := Lib.hid (HR3.out.later hb4)
            have HR4 := Lib.hid hr4
            dsimp only at HR4
            clear HW3 HR3 hb4 hr4 HPW
            obtain ⟨k0, k1⟩ := HK.out _ HW4.out
            go_wp2_with fail
            clear k0 k1
            refine (HAP.out w4 HW4.out).mono ?_
            rintro e w5 ⟨vx, rfl, S5⟩
            have HM5 : Hid (MEnv W0 w5 vp vm vx p1 q1 x1) := ⟨HW4.out.trans (S5.bel.mono HW4.out.size), HR34.out.later S5.bel, HR4.out.later S5.bel, (S5.row_rd (i := 0) rfl).now⟩
            clear HW4 HR34 HR4 S5 HAP
            go_wp2_with (go_at_call 51; refine (lwhen_any _ _ _).mono ?_; rintro e w' ⟨rfl, rfl⟩)
            have hba := (Below.refl w5.heap.size w5).alloc (Nat.le_refl _) (.cells #[.int .i64 one, .int .i64 two, .int .i64 (whenE ((na : Int) != (nb : Int)) 2)] 3)
            have HM6 := Lib.hid (HM5.out.later hba)
            refine (lfirst3 w5 one two (whenE ((na : Int) != (nb : Int)) 2)).mono ?_
            rintro e w' ⟨rfl, rfl⟩
            generalize w5.alloc (.cells #[.int .i64 one, .int .i64 two, .int .i64 (whenE ((na : Int) != (nb : Int)) 2)] 3) = w6 at *
            clear HM5 hba
            obtain ⟨k0, k1⟩ := HK.out _ HM6.out.bel
            go_wp2_with (first | (go_at_call 52; refine (outB_any _ _ _ _).mono ?_; rintro e w' ⟨rfl, rfl⟩) | (go_at_call 51; refine (lwhen_any _ _ _).mono ?_; rintro e w' ⟨rfl, rfl⟩))
            clear k0 k1
            have hba := (Below.refl w6.heap.size w6).alloc (Nat.le_refl _) (.cells #[.int .i64 one, .int .i64 (whenE (outB z 0 64) 3)] 3)
            have HM7 := Lib.hid (HM6.out.later hba)
            refine (lfirst2 w6 one (whenE (outB z 0 64) 3)).mono ?_
            rintro e w' ⟨rfl, rfl⟩
            generalize w6.alloc (.cells #[.int .i64 one, .int .i64 (whenE (outB z 0 64) 3)] 3) = w7 at *
            clear HM6 hba
            have hone : one ≠ 0 := by simpa using e1
            obtain ⟨hf1, hf2⟩ := HFE.out one two (whenE ((na : Int) != (nb : Int)) 2) hone
            have hf3 := (HFE.out one (whenE (outB z 0 64) 3) 0 hone).2
            have h1 := HPE.out (by rw [hf1]; exact hone)
            have h2 := HWE.out (by rw [hf3]; exact hone)
            have h3 := HLB.out hone
            rw [hf1] at h1 ⊢
            rw [hf3] at h2 ⊢
            injection h1 with h11 h12
            injection h2 with h21 h22
            injection h3 with h31 h32
            subst h11 h21 h31
            have HG1 := Lib.hid h12
            have HG2 := Lib.hid h22
            have HG3 := Lib.hid h32
            have HT1 := Lib.hid (table_yes (l := ([] : List (List Int))) (e := p2) (bad := one) (want := []) (fun _ => ⟨rfl, HG1.out⟩) (fun h => absurd h hone))
            have HT2 := Lib.hid (table_yes (l := ([] : List (List Int))) (e := q2) (bad := one) (want := []) (fun _ => ⟨rfl, HG2.out⟩) (fun h => absurd h hone))
            have HT3 := Lib.hid (list_yes (l := ([] : List Int)) (e := x2) (bad := one) (want := []) (fun _ => ⟨rfl, HG3.out⟩) (fun h => absurd h hone))
            clear hf1 hf2 hf3 h12 h22 h32 hone HPE HWE HLB HFE HPZ HWZ HLE HLZ HE1 HE2 HE3 HCL HRP HRW HRL
            have HRR1 := Lib.hid (RdRows.nil w7)
            have HRR2 := Lib.hid (RdRows.nil w7)
            have HRR3 : Hid (Rd w7 (· < w7.heap.size) 1 (.slice none 0 0) ([] : List Int).length (([] : List Int).map (Value.int .i64))) := Rd.nil _ _ _
            have HC1 := Lib.hid (table_any w7 _ _ _ _ [] [] p2 one HM7.out.p HRR1.out)
            rw [HT1.out] at HC1
            go_wp2_with fail
            refine HC1.out.mono ?_
            rintro e w' ⟨rfl, ⟨d1, rfl⟩⟩
            have hd1 : Below w7.heap.size w7 (w7.drewN d1) := below_drewN (Below.refl _ _) d1
            have HN1 := Lib.hid (HM7.out.later hd1)
            have HC2 := Lib.hid (table_any (w7.drewN d1) _ _ _ _ [] [] q2 one HN1.out.m (HRR2.out.later hd1))
            rw [HT2.out] at HC2
            replace HRR3 := Lib.hid (HRR3.out.later hd1)
            clear HC1 HRR1 HRR2 hd1 HM7
            generalize w7.drewN d1 = wd at *
            go_wp2_with fail
            refine HC2.out.mono ?_
            rintro e w' ⟨rfl, ⟨d2, rfl⟩⟩
            have hd2 : Below wd.heap.size wd (wd.drewN d2) := below_drewN (Below.refl _ _) d2
            have HN2 := Lib.hid (HN1.out.later hd2)
            have HC3 := Lib.hid (list_any (wd.drewN d2) _ _ _ _ [] [] x2 one HN2.out.x (HRR3.out.later hd2))
            rw [HT3.out] at HC3
            clear HC2 HRR3 hd2 HN1
            generalize wd.drewN d2 = we at *
            go_wp2_with fail
            refine HC3.out.mono ?_
            rintro e w' ⟨rfl, ⟨d3, rfl⟩⟩
            have hbW := HBW.out _ (HN2.out.bel.trans (below_drewN (Below.refl _ _) d3 |>.mono HN2.out.bel.size))
            clear HN2 HC3
            generalize we.drewN d3 = wf at *
            go_wp2
            go_ret
            exact ⟨rfl, hbW⟩
      · rcases e3 with e3 | ⟨e3, e4⟩
        all_goals
         as_aux_lemma =>
            go_wp2_with fail
            clear tone
            refine (HPR.out w2 HW2.out).mono ?_
            rintro e w3 ⟨vp, rfl, hb3, hr3⟩
            have HW3 := Lib.hid (HW2.out.trans (hb3.mono HW2.out.size))
            have HR3 := Lib.hid hr3
            dsimp only at HR3
            clear HW2 hb3 hr3 HPR
            obtain ⟨k0, k1⟩ := HK.out _ HW3.out
            go_wp2_with fail
            clear k0 k1
            refine (HPW.out w3 HW3.out).mono ?_
            rintro e w4 ⟨vm, rfl, hb4, hr4⟩
            have HW4 := Lib.hid (HW3.out.trans (hb4.mono HW3.out.size))
            have HR34 := Lib.hid (HR3.out.later hb4)
            have HR4 := Lib.hid hr4
            dsimp only at HR4
            clear HW3 HR3 hb4 hr4 HPW
            obtain ⟨k0, k1⟩ := HK.out _ HW4.out
            go_wp2_with fail
            clear k0 k1
            refine (HAP.out w4 HW4.out).mono ?_
            rintro e w5 ⟨vx, rfl, S5⟩
            have HM5 : Hid (MEnv W0 w5 vp vm vx p1 q1 x1) := ⟨HW4.out.trans (S5.bel.mono HW4.out.size), HR34.out.later S5.bel, HR4.out.later S5.bel, (S5.row_rd (i := 0) rfl).now⟩
            clear HW4 HR34 HR4 S5 HAP
            go_wp2_with (go_at_call 51; refine (lwhen_any _ _ _).mono ?_; rintro e w' ⟨rfl, rfl⟩)
            have hba := (Below.refl w5.heap.size w5).alloc (Nat.le_refl _) (.cells #[.int .i64 one, .int .i64 two, .int .i64 (whenE ((na : Int) != (nb : Int)) 2)] 3)
            have HM6 := Lib.hid (HM5.out.later hba)
            refine (lfirst3 w5 one two (whenE ((na : Int) != (nb : Int)) 2)).mono ?_
            rintro e w' ⟨rfl, rfl⟩
            generalize w5.alloc (.cells #[.int .i64 one, .int .i64 two, .int .i64 (whenE ((na : Int) != (nb : Int)) 2)] 3) = w6 at *
            clear HM5 hba
            obtain ⟨k0, k1⟩ := HK.out _ HM6.out.bel
            go_wp2_with (first | (go_at_call 52; refine (outB_any _ _ _ _).mono ?_; rintro e w' ⟨rfl, rfl⟩) | (go_at_call 51; refine (lwhen_any _ _ _).mono ?_; rintro e w' ⟨rfl, rfl⟩))
            clear k0 k1
            have hba := (Below.refl w6.heap.size w6).alloc (Nat.le_refl _) (.cells #[.int .i64 one, .int .i64 (whenE (outB z 0 64) 3)] 3)
            have HM7 := Lib.hid (HM6.out.later hba)
            refine (lfirst2 w6 one (whenE (outB z 0 64) 3)).mono ?_
            rintro e w' ⟨rfl, rfl⟩
            generalize w6.alloc (.cells #[.int .i64 one, .int .i64 (whenE (outB z 0 64) 3)] 3) = w7 at *
            clear HM6 hba
            have hone : one = 0 := by simpa using e1
            subst hone
            obtain ⟨k0, k1⟩ := HK.out _ HM7.out.bel
            go_wp2_with fail
            clear k0 k1
            refine (HCL.out w7 HM7.out.bel).mono ?_
            rintro e w' ⟨rfl, rfl⟩
            generalize hPE : fst [0, two, whenE ((na : Int) != (nb : Int)) 2] = PE at *
            generalize hWE : fst [0, whenE (outB z 0 64) 3] = WE at *
            clear hPE hWE HFE HLB HCL e1
            by_cases hP : PE = 0
            · subst hP
              have hz := HPZ.out (by first | rfl | trivial)
              have HC := Lib.hid (fun w hb => HRP.out hz w hb)
              clear hz HPE HPZ HRP
              go_wp2_with fail
              refine (HC.out w7 HM7.out.bel).mono ?_
              rintro e w8 ⟨v8, rfl, hb8, hr8⟩
              have HM8 := Lib.hid (HM7.out.later hb8)
              have HRR1 := Lib.hid hr8
              dsimp only at HRR1
              have HT1 := Lib.hid (table_yes (l := p1) (e := p2) (bad := p2) (want := p1) (fun h => ⟨HE1.out h, rfl⟩) (fun h => ⟨h, rfl⟩))
              clear HC HM7 hb8 hr8 HE1
              by_cases hQ : WE = 0
              · subst hQ
                have hz := HWZ.out (by first | rfl | trivial)
                have HC := Lib.hid (fun w hb => HRW.out hz w hb)
                clear hz HWE HWZ HRW
                obtain ⟨k0, k1⟩ := HK.out _ HM8.out.bel
                go_wp2_with fail
                clear k0 k1
                refine (HC.out w8 HM8.out.bel).mono ?_
                rintro e w9 ⟨v9, rfl, hb9, hr9⟩
                have HM9 := Lib.hid (HM8.out.later hb9)
                have HRR2 := Lib.hid hr9
                dsimp only at HRR2
                replace HRR1 := Lib.hid (HRR1.out.later hb9)
                have HT2 := Lib.hid (table_yes (l := q1) (e := q2) (bad := q2) (want := q1) (fun h => ⟨HE2.out h, rfl⟩) (fun h => ⟨h, rfl⟩))
                clear HC HM8 hb9 hr9 HE2
                by_cases hL : le = 0
                · subst hL
                  have hz := HLZ.out (by first | rfl | trivial)
                  have HC := Lib.hid (fun w hb => HRL.out (by first | rfl | trivial) hz w hb)
                  clear hz HLE HLZ HRL
                  obtain ⟨k0, k1⟩ := HK.out _ HM9.out.bel
                  go_wp2_with fail
                  clear k0 k1
                  refine (HC.out w9 HM9.out.bel).mono ?_
                  rintro e w10 ⟨va, rfl, Sa⟩
                  have hba := Sa.bel
                  have HM10 := Lib.hid (HM9.out.later hba)
                  have HRR3 := Lib.hid (Sa.row_rd (i := 0) rfl).now
                  dsimp only at HRR3
                  replace HRR1 := Lib.hid (HRR1.out.later hba)
                  replace HRR2 := Lib.hid (HRR2.out.later hba)
                  have HT3 := Lib.hid (list_yes (l := x1) (e := x2) (bad := x2) (want := x1) (fun h => ⟨HE3.out h, rfl⟩) (fun h => ⟨h, rfl⟩))
                  clear HC HM9 hba Sa HE3
                  have HC1 := Lib.hid (table_any w10 _ _ _ _ p1 p1 p2 p2 HM10.out.p HRR1.out)
                  rw [HT1.out] at HC1
                  go_wp2_with fail
                  refine HC1.out.mono ?_
                  rintro e w' ⟨rfl, ⟨d1, rfl⟩⟩
                  have hd1 : Below w10.heap.size w10 (w10.drewN d1) := below_drewN (Below.refl _ _) d1
                  have HN1 := Lib.hid (HM10.out.later hd1)
                  have HC2 := Lib.hid (table_any (w10.drewN d1) _ _ _ _ q1 q1 q2 q2 HN1.out.m (HRR2.out.later hd1))
                  rw [HT2.out] at HC2
                  replace HRR3 := Lib.hid (HRR3.out.later hd1)
                  clear HC1 HRR1 HRR2 hd1 HM10
                  generalize w10.drewN d1 = wd at *
                  go_wp2_with fail
                  refine HC2.out.mono ?_
                  rintro e w' ⟨rfl, ⟨d2, rfl⟩⟩
                  have hd2 : Below wd.heap.size wd (wd.drewN d2) := below_drewN (Below.refl _ _) d2
                  have HN2 := Lib.hid (HN1.out.later hd2)
                  have HC3 := Lib.hid (list_any (wd.drewN d2) _ _ _ _ x1 x1 x2 x2 HN2.out.x (HRR3.out.later hd2))
                  rw [HT3.out] at HC3
                  clear HC2 HRR3 hd2 HN1
                  generalize wd.drewN d2 = we at *
                  go_wp2_with fail
                  refine HC3.out.mono ?_
                  rintro e w' ⟨rfl, ⟨d3, rfl⟩⟩
                  have hbW := HBW.out _ (HN2.out.bel.trans (below_drewN (Below.refl _ _) d3 |>.mono HN2.out.bel.size))
                  clear HN2 HC3
                  generalize we.drewN d3 = wf at *
                  go_wp2
                  go_ret
                  exact ⟨rfl, hbW⟩
                · have tL : (le == 0) = false := by simpa using hL
                  have h1 := HLE.out (by first | rfl | trivial) hL
                  injection h1 with h11 h12
                  subst h11
                  have HG3 := Lib.hid h12
                  have HT3 := Lib.hid (list_yes (l := ([] : List Int)) (e := x2) (bad := le) (want := []) (fun _ => ⟨rfl, HG3.out⟩) (fun h => absurd h hL))
                  have HRR3 : Hid (Rd w9 (· < w9.heap.size) 1 (.slice none 0 0) ([] : List Int).length (([] : List Int).map (Value.int .i64))) := Rd.nil _ _ _
                  clear hL h12 HLE HLZ HRL HE3
                  have HC1 := Lib.hid (table_any w9 _ _ _ _ p1 p1 p2 p2 HM9.out.p HRR1.out)
                  rw [HT1.out] at HC1
                  go_wp2_with fail
                  refine HC1.out.mono ?_
                  rintro e w' ⟨rfl, ⟨d1, rfl⟩⟩
                  have hd1 : Below w9.heap.size w9 (w9.drewN d1) := below_drewN (Below.refl _ _) d1
                  have HN1 := Lib.hid (HM9.out.later hd1)
                  have HC2 := Lib.hid (table_any (w9.drewN d1) _ _ _ _ q1 q1 q2 q2 HN1.out.m (HRR2.out.later hd1))
                  rw [HT2.out] at HC2
                  replace HRR3 := Lib.hid (HRR3.out.later hd1)
                  clear HC1 HRR1 HRR2 hd1 HM9
                  generalize w9.drewN d1 = wd at *
                  go_wp2_with fail
                  refine HC2.out.mono ?_
                  rintro e w' ⟨rfl, ⟨d2, rfl⟩⟩
                  have hd2 : Below wd.heap.size wd (wd.drewN d2) := below_drewN (Below.refl _ _) d2
                  have HN2 := Lib.hid (HN1.out.later hd2)
                  have HC3 := Lib.hid (list_any (wd.drewN d2) _ _ _ _ [] [] x2 le HN2.out.x (HRR3.out.later hd2))
                  rw [HT3.out] at HC3
                  clear HC2 HRR3 hd2 HN1
                  generalize wd.drewN d2 = we at *
                  go_wp2_with fail
                  refine HC3.out.mono ?_
                  rintro e w' ⟨rfl, ⟨d3, rfl⟩⟩
                  have hbW := HBW.out _ (HN2.out.bel.trans (below_drewN (Below.refl _ _) d3 |>.mono HN2.out.bel.size))
                  clear HN2 HC3
                  generalize we.drewN d3 = wf at *
                  go_wp2
                  go_ret
                  exact ⟨rfl, hbW⟩
              · have tQ : (WE == 0) = false := by simpa using hQ
                have h1 := HWE.out hQ
                injection h1 with h11 h12
                subst h11
                have HG2 := Lib.hid h12
                have HT2 := Lib.hid (table_yes (l := ([] : List (List Int))) (e := q2) (bad := WE) (want := []) (fun _ => ⟨rfl, HG2.out⟩) (fun h => absurd h hQ))
                have HRR2 := Lib.hid (RdRows.nil w8)
                clear hQ h12 HWE HWZ HRW HE2
                by_cases hL : le = 0
                · subst hL
                  have hz := HLZ.out (by first | rfl | trivial)
                  have HC := Lib.hid (fun w hb => HRL.out (by first | rfl | trivial) hz w hb)
                  clear hz HLE HLZ HRL
                  obtain ⟨k0, k1⟩ := HK.out _ HM8.out.bel
                  go_wp2_with fail
                  clear k0 k1
                  refine (HC.out w8 HM8.out.bel).mono ?_
                  rintro e w9 ⟨va, rfl, Sa⟩
                  have hba := Sa.bel
                  have HM9 := Lib.hid (HM8.out.later hba)
                  have HRR3 := Lib.hid (Sa.row_rd (i := 0) rfl).now
                  dsimp only at HRR3
                  replace HRR1 := Lib.hid (HRR1.out.later hba)
                  replace HRR2 := Lib.hid (HRR2.out.later hba)
                  have HT3 := Lib.hid (list_yes (l := x1) (e := x2) (bad := x2) (want := x1) (fun h => ⟨HE3.out h, rfl⟩) (fun h => ⟨h, rfl⟩))
                  clear HC HM8 hba Sa HE3
                  have HC1 := Lib.hid (table_any w9 _ _ _ _ p1 p1 p2 p2 HM9.out.p HRR1.out)
                  rw [HT1.out] at HC1
                  go_wp2_with fail
                  refine HC1.out.mono ?_
                  rintro e w' ⟨rfl, ⟨d1, rfl⟩⟩
                  have hd1 : Below w9.heap.size w9 (w9.drewN d1) := below_drewN (Below.refl _ _) d1
                  have HN1 := Lib.hid (HM9.out.later hd1)
                  have HC2 := Lib.hid (table_any (w9.drewN d1) _ _ _ _ [] [] q2 WE HN1.out.m (HRR2.out.later hd1))
                  rw [HT2.out] at HC2
                  replace HRR3 := Lib.hid (HRR3.out.later hd1)
                  clear HC1 HRR1 HRR2 hd1 HM9
                  generalize w9.drewN d1 = wd at *
                  go_wp2_with fail
                  refine HC2.out.mono ?_
                  rintro e w' ⟨rfl, ⟨d2, rfl⟩⟩
                  have hd2 : Below wd.heap.size wd (wd.drewN d2) := below_drewN (Below.refl _ _) d2
                  have HN2 := Lib.hid (HN1.out.later hd2)
                  have HC3 := Lib.hid (list_any (wd.drewN d2) _ _ _ _ x1 x1 x2 x2 HN2.out.x (HRR3.out.later hd2))
                  rw [HT3.out] at HC3
                  clear HC2 HRR3 hd2 HN1
                  generalize wd.drewN d2 = we at *
                  go_wp2_with fail
                  refine HC3.out.mono ?_
                  rintro e w' ⟨rfl, ⟨d3, rfl⟩⟩
                  have hbW := HBW.out _ (HN2.out.bel.trans (below_drewN (Below.refl _ _) d3 |>.mono HN2.out.bel.size))
                  clear HN2 HC3
                  generalize we.drewN d3 = wf at *
                  go_wp2
                  go_ret
                  exact ⟨rfl, hbW⟩
                · have tL : (le == 0) = false := by simpa using hL
                  have h1 := HLE.out (by first | rfl | trivial) hL
                  injection h1 with h11 h12
                  subst h11
                  have HG3 := Lib.hid h12
                  have HT3 := Lib.hid (list_yes (l := ([] : List Int)) (e := x2) (bad := le) (want := []) (fun _ => ⟨rfl, HG3.out⟩) (fun h => absurd h hL))
                  have HRR3 : Hid (Rd w8 (· < w8.heap.size) 1 (.slice none 0 0) ([] : List Int).length (([] : List Int).map (Value.int .i64))) := Rd.nil _ _ _
                  clear hL h12 HLE HLZ HRL HE3
                  have HC1 := Lib.hid (table_any w8 _ _ _ _ p1 p1 p2 p2 HM8.out.p HRR1.out)
                  rw [HT1.out] at HC1
                  go_wp2_with fail
                  refine HC1.out.mono ?_
                  rintro e w' ⟨rfl, ⟨d1, rfl⟩⟩
                  have hd1 : Below w8.heap.size w8 (w8.drewN d1) := below_drewN (Below.refl _ _) d1
                  have HN1 := Lib.hid (HM8.out.later hd1)
                  have HC2 := Lib.hid (table_any (w8.drewN d1) _ _ _ _ [] [] q2 WE HN1.out.m (HRR2.out.later hd1))
                  rw [HT2.out] at HC2
                  replace HRR3 := Lib.hid (HRR3.out.later hd1)
                  clear HC1 HRR1 HRR2 hd1 HM8
                  generalize w8.drewN d1 = wd at *
                  go_wp2_with fail
                  refine HC2.out.mono ?_
                  rintro e w' ⟨rfl, ⟨d2, rfl⟩⟩
                  have hd2 : Below wd.heap.size wd (wd.drewN d2) := below_drewN (Below.refl _ _) d2
                  have HN2 := Lib.hid (HN1.out.later hd2)
                  have HC3 := Lib.hid (list_any (wd.drewN d2) _ _ _ _ [] [] x2 le HN2.out.x (HRR3.out.later hd2))
                  rw [HT3.out] at HC3
                  clear HC2 HRR3 hd2 HN1
                  generalize wd.drewN d2 = we at *
                  go_wp2_with fail
                  refine HC3.out.mono ?_
                  rintro e w' ⟨rfl, ⟨d3, rfl⟩⟩
                  have hbW := HBW.out _ (HN2.out.bel.trans (below_drewN (Below.refl _ _) d3 |>.mono HN2.out.bel.size))
                  clear HN2 HC3
                  generalize we.drewN d3 = wf at *
                  go_wp2
                  go_ret
                  exact ⟨rfl, hbW⟩
            · have tP : (PE == 0) = false := by simpa using hP
              have h1 := HPE.out hP
              injection h1 with h11 h12
              subst h11
              have HG1 := Lib.hid h12
              have HT1 := Lib.hid (table_yes (l := ([] : List (List Int))) (e := p2) (bad := PE) (want := []) (fun _ => ⟨rfl, HG1.out⟩) (fun h => absurd h hP))
              have HRR1 := Lib.hid (RdRows.nil w7)
              clear hP h12 HPE HPZ HRP HE1
              by_cases hQ : WE = 0
              · subst hQ
                have hz := HWZ.out (by first | rfl | trivial)
                have HC := Lib.hid (fun w hb => HRW.out hz w hb)
                clear hz HWE HWZ HRW
                obtain ⟨k0, k1⟩ := HK.out _ HM7.out.bel
                go_wp2_with fail
                clear k0 k1
                refine (HC.out w7 HM7.out.bel).mono ?_
                rintro e w8 ⟨v9, rfl, hb9, hr9⟩
                have HM8 := Lib.hid (HM7.out.later hb9)
                have HRR2 := Lib.hid hr9
                dsimp only at HRR2
                replace HRR1 := Lib.hid (HRR1.out.later hb9)
                have HT2 := Lib.hid (table_yes (l := q1) (e := q2) (bad := q2) (want := q1) (fun h => ⟨HE2.out h, rfl⟩) (fun h => ⟨h, rfl⟩))
                clear HC HM7 hb9 hr9 HE2
                by_cases hL : le = 0
                · subst hL
                  have hz := HLZ.out (by first | rfl | trivial)
                  have HC := Lib.hid (fun w hb => HRL.out (by first | rfl | trivial) hz w hb)
                  clear hz HLE HLZ HRL
                  obtain ⟨k0, k1⟩ := HK.out _ HM8.out.bel
                  go_wp2_with fail
                  clear k0 k1
                  refine (HC.out w8 HM8.out.bel).mono ?_
                  rintro e w9 ⟨va, rfl, Sa⟩
                  have hba := Sa.bel
                  have HM9 := Lib.hid (HM8.out.later hba)
                  have HRR3 := Lib.hid (Sa.row_rd (i := 0) rfl).now
                  dsimp only at HRR3
                  replace HRR1 := Lib.hid (HRR1.out.later hba)
                  replace HRR2 := Lib.hid (HRR2.out.later hba)
                  have HT3 := Lib.hid (list_yes (l := x1) (e := x2) (bad := x2) (want := x1) (fun h => ⟨HE3.out h, rfl⟩) (fun h => ⟨h, rfl⟩))
                  clear HC HM8 hba Sa HE3
                  have HC1 := Lib.hid (table_any w9 _ _ _ _ [] [] p2 PE HM9.out.p HRR1.out)
                  rw [HT1.out] at HC1
                  go_wp2_with fail
                  refine HC1.out.mono ?_
                  rintro e w' ⟨rfl, ⟨d1, rfl⟩⟩
                  have hd1 : Below w9.heap.size w9 (w9.drewN d1) := below_drewN (Below.refl _ _) d1
                  have HN1 := Lib.hid (HM9.out.later hd1)
                  have HC2 := Lib.hid (table_any (w9.drewN d1) _ _ _ _ q1 q1 q2 q2 HN1.out.m (HRR2.out.later hd1))
                  rw [HT2.out] at HC2
                  replace HRR3 := Lib.hid (HRR3.out.later hd1)
                  clear HC1 HRR1 HRR2 hd1 HM9
                  generalize w9.drewN d1 = wd at *
                  go_wp2_with fail
                  refine HC2.out.mono ?_
                  rintro e w' ⟨rfl, ⟨d2, rfl⟩⟩
                  have hd2 : Below wd.heap.size wd (wd.drewN d2) := below_drewN (Below.refl _ _) d2
                  have HN2 := Lib.hid (HN1.out.later hd2)
                  have HC3 := Lib.hid (list_any (wd.drewN d2) _ _ _ _ x1 x1 x2 x2 HN2.out.x (HRR3.out.later hd2))
                  rw [HT3.out] at HC3
                  clear HC2 HRR3 hd2 HN1
                  generalize wd.drewN d2 = we at *
                  go_wp2_with fail
                  refine HC3.out.mono ?_
                  rintro e w' ⟨rfl, ⟨d3, rfl⟩⟩
                  have hbW := HBW.out _ (HN2.out.bel.trans (below_drewN (Below.refl _ _) d3 |>.mono HN2.out.bel.size))
                  clear HN2 HC3
                  generalize we.drewN d3 = wf at *
                  go_wp2
                  go_ret
                  exact ⟨rfl, hbW⟩
                · have tL : (le == 0) = false := by simpa using hL
                  have h1 := HLE.out (by first | rfl | trivial) hL
                  injection h1 with h11 h12
                  subst h11
                  have HG3 := Lib.hid h12
                  have HT3 := Lib.hid (list_yes (l := ([] : List Int)) (e := x2) (bad := le) (want := []) (fun _ => ⟨rfl, HG3.out⟩) (fun h => absurd h hL))
                  have HRR3 : Hid (Rd w8 (· < w8.heap.size) 1 (.slice none 0 0) ([] : List Int).length (([] : List Int).map (Value.int .i64))) := Rd.nil _ _ _
                  clear hL h12 HLE HLZ HRL HE3
                  have HC1 := Lib.hid (table_any w8 _ _ _ _ [] [] p2 PE HM8.out.p HRR1.out)
                  rw [HT1.out] at HC1
                  go_wp2_with fail
                  refine HC1.out.mono ?_
                  rintro e w' ⟨rfl, ⟨d1, rfl⟩⟩
                  have hd1 : Below w8.heap.size w8 (w8.drewN d1) := below_drewN (Below.refl _ _) d1
                  have HN1 := Lib.hid (HM8.out.later hd1)
                  have HC2 := Lib.hid (table_any (w8.drewN d1) _ _ _ _ q1 q1 q2 q2 HN1.out.m (HRR2.out.later hd1))
                  rw [HT2.out] at HC2
                  replace HRR3 := Lib.hid (HRR3.out.later hd1)
                  clear HC1 HRR1 HRR2 hd1 HM8
                  generalize w8.drewN d1 = wd at *
                  go_wp2_with fail
                  refine HC2.out.mono ?_
                  rintro e w' ⟨rfl, ⟨d2, rfl⟩⟩
                  have hd2 : Below wd.heap.size wd (wd.drewN d2) := below_drewN (Below.refl _ _) d2
                  have HN2 := Lib.hid (HN1.out.later hd2)
                  have HC3 := Lib.hid (list_any (wd.drewN d2) _ _ _ _ [] [] x2 le HN2.out.x (HRR3.out.later hd2))
                  rw [HT3.out] at HC3
                  clear HC2 HRR3 hd2 HN1
                  generalize wd.drewN d2 = we at *
                  go_wp2_with fail
                  refine HC3.out.mono ?_
                  rintro e w' ⟨rfl, ⟨d3, rfl⟩⟩
                  have hbW := HBW.out _ (HN2.out.bel.trans (below_drewN (Below.refl _ _) d3 |>.mono HN2.out.bel.size))
                  clear HN2 HC3
                  generalize we.drewN d3 = wf at *
                  go_wp2
                  go_ret
                  exact ⟨rfl, hbW⟩
              · have tQ : (WE == 0) = false := by simpa using hQ
                have h1 := HWE.out hQ
                injection h1 with h11 h12
                subst h11
                have HG2 := Lib.hid h12
                have HT2 := Lib.hid (table_yes (l := ([] : List (List Int))) (e := q2) (bad := WE) (want := []) (fun _ => ⟨rfl, HG2.out⟩) (fun h => absurd h hQ))
                have HRR2 := Lib.hid (RdRows.nil w7)
                clear hQ h12 HWE HWZ HRW HE2
                by_cases hL : le = 0
                · subst hL
                  have hz := HLZ.out (by first | rfl | trivial)
                  have HC := Lib.hid (fun w hb => HRL.out (by first | rfl | trivial) hz w hb)
                  clear hz HLE HLZ HRL
                  obtain ⟨k0, k1⟩ := HK.out _ HM7.out.bel
                  go_wp2_with fail
                  clear k0 k1
                  refine (HC.out w7 HM7.out.bel).mono ?_
                  rintro e w8 ⟨va, rfl, Sa⟩
                  have hba := Sa.bel
                  have HM8 := Lib.hid (HM7.out.later hba)
                  have HRR3 := Lib.hid (Sa.row_rd (i := 0) rfl).now
                  dsimp only at HRR3
                  replace HRR1 := Lib.hid (HRR1.out.later hba)
                  replace HRR2 := Lib.hid (HRR2.out.later hba)
                  have HT3 := Lib.hid (list_yes (l := x1) (e := x2) (bad := x2) (want := x1) (fun h => ⟨HE3.out h, rfl⟩) (fun h => ⟨h, rfl⟩))
                  clear HC HM7 hba Sa HE3
                  have HC1 := Lib.hid (table_any w8 _ _ _ _ [] [] p2 PE HM8.out.p HRR1.out)
                  rw [HT1.out] at HC1
                  go_wp2_with fail
                  refine HC1.out.mono ?_
                  rintro e w' ⟨rfl, ⟨d1, rfl⟩⟩
                  have hd1 : Below w8.heap.size w8 (w8.drewN d1) := below_drewN (Below.refl _ _) d1
                  have HN1 := Lib.hid (HM8.out.later hd1)
                  have HC2 := Lib.hid (table_any (w8.drewN d1) _ _ _ _ [] [] q2 WE HN1.out.m (HRR2.out.later hd1))
                  rw [HT2.out] at HC2
                  replace HRR3 := Lib.hid (HRR3.out.later hd1)
                  clear HC1 HRR1 HRR2 hd1 HM8
                  generalize w8.drewN d1 = wd at *
                  go_wp2_with fail
                  refine HC2.out.mono ?_
                  rintro e w' ⟨rfl, ⟨d2, rfl⟩⟩
                  have hd2 : Below wd.heap.size wd (wd.drewN d2) := below_drewN (Below.refl _ _) d2
                  have HN2 := Lib.hid (HN1.out.later hd2)
                  have HC3 := Lib.hid (list_any (wd.drewN d2) _ _ _ _ x1 x1 x2 x2 HN2.out.x (HRR3.out.later hd2))
                  rw [HT3.out] at HC3
                  clear HC2 HRR3 hd2 HN1
                  generalize wd.drewN d2 = we at *
                  go_wp2_with fail
                  refine HC3.out.mono ?_
                  rintro e w' ⟨rfl, ⟨d3, rfl⟩⟩
                  have hbW := HBW.out _ (HN2.out.bel.trans (below_drewN (Below.refl _ _) d3 |>.mono HN2.out.bel.size))
                  clear HN2 HC3
                  generalize we.drewN d3 = wf at *
                  go_wp2
                  go_ret
                  exact ⟨rfl, hbW⟩
                · have tL : (le == 0) = false := by simpa using hL
                  have h1 := HLE.out (by first | rfl | trivial) hL
                  injection h1 with h11 h12
                  subst h11
                  have HG3 := Lib.hid h12
                  have HT3 := Lib.hid (list_yes (l := ([] : List Int)) (e := x2) (bad := le) (want := []) (fun _ => ⟨rfl, HG3.out⟩) (fun h => absurd h hL))
                  have HRR3 : Hid (Rd w7 (· < w7.heap.size) 1 (.slice none 0 0) ([] : List Int).length (([] : List Int).map (Value.int .i64))) := Rd.nil _ _ _
                  clear hL h12 HLE HLZ HRL HE3
                  have HC1 := Lib.hid (table_any w7 _ _ _ _ [] [] p2 PE HM7.out.p HRR1.out)
                  rw [HT1.out] at HC1
                  go_wp2_with fail
                  refine HC1.out.mono ?_
                  rintro e w' ⟨rfl, ⟨d1, rfl⟩⟩
                  have hd1 : Below w7.heap.size w7 (w7.drewN d1) := below_drewN (Below.refl _ _) d1
                  have HN1 := Lib.hid (HM7.out.later hd1)
                  have HC2 := Lib.hid (table_any (w7.drewN d1) _ _ _ _ [] [] q2 WE HN1.out.m (HRR2.out.later hd1))
                  rw [HT2.out] at HC2
                  replace HRR3 := Lib.hid (HRR3.out.later hd1)
                  clear HC1 HRR1 HRR2 hd1 HM7
                  generalize w7.drewN d1 = wd at *
                  go_wp2_with fail
                  refine HC2.out.mono ?_
                  rintro e w' ⟨rfl, ⟨d2, rfl⟩⟩
                  have hd2 : Below wd.heap.size wd (wd.drewN d2) := below_drewN (Below.refl _ _) d2
                  have HN2 := Lib.hid (HN1.out.later hd2)
                  have HC3 := Lib.hid (list_any (wd.drewN d2) _ _ _ _ [] [] x2 le HN2.out.x (HRR3.out.later hd2))
                  rw [HT3.out] at HC3
                  clear HC2 HRR3 hd2 HN1
                  generalize wd.drewN d2 = we at *
                  go_wp2_with fail
                  refine HC3.out.mono ?_
                  rintro e w' ⟨rfl, ⟨d3, rfl⟩⟩
                  have hbW := HBW.out _ (HN2.out.bel.trans (below_drewN (Below.refl _ _) d3 |>.mono HN2.out.bel.size))
                  clear HN2 HC3
                  generalize we.drewN d3 = wf at *
                  go_wp2
                  go_ret
                  exact ⟨rfl, hbW⟩
end Go.Proofs.YtjfhncnpmelopaaGreatDoor
