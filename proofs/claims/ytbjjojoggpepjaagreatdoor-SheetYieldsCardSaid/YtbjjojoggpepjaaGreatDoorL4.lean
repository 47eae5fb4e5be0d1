/- The law SheetYields, walked. -/
import Derived.Test.YtbjjojoggpepjaaGreatDoorL2
set_option linter.unusedVariables false
set_option linter.unusedSimpArgs false
set_option linter.unusedSectionVars false
set_option linter.constructorNameAsVariable false
namespace Go.Sheet
theorem wdOut_at {rs : List RQ} {a : List Int} {i k : Nat} {s : Int} (hl : rs.length = a.length) (hk : k < a.length) (hki : k ≠ i) :
    (wdOut rs a i s)[k]? = if wdK i s 0 rs a = some k then some s else a[k]? := by
  rw [wdOut]
  cases hq : wdK i s 0 rs a with
  | none =>
    show (a.set i (-1))[k]? = _
    rw [if_neg (by simp), List.getElem?_set_ne (by omega)]
  | some q =>
    show ((a.set i (-1)).set q s)[k]? = _
    by_cases e : q = k
    · subst e
      rw [if_pos rfl, List.getElem?_set_self (by rw [List.length_set]; exact hk)]
    · rw [if_neg (by simpa using e), List.getElem?_set_ne e, List.getElem?_set_ne (by omega)]
theorem wdOut_self {rs : List RQ} {a : List Int} {i : Nat} {s : Int} (hl : rs.length = a.length) (hi : i < a.length) : (wdOut rs a i s)[i]? = some (-1) := by
  rw [wdOut]
  cases hq : wdK i s 0 rs a with
  | none =>
    show (a.set i (-1))[i]? = _
    rw [List.getElem?_set_self hi]
  | some q =>
    have hqi := (wdK_some rs a 0 q hl hq).2.1
    obtain ⟨_, _, _, _, h, _⟩ := hqi
    show ((a.set i (-1)).set q s)[i]? = _
    rw [List.getElem?_set_ne h, List.getElem?_set_self hi]
/-- what the law has in given behind k requests -/
def gvn (q : Option Nat) (k : Nat) : Int := match q with | some q => if q < k then (q : Int) else -1 | none => -1
theorem gvn_keep {q : Option Nat} {k : Nat} (h : q ≠ some k) : gvn q (k + 1) = gvn q k := by
  cases q with
  | none => rfl
  | some q =>
    have hk : q ≠ k := fun e => h (by rw [e])
    show (if q < k + 1 then (q : Int) else -1) = if q < k then (q : Int) else -1
    by_cases e : q < k
    · rw [if_pos e, if_pos (by omega)]
    · rw [if_neg e, if_neg (by omega)]
theorem gvn_at {k : Nat} : gvn (some k) k = -1 := by
  show (if k < k then (k : Int) else -1) = -1
  rw [if_neg (by omega)]
theorem gvn_next {k : Nat} : gvn (some k) (k + 1) = k := by
  show (if k < k + 1 then (k : Int) else -1) = k
  rw [if_pos (by omega)]
theorem gvn_end {q n : Nat} (h : q < n) : gvn (some q) n = q := by
  show (if q < n then (q : Int) else -1) = q
  rw [if_pos h]
end Go.Sheet
namespace Go.Proofs.YtbjjojoggpepjaaGreatDoor
open Go.RowKit Go.Mem Go.Sheet
theorem Own.cells {W w : World} {vx : Value} {A : Option Addr} {nl n c k : Nat} {l : List Slot} {RS : List RQ} (h : Own W w vx (.slice A n c) nl n l RS) (hk : k < n) :
    ∃ b o name g wa wn wc ws, A = some ⟨b, o, none⟩ ∧ RS[k]? = some (Req.rq ⟨name, g, wa, wn, wc, ws⟩) ∧ w.cell? ⟨b, o + k * 3, none⟩ = some (.string name) ∧ w.cell? ⟨b, o + k * 3 + 1, none⟩ = some (.bool g) ∧ w.cell? ⟨b, o + k * 3 + 2, none⟩ = some (.slice wa wn wc) ∧
      Rd w (· < w.heap.size) 2 (.slice wa wn wc) wn (ws.flatMap Wish.cells) := by
  obtain ⟨rs', h1, h2⟩ := h.y
  obtain ⟨b, o, x, hA, hx, c0, c1, c2⟩ := h2.1.elem3 (k := k) (fun s : Req => .string s.name) (fun s : Req => .bool s.g) (fun s : Req => .slice s.wa s.wn s.wc) (fun _ => rfl) hk
  exact ⟨b, o, x.name, x.g, x.wa, x.wn, x.wc, x.ws, hA, by rw [← h1, List.getElem?_map, hx]; rfl, c0, c1, c2, (h2.2 x (List.mem_of_getElem? hx)).1⟩
/-- how Few ends -/
def FewE (E : Int) (e : Ending) : Prop := ∃ b, e = .returned (.bool b) ∧ (b = true → E = 0)
set_option maxRecDepth 100000 in
set_option maxHeartbeats 2000000 in
theorem Own.few {W w : World} {vx : Value} {A : Option Addr} {nl n c : Nat} {l : List Slot} {RS : List RQ} (h : Own W w vx (.slice A n c) nl n l RS) :
    Calls Tryz.prog 26 #[vx, .slice A n c, .int .i64 24] w fun e w' => FewE (checkRequests l RS) e ∧ Below w.heap.size w w' := by
  have HS := Lib.hid h.short
  have HC := Lib.hid h.check
  have hn : n ≤ 9223372036854775807 := by obtain ⟨_, _, h2⟩ := h.y; exact h2.1.le
  generalize checkRequests l RS = E at *
  clear h
  go_enter Tryz.func26, Tryz.ntmps26
  by_cases h24 : n ≤ 24
  · have h24' : decide ((n : Int) ≤ 24) = true := by simp; omega
    go_wp2_with fail
    refine HS.out.mono ?_
    rintro e w' ⟨⟨b, rfl⟩, rfl⟩
    cases b with
    | false =>
      go_wp2
      go_ret
      exact ⟨⟨false, rfl, fun h => by cases h⟩, Below.refl _ _⟩
    | true =>
      go_wp2_with fail
      refine HC.out.mono ?_
      rintro e w' ⟨rfl, hb⟩
      by_cases hE : (E == 0) = true
      · go_wp2
        go_ret
        exact ⟨⟨_, rfl, fun _ => by simpa using hE⟩, hb⟩
      · have hE' : (E == 0) = false := by simpa using hE
        go_wp2
        go_ret
        exact ⟨⟨false, rfl, fun h => by cases h⟩, hb⟩
  · have h24' : decide ((n : Int) ≤ 24) = false := by simp; omega
    go_wp2
    go_ret
    exact ⟨⟨false, rfl, fun h => by cases h⟩, Below.refl _ _⟩
set_option maxRecDepth 100000 in
set_option maxHeartbeats 0 in
theorem sheetYields_any (W : World) (vl vr va : Value) (nl n na : Nat) (l : List Slot) (rs : List Req) (a : List Int) (hl : Rd W (· < W.heap.size) 3 vl nl (l.flatMap Slot.cells)) (h : RdReqs W (· < W.heap.size) vr n rs) (ha : Rd W (· < W.heap.size) 1 va na (a.map (Value.int .i64)))
    (hrl : nl * 24 ≤ 140737488351232) (hrr : n * 48 ≤ 140737488351232) (hrw : ∀ r ∈ rs, r.wn * 16 ≤ 140737488351232) :
    Calls Tryz.prog 6 #[vl, vr, va] W fun e w' => e = .returned (.bool true) ∧ Below W.heap.size W w' := by
  have hna := ha.le
  have HNA := Lib.hid ha.count1
  have HN := Lib.hid (h.1.count (f := Req.cells) (size := 3) (fun _ => rfl) (by decide))
  obtain ⟨A, c, rfl, _, _, _⟩ := ha.open_
  have HL := Lib.hid hl
  have HR := Lib.hid h
  have HA := Lib.hid ha
  have HRW := Lib.hid hrw
  have HRN : Hid (n = (rs.map Req.rq).length) := by
    show _ = _
    rw [List.length_map]; exact HN.out
  have HWT := Lib.hid (fun (w : World) (i : Int) (hb : Below W.heap.size W w) => withdraw_any w vl vr (.slice A na c) nl n na i l rs a (hl.later hb) (reqs_later h hb) (ha.later hb))
  generalize HRS : rs.map Req.rq = RS at *
  have HRS' := Lib.hid HRS
  clear HRS hl h ha hrw
  go_enter Tryz.func6, Tryz.ntmps6
  go_wp2_with fail
  refine (ownSlots_any _ _ nl l HL.out hrl).mono ?_
  rintro e w1 ⟨v1, rfl, S1⟩
  have HS1 := Lib.hid S1
  clear S1
  go_wp2_with fail
  refine (ownRequests_any w1 _ n rs (reqs_later HR.out HS1.out.bel) hrr HRW.out).mono ?_
  rintro e w2 ⟨v2, rs', rfl, he, hnm, S2⟩
  obtain ⟨Ay, cy, rfl, _, _, _⟩ := (S2.row_rd (i := 0) rfl).open_
  have HO : Hid (Own W w2 v1 (.slice Ay n cy) nl n l RS) := ⟨HS1.out.bel.trans (S2.bel.mono HS1.out.bel.size), (HS1.out.row_rd (i := 0) rfl).now.later S2.bel, rs', he.trans HRS'.out, own_reqs S2 hnm⟩
  clear HS1 he hnm S2
  go_wp2_with fail
  refine (awake_any w2).mono ?_
  rintro e w3 ⟨rfl, hb3⟩
  have HO3 := Lib.hid (HO.out.later hb3)
  clear HO hb3
  have HFW := Lib.hid HO3.out.few
  go_wp2_with fail
  refine HFW.out.mono ?_
  rintro e w4 ⟨⟨b, rfl, hfew⟩, hb4⟩
  have HO4 := Lib.hid (HO3.out.later hb4)
  clear HO3 hb4 HFW
  cases b with
  | false =>
    clear hfew
    go_wp2_with fail
    refine (awake_any w4).mono ?_
    rintro e w5 ⟨rfl, hb5⟩
    have hbW := HO4.out.bel.trans (hb5.mono HO4.out.bel.size)
    go_wp2
    go_ret
    exact ⟨rfl, hbW⟩
  | true =>
    have h0 := hfew rfl
    have HAS := Lib.hid (HO4.out.assignment (HA.out.later HO4.out.bel) h0)
    have HOK : Hid ((checkAssignment l RS a).2 = 0 → Okay l RS ∧ na = n ∧ eachF (caAt RS) 0 a = 0) := fun h0 => by
      obtain ⟨h1, h2, h3, _⟩ := checkAssignment_ok h0
      exact ⟨okay_of h1, by rw [HNA.out, HRN.out]; exact h2, h3⟩
    have HWD : Hid ((checkAssignment l RS a).2 = 0 → ∀ i : Nat, i < n → withdraw l RS a i = if a.getD i 0 < 0 then ([], 19) else (wdOut RS a i (a.getD i 0), 0)) := fun h0 i hi => by
      have := HRN.out
      rw [withdraw, if_neg (by simpa using h0), if_neg (by omega), Int.toNat_natCast]
    generalize checkAssignment l RS a = R at *
    obtain ⟨x, B⟩ := R
    dsimp only at HAS HWD HOK
    clear hfew h0
    go_wp2_with fail
    refine HAS.out.mono ?_
    rintro e w5 ⟨rfl, hb5⟩
    have HO5 := Lib.hid (HO4.out.later hb5)
    clear HO4 hb5 HAS
    by_cases hB : B = 0
    · subst hB
      obtain ⟨hok, hnn, hca⟩ := HOK.out (by trivial)
      subst hnn
      have HOKK := Lib.hid hok
      have HCA := Lib.hid hca
      have HWD2 := Lib.hid (HWD.out (by trivial))
      have HLN : Hid (RS.length = a.length) := by
        show _ = _
        rw [← HRN.out]; exact HNA.out
      clear hok hca HWD HOK
      go_wp2
      go_loopw [11] (fun j w' => ∃ i : Nat, i ≤ na ∧ j = .int .i64 i ∧ Hid (Own W w' v1 (.slice Ay na cy) nl na l RS)) (fun j _ => na - (intOf j).toNat)
      case atStart => exact ⟨0, Nat.zero_le _, rfl, HO5.out⟩
      case round =>
        obtain ⟨i, hi, rfl, HO⟩ := hrel
        clear HO5
        by_cases hlt : i < na
        · have HW1 := Lib.hid (HWT.out wr i HO.out.bel)
          have HWV := Lib.hid (HWD2.out i hlt)
          obtain ⟨b, o, s, rfl, hs, hc⟩ := (HA.out.later HO.out.bel).int hlt
          have hgd : a.getD i 0 = s := by rw [List.getD_eq_getElem?_getD, hs]; rfl
          rw [hgd] at HWV
          have HS := Lib.hid hs
          have hblk := World.block_lt_of_cell? _ _ hc
          clear hs hgd
          generalize withdraw l RS a i = R at *
          obtain ⟨wl, we⟩ := R
          go_wp2_with fail
          refine HW1.out.mono ?_
          rintro e w6 ⟨v6, rfl, S6⟩
          dsimp only at S6
          have HO6 := Lib.hid (HO.out.later S6.bel)
          have HV6 := Lib.hid (S6.row_rd (i := 0) rfl).now
          have hc6 := (S6.bel.cell (p := ⟨b, o + i, none⟩) hblk).trans hc
          clear HO S6 HW1 hc hblk
          by_cases hs0 : s < 0
          · have hs0' : decide (s < 0) = true := by simpa using hs0
            have h1 := HWV.out
            rw [if_pos hs0] at h1
            injection h1 with e1 e2
            subst e1 e2
            clear HWV HV6
            go_wp2
            go_roundw
            case rel => exact ⟨i + 1, by omega, by go_num, HO6.out⟩
            case measure => simp [intOf]; omega
          · have hs0' : decide (s < 0) = false := by simpa using hs0
            have h1 := HWV.out
            rw [if_neg hs0] at h1
            injection h1 with e1 e2
            subst e1 e2
            clear HWV
            rw [wdOut_len, ← HNA.out] at HV6
            obtain ⟨A6, c6, rfl, _, _, _⟩ := HV6.out.open_
            obtain ⟨b6, o6, u, rfl, hu, hcu⟩ := HV6.out.int hlt
            have hin : i < a.length := by have := HNA.out; omega
            cases Option.some.inj (hu.symm.trans (wdOut_self HLN.out hin))
            have HB : Hid (∀ k, k < na → k ≠ i → (wdOut RS a i s)[k]? = if wdK i s 0 RS a = some k then some s else a[k]?) := fun k hk hki => wdOut_at HLN.out (by have := HNA.out; omega) hki
            have HQ1 : Hid (∀ k, wdK i s 0 RS a = some k → k ≠ i ∧ k < na ∧ a[k]? = some (-1) ∧ ∃ X, RS[k]? = some X ∧ hasWish X s = true) := fun k hk => by
              obtain ⟨_, ⟨X, t, hX, ht, h1, h2, h3⟩, _⟩ := wdK_some RS a 0 k HLN.out hk
              rw [Nat.sub_zero] at hX ht
              have h4 := (ca_neg HOKK.out HCA.out hX ht).1 h2
              subst h4
              exact ⟨h1, by have := (List.getElem?_eq_some_iff.1 ht).1; have := HNA.out; omega, ht, X, hX, h3⟩
            have HQ2 : Hid (∀ k X t, RS[k]? = some X → a[k]? = some t → k ≠ i → t < 0 → hasWish X s = true → ∃ q', wdK i s 0 RS a = some q' ∧ q' ≤ k) := fun k X t hX ht h1 h2 h3 => by
              cases hq : wdK i s 0 RS a with
              | none => exact absurd ⟨by omega, h2, h3⟩ (wdK_none RS a 0 HLN.out hq k X t hX ht)
              | some q' =>
                refine ⟨q', rfl, ?_⟩
                by_cases h : q' ≤ k
                · exact h
                · exact absurd ⟨by omega, h2, h3⟩ ((wdK_some RS a 0 q' HLN.out hq).2.2 k X t (by omega) hX ht)
            generalize wdK i s 0 RS a = q at *
            generalize wdOut RS a i s = bl at *
            clear hu hin
            go_wp2
            go_loopw [15, 14] (fun j gv w' => ∃ k : Nat, k ≤ na ∧ j = .int .i64 k ∧ gv = .int .i64 (gvn q k) ∧ Hid (Own W w' v1 (.slice Ay na cy) nl na l RS) ∧ Hid (Rd w' (· < w'.heap.size) 1 (.slice (some ⟨b6, o6, none⟩) na c6) na (bl.map (Value.int .i64)))) (fun j _ _ => na - (intOf j).toNat)
            case atStart => exact ⟨0, Nat.zero_le _, rfl, by cases q <;> rfl, HO6.out, HV6.out⟩
            case round =>
              obtain ⟨k, hk, rfl, rfl, HO, HV⟩ := hrel
              clear HO6 HV6 hcu hc6
              by_cases hlk : k < na
              · obtain ⟨b', o', t, hA', ht, ck⟩ := (HA.out.later HO.out.bel).int hlk
                cases hA'
                obtain ⟨b', o', s', hA', hs', ci⟩ := (HA.out.later HO.out.bel).int hlt
                cases hA'
                cases Option.some.inj (hs'.symm.trans HS.out)
                obtain ⟨b', o', u, hA', hu, bk⟩ := HV.out.int hlk
                cases hA'
                by_cases hki : k = i
                · have hki' : ((k : Int) == (i : Int)) = true := by simp; omega
                  have hq : q ≠ some k := fun e => (HQ1.out k e).1 hki
                  have HG := Lib.hid (gvn_keep hq)
                  clear ht hs' hu hki hq
                  go_wp2_with fail
                  go_quiet (fail)
                  have hbd := below_drewN (Below.refl wr.heap.size wr) nq
                  have HO2 := Lib.hid (HO.out.later hbd)
                  have HV2 := Lib.hid (HV.out.later hbd)
                  clear HO HV hbd ck ci bk
                  generalize wr.drewN nq = wz at *
                  go_wp2
                  go_roundw
                  case rel => exact ⟨k + 1, by omega, by go_num, by rw [HG.out], HO2.out, HV2.out⟩
                  case measure => simp [intOf]; omega
                · have hki' : ((k : Int) == (i : Int)) = false := by simp; omega
                  have hbk := HB.out k hlk hki
                  by_cases hq : q = some k
                  · subst hq
                    rw [if_pos rfl, hu] at hbk
                    cases hbk
                    obtain ⟨_, _, ht1, X, hX, hw⟩ := HQ1.out k rfl
                    cases Option.some.inj (ht.symm.trans ht1)
                    have hts : ((-1 : Int) == s) = false := by simp; omega
                    obtain ⟨by', oy, name, gg, wa, wn, wc, ws, rfl, hX2, c0, c1, c2, hws⟩ := HO.out.cells hlk
                    cases Option.some.inj (hX2.symm.trans hX)
                    have hR := refW_cases HOKK.out (List.mem_of_getElem? hX2) s
                    have HCW00 := Lib.hid (fun (w' : World) (hb : Below wr.heap.size wr w') => refWeight_any w' ⟨name, gg, wa, wn, wc, ws⟩ s (hws.later hb))
                    generalize refW (Req.rq ⟨name, gg, wa, wn, wc, ws⟩) s = R at *
                    have hR0 : 1 ≤ R := by
                      rcases hR with ⟨_, h1, _⟩ | ⟨h1, _⟩
                      · exact h1
                      · rw [hw] at h1; cases h1
                    have hR1 : decide (R < 0) = false := by simp; omega
                    have HGA := Lib.hid (gvn_at (k := k))
                    have HGN := Lib.hid (gvn_next (k := k))
                    have hg := HGA.out
                    generalize gvn (some k) k = gv at *
                    subst hg
                    clear hR hX hX2 hw hws ht hs' hu ht1 hki
                    go_wp2_with fail
                    go_quiet (fail)
                    have hbd := below_drewN (Below.refl wr.heap.size wr) nq
                    have HO2 := Lib.hid (HO.out.later hbd)
                    have HV2 := Lib.hid (HV.out.later hbd)
                    have HCW0 : Hid (∀ w', Below (wr.drewN nq).heap.size (wr.drewN nq) w' → Calls Tryz.prog 27 #[.agg #[.string name, .bool gg, .slice wa wn wc], .int .i64 s] w' fun e w'' => e = .returned (.int .i64 R) ∧ Below w'.heap.size w' w'') := fun w' h => HCW00.out w' (hbd.trans (h.mono hbd.size))
                    change (wr.drewN nq).cell? _ = _ at c0
                    change (wr.drewN nq).cell? _ = _ at c1
                    change (wr.drewN nq).cell? _ = _ at c2
                    change (wr.drewN nq).cell? _ = _ at ck
                    change (wr.drewN nq).cell? _ = _ at ci
                    change (wr.drewN nq).cell? _ = _ at bk
                    clear HO HV hbd HCW00
                    have HO := HO2
                    clear HO2
                    generalize wr.drewN nq = wz at *
                    obtain ⟨t, ht⟩ : ∃ t : Int, t = -1 := ⟨_, rfl⟩
                    rw [← ht] at ck
                    have ht1 : (t != -1) = false := by rw [ht]; rfl
                    go_wp2_with fail
                    have hl0 := World.block_lt_of_cell? _ _ c0
                    have hlk := World.block_lt_of_cell? _ _ ck
                    have hli := World.block_lt_of_cell? _ _ ci
                    have hlb := World.block_lt_of_cell? _ _ bk
                    refine wp_cls 31 (fun w' => Below wz.heap.size wz w') (by kernel_rfl) (by kernel_rfl) (Below.refl _ _).drew ?_
                    simp only [List.take_succ_cons, List.take_zero, List.drop_succ_cons, List.drop_zero]
                    generalize hK : (fun w' => Below wz.heap.size wz w') = K
                    intro hne
                    have kb : ∀ z : Wd K, Below wz.heap.size wz z.w := by subst hK; exact fun z => z.h
                    have hK3 : ∀ w w' : World, K w → Below w.heap.size w w' → K w' := by subst hK; exact fun w w' h h' => h.trans (h'.mono h.size)
                    have y0 : ∀ z : Wd K, z.w.cell? ⟨by', oy + k * 3, none⟩ = some (.string name) := fun z => ((kb z).cell (p := ⟨by', oy + k * 3, none⟩) hl0).trans c0
                    have y1 : ∀ z : Wd K, z.w.cell? ⟨by', oy + k * 3 + 1, none⟩ = some (.bool gg) := fun z => ((kb z).cell (p := ⟨by', oy + k * 3 + 1, none⟩) hl0).trans c1
                    have y2 : ∀ z : Wd K, z.w.cell? ⟨by', oy + k * 3 + 2, none⟩ = some (.slice wa wn wc) := fun z => ((kb z).cell (p := ⟨by', oy + k * 3 + 2, none⟩) hl0).trans c2
                    have y3 : ∀ z : Wd K, z.w.cell? ⟨b, o + k, none⟩ = some (.int .i64 t) := fun z => ((kb z).cell (p := ⟨b, o + k, none⟩) hlk).trans ck
                    have y4 : ∀ z : Wd K, z.w.cell? ⟨b, o + i, none⟩ = some (.int .i64 s) := fun z => ((kb z).cell (p := ⟨b, o + i, none⟩) hli).trans ci
                    have y5 : ∀ z : Wd K, z.w.cell? ⟨b6, o6 + k, none⟩ = some (.int .i64 s) := fun z => ((kb z).cell (p := ⟨b6, o6 + k, none⟩) hlb).trans bk
                    have HCW : Hid (∀ z : Wd K, Calls Tryz.prog 27 #[.agg #[.string name, .bool gg, .slice wa wn wc], .int .i64 s] z.w fun e w' => e = .returned (.int .i64 R) ∧ ∃ u : Wd K, w' = u.w) := fun z => cls_below hK3 (HCW0.out _ (kb z))
                    clear hK hK3 HCW0 c0 c1 c2 ck ci bk
                    repeat (go_big_quiet_step ((go_at_call 27; exact HCW.out _)))
                    refine wpQuiet_nil ?_
                    intro z
                    have hbz := kb z
                    clear kb y0 y1 y2 y3 y4 hne HCW y5
                    have HOz := Lib.hid (HO.out.later hbz)
                    have HVz := Lib.hid (HV2.out.later hbz)
                    clear HO HV2 hbz
                    generalize z.w = w9 at *
                    go_wp2
                    go_roundw
                    case rel => exact ⟨k + 1, by omega, by go_num, by rw [HGN.out], HOz.out, HVz.out⟩
                    case measure => simp [intOf]; omega
                  · rw [if_neg hq, hu] at hbk
                    have hut : u = t := Option.some.inj (hbk.trans ht)
                    subst hut
                    have HG := Lib.hid (gvn_keep hq)
                    clear ht hs' hu hki hq hbk
                    go_wp2_with fail
                    go_quiet (fail)
                    have hbd := below_drewN (Below.refl wr.heap.size wr) nq
                    have HO2 := Lib.hid (HO.out.later hbd)
                    have HV2 := Lib.hid (HV.out.later hbd)
                    clear HO HV hbd ck ci bk
                    generalize wr.drewN nq = wz at *
                    go_wp2
                    go_roundw
                    case rel => exact ⟨k + 1, by omega, by go_num, by rw [HG.out], HO2.out, HV2.out⟩
                    case measure => simp [intOf]; omega
              · obtain rfl : k = na := by omega
                clear HB HV
                have HO7 := HO
                clear HO
                go_wp2
                go_loopw [16] (fun j w' => ∃ m : Nat, m ≤ k ∧ j = .int .i64 m ∧ Hid (Own W w' v1 (.slice Ay k cy) nl k l RS)) (fun j _ => k - (intOf j).toNat)
                case atStart => exact ⟨0, Nat.zero_le _, rfl, HO7.out⟩
                case round =>
                  obtain ⟨m, hm, rfl, HO⟩ := hrel
                  clear HO7
                  by_cases hlm : m < k
                  · obtain ⟨b', o', t, hA', ht, ck⟩ := (HA.out.later HO.out.bel).int hlm
                    cases hA'
                    obtain ⟨b', o', s', hA', hs', ci⟩ := (HA.out.later HO.out.bel).int hlt
                    cases hA'
                    cases Option.some.inj (hs'.symm.trans HS.out)
                    obtain ⟨by', oy, name, gg, wa, wn, wc, ws, rfl, hX, c0, c1, c2, hws⟩ := HO.out.cells hlm
                    have hR := refW_cases HOKK.out (List.mem_of_getElem? hX) s
                    have HCW0 := Lib.hid (fun (w' : World) (hb : Below wr.heap.size wr w') => refWeight_any w' ⟨name, gg, wa, wn, wc, ws⟩ s (hws.later hb))
                    generalize refW (Req.rq ⟨name, gg, wa, wn, wc, ws⟩) s = R at *
                    by_cases hmi : m = i
                    · have hmi' : ((m : Int) != (i : Int)) = false := by simp; omega
                      clear hR hX hws ht hs' hmi
                      go_wp2_with fail
                      have hl0 := World.block_lt_of_cell? _ _ c0
                      have hlk := World.block_lt_of_cell? _ _ ck
                      have hli := World.block_lt_of_cell? _ _ ci
                      refine wp_cls 30 (fun w' => Below wr.heap.size wr w') (by kernel_rfl) (by kernel_rfl) (Below.refl _ _).drew ?_
                      simp only [List.take_succ_cons, List.take_zero, List.drop_succ_cons, List.drop_zero]
                      generalize hK : (fun w' => Below wr.heap.size wr w') = K
                      intro hne
                      have kb : ∀ z : Wd K, Below wr.heap.size wr z.w := by subst hK; exact fun z => z.h
                      have hK3 : ∀ w w' : World, K w → Below w.heap.size w w' → K w' := by subst hK; exact fun w w' h h' => h.trans (h'.mono h.size)
                      have y0 : ∀ z : Wd K, z.w.cell? ⟨by', oy + m * 3, none⟩ = some (.string name) := fun z => ((kb z).cell (p := ⟨by', oy + m * 3, none⟩) hl0).trans c0
                      have y1 : ∀ z : Wd K, z.w.cell? ⟨by', oy + m * 3 + 1, none⟩ = some (.bool gg) := fun z => ((kb z).cell (p := ⟨by', oy + m * 3 + 1, none⟩) hl0).trans c1
                      have y2 : ∀ z : Wd K, z.w.cell? ⟨by', oy + m * 3 + 2, none⟩ = some (.slice wa wn wc) := fun z => ((kb z).cell (p := ⟨by', oy + m * 3 + 2, none⟩) hl0).trans c2
                      have y3 : ∀ z : Wd K, z.w.cell? ⟨b, o + m, none⟩ = some (.int .i64 t) := fun z => ((kb z).cell (p := ⟨b, o + m, none⟩) hlk).trans ck
                      have y4 : ∀ z : Wd K, z.w.cell? ⟨b, o + i, none⟩ = some (.int .i64 s) := fun z => ((kb z).cell (p := ⟨b, o + i, none⟩) hli).trans ci
                      have HCW : Hid (∀ z : Wd K, Calls Tryz.prog 27 #[.agg #[.string name, .bool gg, .slice wa wn wc], .int .i64 s] z.w fun e w' => e = .returned (.int .i64 R) ∧ ∃ u : Wd K, w' = u.w) := fun z => cls_below hK3 (HCW0.out _ (kb z))
                      clear hK hK3 HCW0 c0 c1 c2 ck ci
                      repeat (go_big_quiet_step ((go_at_call 27; exact HCW.out _)))
                      refine wpQuiet_nil ?_
                      intro z
                      have hbz := kb z
                      clear kb y0 y1 y2 y3 y4 hne HCW
                      have HOz := Lib.hid (HO.out.later hbz)
                      clear HO hbz
                      generalize z.w = w9 at *
                      go_wp2
                      go_roundw
                      case rel => exact ⟨m + 1, by omega, by go_num, HOz.out⟩
                      case measure => simp [intOf]; omega
                    · have hmi' : ((m : Int) != (i : Int)) = true := by simp; omega
                      by_cases ht0 : t < 0
                      · have ht0' : decide (t < 0) = true := by simpa using ht0
                        rcases hR with ⟨hw, hR1, _⟩ | ⟨hw, hR1⟩
                        · have hR2 : decide (0 < R) = true := by simp; omega
                          obtain ⟨q', hq', hle⟩ := HQ2.out m _ t hX ht hmi ht0 hw
                          subst hq'
                          have hqk := (HQ1.out q' rfl).2.1
                          have hg := gvn_end hqk
                          have hg2 : decide ((q' : Int) < 0) = false := by simp
                          have hg3 : decide ((m : Int) < (q' : Int)) = false := by rw [decide_eq_false_iff_not]; omega
                          have hg4 : decide (m < q') = false := by simpa using hle
                          clear hX hws ht hs' hw hmi
                          go_wp2_with fail
                          have hl0 := World.block_lt_of_cell? _ _ c0
                          have hlk := World.block_lt_of_cell? _ _ ck
                          have hli := World.block_lt_of_cell? _ _ ci
                          refine wp_cls 30 (fun w' => Below wr.heap.size wr w') (by kernel_rfl) (by kernel_rfl) (Below.refl _ _).drew ?_
                          simp only [List.take_succ_cons, List.take_zero, List.drop_succ_cons, List.drop_zero]
                          generalize hK : (fun w' => Below wr.heap.size wr w') = K
                          intro hne
                          have kb : ∀ z : Wd K, Below wr.heap.size wr z.w := by subst hK; exact fun z => z.h
                          have hK3 : ∀ w w' : World, K w → Below w.heap.size w w' → K w' := by subst hK; exact fun w w' h h' => h.trans (h'.mono h.size)
                          have y0 : ∀ z : Wd K, z.w.cell? ⟨by', oy + m * 3, none⟩ = some (.string name) := fun z => ((kb z).cell (p := ⟨by', oy + m * 3, none⟩) hl0).trans c0
                          have y1 : ∀ z : Wd K, z.w.cell? ⟨by', oy + m * 3 + 1, none⟩ = some (.bool gg) := fun z => ((kb z).cell (p := ⟨by', oy + m * 3 + 1, none⟩) hl0).trans c1
                          have y2 : ∀ z : Wd K, z.w.cell? ⟨by', oy + m * 3 + 2, none⟩ = some (.slice wa wn wc) := fun z => ((kb z).cell (p := ⟨by', oy + m * 3 + 2, none⟩) hl0).trans c2
                          have y3 : ∀ z : Wd K, z.w.cell? ⟨b, o + m, none⟩ = some (.int .i64 t) := fun z => ((kb z).cell (p := ⟨b, o + m, none⟩) hlk).trans ck
                          have y4 : ∀ z : Wd K, z.w.cell? ⟨b, o + i, none⟩ = some (.int .i64 s) := fun z => ((kb z).cell (p := ⟨b, o + i, none⟩) hli).trans ci
                          have HCW : Hid (∀ z : Wd K, Calls Tryz.prog 27 #[.agg #[.string name, .bool gg, .slice wa wn wc], .int .i64 s] z.w fun e w' => e = .returned (.int .i64 R) ∧ ∃ u : Wd K, w' = u.w) := fun z => cls_below hK3 (HCW0.out _ (kb z))
                          clear hK hK3 HCW0 c0 c1 c2 ck ci
                          repeat (go_big_quiet_step ((go_at_call 27; exact HCW.out _)))
                          refine wpQuiet_nil ?_
                          intro z
                          have hbz := kb z
                          clear kb y0 y1 y2 y3 y4 hne HCW
                          have HOz := Lib.hid (HO.out.later hbz)
                          clear HO hbz
                          generalize z.w = w9 at *
                          go_wp2
                          go_roundw
                          case rel => exact ⟨m + 1, by omega, by go_num, HOz.out⟩
                          case measure => simp [intOf]; omega
                        · have hR2 : decide (0 < R) = false := by simp; omega
                          clear hX hws ht hs' hw hmi
                          go_wp2_with fail
                          have hl0 := World.block_lt_of_cell? _ _ c0
                          have hlk := World.block_lt_of_cell? _ _ ck
                          have hli := World.block_lt_of_cell? _ _ ci
                          refine wp_cls 30 (fun w' => Below wr.heap.size wr w') (by kernel_rfl) (by kernel_rfl) (Below.refl _ _).drew ?_
                          simp only [List.take_succ_cons, List.take_zero, List.drop_succ_cons, List.drop_zero]
                          generalize hK : (fun w' => Below wr.heap.size wr w') = K
                          intro hne
                          have kb : ∀ z : Wd K, Below wr.heap.size wr z.w := by subst hK; exact fun z => z.h
                          have hK3 : ∀ w w' : World, K w → Below w.heap.size w w' → K w' := by subst hK; exact fun w w' h h' => h.trans (h'.mono h.size)
                          have y0 : ∀ z : Wd K, z.w.cell? ⟨by', oy + m * 3, none⟩ = some (.string name) := fun z => ((kb z).cell (p := ⟨by', oy + m * 3, none⟩) hl0).trans c0
                          have y1 : ∀ z : Wd K, z.w.cell? ⟨by', oy + m * 3 + 1, none⟩ = some (.bool gg) := fun z => ((kb z).cell (p := ⟨by', oy + m * 3 + 1, none⟩) hl0).trans c1
                          have y2 : ∀ z : Wd K, z.w.cell? ⟨by', oy + m * 3 + 2, none⟩ = some (.slice wa wn wc) := fun z => ((kb z).cell (p := ⟨by', oy + m * 3 + 2, none⟩) hl0).trans c2
                          have y3 : ∀ z : Wd K, z.w.cell? ⟨b, o + m, none⟩ = some (.int .i64 t) := fun z => ((kb z).cell (p := ⟨b, o + m, none⟩) hlk).trans ck
                          have y4 : ∀ z : Wd K, z.w.cell? ⟨b, o + i, none⟩ = some (.int .i64 s) := fun z => ((kb z).cell (p := ⟨b, o + i, none⟩) hli).trans ci
                          have HCW : Hid (∀ z : Wd K, Calls Tryz.prog 27 #[.agg #[.string name, .bool gg, .slice wa wn wc], .int .i64 s] z.w fun e w' => e = .returned (.int .i64 R) ∧ ∃ u : Wd K, w' = u.w) := fun z => cls_below hK3 (HCW0.out _ (kb z))
                          clear hK hK3 HCW0 c0 c1 c2 ck ci
                          repeat (go_big_quiet_step ((go_at_call 27; exact HCW.out _)))
                          refine wpQuiet_nil ?_
                          intro z
                          have hbz := kb z
                          clear kb y0 y1 y2 y3 y4 hne HCW
                          have HOz := Lib.hid (HO.out.later hbz)
                          clear HO hbz
                          generalize z.w = w9 at *
                          go_wp2
                          go_roundw
                          case rel => exact ⟨m + 1, by omega, by go_num, HOz.out⟩
                          case measure => simp [intOf]; omega
                      · have ht0' : decide (t < 0) = false := by simpa using ht0
                        clear hR hX hws ht hs' hmi
                        go_wp2_with fail
                        have hl0 := World.block_lt_of_cell? _ _ c0
                        have hlk := World.block_lt_of_cell? _ _ ck
                        have hli := World.block_lt_of_cell? _ _ ci
                        refine wp_cls 30 (fun w' => Below wr.heap.size wr w') (by kernel_rfl) (by kernel_rfl) (Below.refl _ _).drew ?_
                        simp only [List.take_succ_cons, List.take_zero, List.drop_succ_cons, List.drop_zero]
                        generalize hK : (fun w' => Below wr.heap.size wr w') = K
                        intro hne
                        have kb : ∀ z : Wd K, Below wr.heap.size wr z.w := by subst hK; exact fun z => z.h
                        have hK3 : ∀ w w' : World, K w → Below w.heap.size w w' → K w' := by subst hK; exact fun w w' h h' => h.trans (h'.mono h.size)
                        have y0 : ∀ z : Wd K, z.w.cell? ⟨by', oy + m * 3, none⟩ = some (.string name) := fun z => ((kb z).cell (p := ⟨by', oy + m * 3, none⟩) hl0).trans c0
                        have y1 : ∀ z : Wd K, z.w.cell? ⟨by', oy + m * 3 + 1, none⟩ = some (.bool gg) := fun z => ((kb z).cell (p := ⟨by', oy + m * 3 + 1, none⟩) hl0).trans c1
                        have y2 : ∀ z : Wd K, z.w.cell? ⟨by', oy + m * 3 + 2, none⟩ = some (.slice wa wn wc) := fun z => ((kb z).cell (p := ⟨by', oy + m * 3 + 2, none⟩) hl0).trans c2
                        have y3 : ∀ z : Wd K, z.w.cell? ⟨b, o + m, none⟩ = some (.int .i64 t) := fun z => ((kb z).cell (p := ⟨b, o + m, none⟩) hlk).trans ck
                        have y4 : ∀ z : Wd K, z.w.cell? ⟨b, o + i, none⟩ = some (.int .i64 s) := fun z => ((kb z).cell (p := ⟨b, o + i, none⟩) hli).trans ci
                        have HCW : Hid (∀ z : Wd K, Calls Tryz.prog 27 #[.agg #[.string name, .bool gg, .slice wa wn wc], .int .i64 s] z.w fun e w' => e = .returned (.int .i64 R) ∧ ∃ u : Wd K, w' = u.w) := fun z => cls_below hK3 (HCW0.out _ (kb z))
                        clear hK hK3 HCW0 c0 c1 c2 ck ci
                        repeat (go_big_quiet_step ((go_at_call 27; exact HCW.out _)))
                        refine wpQuiet_nil ?_
                        intro z
                        have hbz := kb z
                        clear kb y0 y1 y2 y3 y4 hne HCW
                        have HOz := Lib.hid (HO.out.later hbz)
                        clear HO hbz
                        generalize z.w = w9 at *
                        go_wp2
                        go_roundw
                        case rel => exact ⟨m + 1, by omega, by go_num, HOz.out⟩
                        case measure => simp [intOf]; omega
                  · obtain rfl : m = k := by omega
                    have HO8 := HO
                    clear HO
                    go_wp2
                    go_roundw
                    case rel => exact ⟨i + 1, by omega, by go_num, HO8.out⟩
                    case measure => simp [intOf]; omega
        · obtain rfl : i = na := by omega
          have hbW := HO.out.bel
          clear HO
          go_wp2
          go_ret
          exact ⟨rfl, hbW⟩
    · have hB' : (B != 0) = true := by simpa using hB
      have hbW := HO5.out.bel
      go_wp2
      go_ret
      exact ⟨rfl, hbW⟩
end Go.Proofs.YtbjjojoggpepjaaGreatDoor
