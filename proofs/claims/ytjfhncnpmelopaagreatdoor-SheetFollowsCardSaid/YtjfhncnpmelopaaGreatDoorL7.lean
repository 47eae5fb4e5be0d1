/- The law SheetFollows, walked. (printed by wip/gen_follows.py) -/
import Derived.Test.YtjfhncnpmelopaaGreatDoorL71
import Derived.Test.YtjfhncnpmelopaaGreatDoorB14
import Derived.Test.YtjfhncnpmelopaaGreatDoorB23
set_option linter.unusedVariables false
set_option linter.unusedSimpArgs false
set_option linter.unusedSectionVars false
set_option linter.constructorNameAsVariable false
namespace Go.Sheet
theorem delayL_len (p : PC) : ∀ (es : List (List Int)) (g : Nat), (delayL p g es).length = es.length
  | [], _ => rfl
  | e :: es, g => by rw [delayL, List.length_cons, delayL_len p es, List.length_cons]
/-- what the law asks of the tables, as facts -/
structure Fol (rd : List Int) (mi : List (List Int)) (ho : List Int) (rn hn : Nat) (TB TE : List (List Int)) : Prop where
  come0 : ∀ g, g < rn → 0 < hn → rd.getD g 0 ≤ at2 TB g 0
  come : ∀ g k, g < rn → k + 1 < hn → at2 TE g k ≤ at2 TB g (k + 1)
  play : ∀ g k, g < rn → k < hn → at2 TB g k + at2 mi g k ≤ at2 TE g k
  ahead : ∀ g k, g + 1 < rn → k < hn → at2 TB g k ≤ at2 TB (g + 1) k ∧ at2 TE g k ≤ at2 TE (g + 1) k
  holds : ∀ g k, g < rn → k < hn → ho.getD k 0 ≤ (g : Int) → at2 TE (g - (ho.getD k 0).toNat) k ≤ at2 TB g k
theorem fol_of {p : PC} (ok : POk p) : Fol p.rd p.mi p.ho p.rd.length p.ho.length (played p).b (played p).e := by
  have h := played_eq ok
  refine ⟨fun g hg hk => ?_, fun g k hg hk => ?_, fun g k hg hk => h.play hg hk, fun g k hg hk => ?_, fun g k hg hk h0 => h.holds hg hk h0⟩
  · have := h.come hg hk; rwa [if_pos rfl] at this
  · have := h.come hg hk; rwa [if_neg (by omega), Nat.add_sub_cancel] at this
  · have := h.ahead hg hk (by omega); rwa [Nat.add_sub_cancel] at this
theorem later_all {p : PC} (h : POk p) {rn hn g : Nat} {x m : Int} (hrn : p.rd.length = rn) (hhn : p.ho.length = hn) (hg : g < rn) (hx : p.rd.getD g 0 = x) (h0 : 0 ≤ m) (h1 : x + m ≤ 10000) :
    ∃ (q : PC) (LB LE : List (List Int)), q = laterP p g (x + m) ∧ begins q = (LB, 0) ∧ ends q = (LE, 0) ∧ LB.length = rn ∧ LE.length = rn ∧ TOk hn LB 999999999 ∧ TOk hn LE 999999999 ∧ FolL rn hn g m (played p).b (played p).e LB LE := by
  subst hrn hhn hx
  have hx0 : 0 ≤ p.rd.getD g 0 := by
    rw [List.getD_eq_getElem?_getD, List.getElem?_eq_getElem hg, Option.getD_some]
    exact (h.rdb _ (List.getElem_mem hg)).1
  have ok := later_ok h g (x := p.rd.getD g 0 + m) (by omega) h1
  have hT := played_ok ok
  have hl : (laterP p g (p.rd.getD g 0 + m)).rd.length = p.rd.length := by simp [laterP]
  rw [hl] at hT
  have h24 := h.rd24
  have hc := check_of ok
  exact ⟨_, _, _, rfl, by rw [begins, retE, if_neg (by simpa using hc)], by rw [ends, retE, if_neg (by simpa using hc)], hT.lb, hT.le, hT.b.mono (by omega), hT.e.mono (by omega), later_fol h hg h0 h1⟩
end Go.Sheet
namespace Go.Proofs.YtjfhncnpmelopaaGreatDoor
open Go.RowKit Go.Mem Go.Sheet
/-- an entry of a table -/
theorem tab_at {w : World} {S : Nat → Prop} {A : Option Addr} {n c hn g k : Nat} {T : List (List Int)} (h : RdRows w S (.slice A n c) T) (hT : T.length = n) (hl : ∀ r ∈ T, r.length = hn) (hg : g < n) (hk : k < hn) :
    ∃ b o b' o' c', A = some ⟨b, o, none⟩ ∧ w.cell? ⟨b, o + g, none⟩ = some (.slice (some ⟨b', o', none⟩) hn c') ∧ hn ≤ c' ∧ w.cell? ⟨b', o' + k, none⟩ = some (.int .i64 (at2 T g k)) := by
  have hgT : g < T.length := by omega
  obtain ⟨b, o, b', o', c', m, h1, h2, h3, h4, h5⟩ := rows_at h (List.getElem?_eq_getElem hgT) (hl _ (List.getElem_mem hgT)) hk
  refine ⟨b, o, b', o', c', h1, h2, h3, ?_⟩
  rw [h5, at2, show T.getD g [] = T[g] by rw [List.getD_eq_getElem?_getD, List.getElem?_eq_getElem hgT, Option.getD_some], List.getD_eq_getElem?_getD, h4, Option.getD_some]

set_option maxRecDepth 100000 in
set_option maxHeartbeats 8000000 in
theorem sheetFollows_any (W : World) (vr vm vh : Value) (p : PC) (x1 x2 : Nat) (h : RdPace W (· < W.heap.size) vr vm vh p) (hx1 : x1 ≤ 255) (hx2 : x2 ≤ 255) :
    Calls Tryz.prog 6 #[.agg #[vr, vm, vh], .int .u8 (x1 : Int), .int .u8 (x2 : Int)] W fun e w' => e = .returned (.bool true) ∧ Below W.heap.size W w' := by
  have HP := Lib.hid h
  obtain ⟨vs, hm1, hm2⟩ := h.mi
  obtain ⟨Ar, cr, rfl, _, _, _⟩ := h.rd.open_
  obtain ⟨Am, cm, rfl, _, _, _⟩ := hm1.open_
  obtain ⟨Ah, ch, rfl, _, _, _⟩ := h.ho.open_
  generalize HRN : p.rd.length = rn at *
  generalize HMN : p.mi.length = mn at *
  generalize HHN : p.ho.length = hn at *
  have HRN := Lib.hid HRN
  have HMN := Lib.hid HMN
  have HHN := Lib.hid HHN
  clear h hm1 hm2
  go_enter Tryz.func6, Tryz.ntmps6
  go_wp2_with fail
  have hb0 := ((Below.refl W.heap.size W).alloc (Nat.le_refl _) (.cells #[.slice Ar rn cr, .slice Am mn cm, .slice Ah hn ch] 55)).alloc (by simp) (.cells #[.slice Ar rn cr, .slice Am mn cm, .slice Ah hn ch] 56)
  have HE0 : Hid (PEnv W ((W.alloc (.cells #[.slice Ar rn cr, .slice Am mn cm, .slice Ah hn ch] 55)).alloc (.cells #[.slice Ar rn cr, .slice Am mn cm, .slice Ah hn ch] 56)) W.heap.size (W.heap.size + 1) (.slice Ar rn cr) (.slice Am mn cm) (.slice Ah hn ch) p) :=
    ⟨hb0, ⟨by simp, by simp, by simp⟩, ⟨by simp, by simp, by simp⟩, HP.out.later hb0⟩
  generalize (W.alloc (.cells #[.slice Ar rn cr, .slice Am mn cm, .slice Ah hn ch] 55)).alloc (.cells #[.slice Ar rn cr, .slice Am mn cm, .slice Ah hn ch] 56) = w0 at *
  generalize W.heap.size + 1 = g2 at *
  have HG1 : Hid (W.heap.size = W.heap.size) := rfl
  generalize hg1 : W.heap.size = g1 at HE0 ⊢
  have HWG := Lib.hid hg1
  clear hb0 HP HG1 hg1
  refine (awake_any w0).mono ?_
  rintro e w1 ⟨rfl, hb1⟩
  have HE1 := Lib.hid (HE0.out.later hb1)
  clear HE0 hb1
  obtain ⟨b0, b1, b2⟩ := HE1.out.b1
  obtain ⟨p0, p1, p2⟩ := HE1.out.b2
  have HAW : Hid (∀ w2, Below w1.heap.size w1 w2 → Calls Tryz.prog 14 #[] w2 fun e w' => e = .returned (.bool true) ∧ Below W.heap.size W w') := fun w2 h2 =>
    (awake_any w2).mono fun e w' ⟨a, b⟩ => ⟨a, (HE1.out.bel.trans (h2.mono HE1.out.bel.size)).trans (b.mono (HE1.out.bel.trans (h2.mono HE1.out.bel.size)).size)⟩
  by_cases h8 : 8 < rn
  · have t8 : decide (8 < (rn : Int)) = true := by simp; omega
    clear h8
    go_wp2_with fail
    refine (HAW.out w1 (Below.refl _ _)).mono ?_
    rintro e w3 ⟨rfl, hbW⟩
    go_wp2
    go_ret
    exact ⟨rfl, hbW⟩
  have t8 : decide (8 < (rn : Int)) = false := by simp; omega
  by_cases h9 : 9 < hn
  · have t9 : decide (9 < (hn : Int)) = true := by simp; omega
    clear h9 h8
    go_wp2_with fail
    refine (HAW.out w1 (Below.refl _ _)).mono ?_
    rintro e w3 ⟨rfl, hbW⟩
    go_wp2
    go_ret
    exact ⟨rfl, hbW⟩
  have t9 : decide (9 < (hn : Int)) = false := by simp; omega
  go_wp2_with fail
  refine (refShortPace_any w1 _ _ _ p HE1.out.rd).mono ?_
  rintro e w2 ⟨⟨b, rfl⟩, hb2⟩
  have HE2 := Lib.hid (HE1.out.later hb2)
  have HAW2 : Hid (∀ w3, Below w2.heap.size w2 w3 → Calls Tryz.prog 14 #[] w3 fun e w' => e = .returned (.bool true) ∧ Below W.heap.size W w') := fun w3 h3 => HAW.out w3 (hb2.trans (h3.mono hb2.size))
  clear HE1 hb2 HAW b0 b1 b2 p0 p1 p2
  cases b with
  | false =>
    go_wp2_with fail
    refine (HAW2.out w2 (Below.refl _ _)).mono ?_
    rintro e w3 ⟨rfl, hbW⟩
    go_wp2
    go_ret
    exact ⟨rfl, hbW⟩
  | true =>
    obtain ⟨p0, p1, p2⟩ := HE2.out.b2
    go_wp2_with fail
    clear p0 p1 p2
    refine (refCheckPace_any w2 _ _ _ p HE2.out.rd).mono ?_
    rintro e w3 ⟨rfl, hb3⟩
    have HE3 := Lib.hid (HE2.out.later hb3)
    have HREF : Hid (checkPace p = 0 → POk p ∧ begins p = ((played p).b, 0) ∧ ends p = ((played p).e, 0) ∧ delays p = (delayL p 0 (played p).e, 0)) := fun h => ⟨pok_of h, by rw [begins, retE, if_neg (by simpa using h)], by rw [ends, retE, if_neg (by simpa using h)], by rw [delays, retE, if_neg (by simpa using h)]⟩
    generalize checkPace p = E at *
    by_cases hE : E = 0
    case neg =>
      have hE' : (E != 0) = true := by simpa using hE
      clear HREF
      go_wp2_with fail
      refine (HAW2.out w3 hb3).mono ?_
      rintro e w4 ⟨rfl, hbW⟩
      go_wp2
      go_ret
      exact ⟨rfl, hbW⟩
    case pos =>
      subst hE
      obtain ⟨ok, e1, e2, e3⟩ := HREF.out rfl
      have HOK := Lib.hid ok
      have HC4 := Lib.hid (begins_any w3 _ _ _ p HE3.out.rd)
      have HEN : Hid (∀ w, RdPace w (· < w.heap.size) (.slice Ar rn cr) (.slice Am mn cm) (.slice Ah hn ch) p → Calls Tryz.prog 29 #[.agg #[.slice Ar rn cr, .slice Am mn cm, .slice Ah hn ch]] w (RetRows w (ends p))) := fun w h => ends_any w _ _ _ p h
      have HDL : Hid (∀ w, RdPace w (· < w.heap.size) (.slice Ar rn cr) (.slice Am mn cm) (.slice Ah hn ch) p → Calls Tryz.prog 30 #[.agg #[.slice Ar rn cr, .slice Am mn cm, .slice Ah hn ch]] w (RetInts w (delays p))) := fun w h => delays_any w _ _ _ p h
      rw [e1] at HC4
      rw [e2] at HEN
      rw [e3] at HDL
      have hF := fol_of ok
      have hT := played_ok ok
      have hDn := delayL_nonneg ok (played p).e 0 rfl
      have hDl := delayL_len p (played p).e 0
      rw [HRN.out, HHN.out] at hF hT
      rw [hT.le] at hDl
      have hrd0 := ok.rd0
      have hho0 := ok.ho0
      rw [HRN.out] at hrd0
      rw [HHN.out] at hho0
      have HPL : Hid (∀ (T : Tab), played p = T → True) := fun _ _ => trivial
      have HTB := Lib.hid (hT.b.mono (m' := 999999999) (by omega))
      have HTE := Lib.hid (hT.e.mono (m' := 999999999) (by omega))
      have HTB' := Lib.hid hT.b
      have HTE' := Lib.hid hT.e
      have HBL := Lib.hid hT.lb
      have HEL := Lib.hid hT.le
      have HF := Lib.hid hF
      have HDN := Lib.hid hDn
      generalize delayL p 0 (played p).e = dl at *
      generalize hTB : (played p).b = TB at *
      generalize hTE : (played p).e = TE at *
      have HTBE := Lib.hid (And.intro hTB hTE)
      generalize HDLN : dl.length = dn at *
      subst hDl
      have HDLN := Lib.hid HDLN
      clear HREF e1 e2 e3 hF hT hDn ok HPL hTB hTE HAW2 hb3 HE2
      obtain ⟨p0, p1, p2⟩ := HE3.out.b1
      go_wp2_with fail
      clear p0 p1 p2
      refine HC4.out.mono ?_
      rintro e w4 ⟨v4, rfl, hb4, hr4⟩
      have HE4 := Lib.hid (HE3.out.later hb4)
      have HR4 := Lib.hid hr4
      clear HE3 HC4 hb4 hr4
      obtain ⟨p0, p1, p2⟩ := HE4.out.b1
      go_wp2_with fail
      clear p0 p1 p2
      refine (HEN.out w4 HE4.out.rd).mono ?_
      rintro e w5 ⟨v5, rfl, hb5, hr5⟩
      have HE5 := Lib.hid (HE4.out.later hb5)
      have HR5 := Lib.hid hr5
      have HR45 := Lib.hid (HR4.out.later hb5)
      clear HE4 HR4 hb5 hr5 HEN
      obtain ⟨p0, p1, p2⟩ := HE5.out.b1
      go_wp2_with fail
      clear p0 p1 p2
      refine (HDL.out w5 HE5.out.rd).mono ?_
      rintro e w6 ⟨v6, rfl, S6⟩
      have hb6 := S6.bel
      have HE6 := Lib.hid (HE5.out.later hb6)
      have HR6 := (S6.row_rd (i := 0) rfl).now
      have HR46 := Lib.hid (HR45.out.later hb6)
      have HR56 := Lib.hid (HR5.out.later hb6)
      simp only [HDLN.out] at HR6
      have HR6 := Lib.hid HR6
      clear HE5 HR5 HR45 S6 hb6 HDL
      obtain ⟨A4, c4, h4⟩ := rows_open HR46.out
      obtain ⟨A5, c5, h5⟩ := rows_open HR56.out
      obtain ⟨A6, c6, h6, _⟩ := HR6.out.open_
      try dsimp only at h4 h5 h6 HR46 HR56 HR6
      rw [HBL.out] at h4
      rw [HEL.out] at h5
      subst h4 h5 h6
      have HSB : Hid (∀ w, RdRows w (· < w.heap.size) (.slice A4 dn c4) TB → Calls Tryz.prog 37 #[.slice A4 dn c4, .agg #[.slice Ar dn cr, .slice Am mn cm, .slice Ah hn ch]] w fun e w' => e = .returned (.bool true) ∧ Below w.heap.size w w') :=
        fun w h => shaped_any w _ _ _ _ TB dn mn hn rfl rfl rfl h HBL.out HTB.out (by omega) (by omega)
      have HSE : Hid (∀ w, RdRows w (· < w.heap.size) (.slice A5 dn c5) TE → Calls Tryz.prog 37 #[.slice A5 dn c5, .agg #[.slice Ar dn cr, .slice Am mn cm, .slice Ah hn ch]] w fun e w' => e = .returned (.bool true) ∧ Below w.heap.size w w') :=
        fun w h => shaped_any w _ _ _ _ TE dn mn hn rfl rfl rfl h HEL.out HTE.out (by omega) (by omega)
      obtain ⟨p0, p1, p2⟩ := HE6.out.b2
      go_wp2_with fail
      clear p0 p1 p2
      refine (HSB.out w6 HR46.out).mono ?_
      rintro e w7 ⟨rfl, hb7⟩
      have HE7 := Lib.hid (HE6.out.later hb7)
      have HR57 := Lib.hid (HR56.out.later hb7)
      have HR47 := Lib.hid (HR46.out.later hb7)
      have HR67 := Lib.hid (HR6.out.later hb7)
      clear HE6 HR56 HR46 HR6 hb7 HSB
      obtain ⟨p0, p1, p2⟩ := HE7.out.b2
      go_wp2_with fail
      clear p0 p1 p2
      refine (HSE.out w7 HR57.out).mono ?_
      rintro e w8 ⟨rfl, hb8⟩
      have HE8 := Lib.hid (HE7.out.later hb8)
      have HRE := Lib.hid (HR57.out.later hb8)
      have HRB := Lib.hid (HR47.out.later hb8)
      have HRD := Lib.hid (HR67.out.later hb8)
      clear HE7 HR57 HR47 HR67 hb8 HSE
      obtain ⟨b0, b1, b2⟩ := HE8.out.b1
      go_wp2_with fail
      go_loopw [14] (fun i w' => ∃ g q : Nat, g ≤ dn ∧ i = .int .i64 g ∧ w' = w8.drewN q) (fun i _ => dn - (intOf i).toNat)
      case atStart => exact ⟨0, 0, Nat.zero_le _, rfl, rfl⟩
      case round =>
        obtain ⟨g, q1_, hg', rfl, rfl⟩ := hrel
        have hd1 : Below w8.heap.size w8 (w8.drewN q1_) := below_drewN (Below.refl _ _) q1_
        have HE8a := Lib.hid (HE8.out.later hd1)
        have HRDa := Lib.hid (HRD.out.later hd1)
        obtain ⟨b0, b1, b2⟩ := HE8a.out.b1
        clear hd1
        by_cases hg : g < dn
        · obtain ⟨bX, oX, xr, hAX, hxr, cX⟩ := HE8a.out.rd.rd.int (k := g) (by rw [HRN.out]; exact hg)
          subst hAX
          have HXR : Hid (p.rd.getD g 0 = xr) := by show _ = _; rw [List.getD_eq_getElem?_getD, hxr, Option.getD_some]
          have hxb := HOK.out.rdb xr (List.mem_of_getElem? hxr)
          have hgm : g < p.mi.length := by rw [HOK.out.mil, HRN.out]; exact hg
          have hmr : p.mi[g]? = some (p.mi.getD g []) := by rw [List.getD_eq_getElem?_getD, List.getElem?_eq_getElem hgm, Option.getD_some]
          have HMR := Lib.hid hmr
          have hgmn : g < mn := by rw [← HMN.out]; exact hgm
          obtain ⟨bD, oD, xd, hAD, hxd, cD⟩ := HRDa.out.int (k := g) hg
          subst hAD
          have hdn := HDN.out xd (List.mem_of_getElem? hxd)
          have tdn : decide (xd < 0) = false := by simp; omega
          have HXD := Lib.hid hxd
          clear hxr hmr hgm hxd hdn
          go_wp2_with fail
          go_loopw [15] (fun i w' => ∃ k q : Nat, k ≤ hn ∧ i = .int .i64 k ∧ w' = w8.drewN q) (fun i _ => hn - (intOf i).toNat)
          case atStart => exact ⟨0, q1_, Nat.zero_le _, rfl, rfl⟩
          case round =>
            obtain ⟨k, q2_, hk', rfl, rfl⟩ := hrel
            have hd2 : Below w8.heap.size w8 (w8.drewN q2_) := below_drewN (Below.refl _ _) q2_
            have HE9 := Lib.hid (HE8.out.later hd2)
            have HRB9 := Lib.hid (HRB.out.later hd2)
            have HRE9 := Lib.hid (HRE.out.later hd2)
            have HRD9 := Lib.hid (HRD.out.later hd2)
            clear b0 b1 b2 cX cD hd2
            obtain ⟨b0, b1, b2⟩ := HE9.out.b1
            obtain ⟨_, _, xr', hAX, hxr', cX⟩ := HE9.out.rd.rd.int (k := g) (by rw [HRN.out]; exact hg)
            cases hAX
            obtain rfl : xr' = xr := by have := HXR.out; rw [List.getD_eq_getElem?_getD, hxr', Option.getD_some] at this; exact this
            obtain ⟨_, _, xd', hAD, hxd', cD⟩ := HRD9.out.int (k := g) hg
            cases hAD
            obtain rfl : xd' = xd := Option.some.inj (hxd'.symm.trans HXD.out)
            clear hxr' hxd'
            generalize hw9 : w8.drewN q2_ = w9 at *
            have HW9 := Lib.hid hw9
            clear hw9
            by_cases hk : k < hn
            · obtain ⟨bH, oH, hd, hAH, hhd, cH⟩ := HE9.out.rd.ho.int (k := k) (by rw [HHN.out]; exact hk)
              subst hAH
              have hhb := HOK.out.hob hd (List.mem_of_getElem? hhd)
              have HHD : Hid (p.ho.getD k 0 = hd) := by show _ = _; rw [List.getD_eq_getElem?_getD, hhd, Option.getD_some]
              obtain ⟨bM, oM, bM2, oM2, cM2, m, hAM, m1, hcM, hm, m2⟩ := rows_at HE9.out.rd.mi HMR.out ((HOK.out.mib _ (List.mem_of_getElem? HMR.out)).1.trans HHN.out) hk
              subst hAM
              have hmb := (HOK.out.mib _ (List.mem_of_getElem? HMR.out)).2 m (List.mem_of_getElem? hm)
              have HMG : Hid (at2 p.mi g k = m) := by show _ = _; rw [at2, List.getD_eq_getElem?_getD (l := p.mi.getD g []), hm, Option.getD_some]
              obtain ⟨bB, oB, bB2, oB2, cB2, hAB, r1, hB2, r2⟩ := tab_at HRB9.out HBL.out HTB.out.len hg hk
              subst hAB
              obtain ⟨bT, oT, bT2, oT2, cT2, hAT, u1, hT2, u2⟩ := tab_at HRE9.out HEL.out HTE.out.len hg hk
              subst hAT
              clear hhd hm
              by_cases hk0 : 0 < k
              · by_cases hg0 : 0 < g
                · by_cases hh : hd ≤ (g : Int)
                  · as_aux_lemma =>
                      obtain ⟨kp, hkp⟩ : ∃ kp : Nat, (k : Int) - 1 = kp := ⟨k - 1, by omega⟩
                      have hkp' : k = kp + 1 := by omega
                      have hkpn : kp < hn := by omega
                      obtain ⟨_, _, bP, oP, cP, hAP, p1, hP, p2⟩ := tab_at HRE9.out HEL.out HTE.out.len hg hkpn
                      cases hAP
                      cases Option.some.inj (p1.symm.trans u1)
                      have hcome := HF.out.come g kp hg (by omega)
                      rw [← hkp'] at hcome
                      have q0 := HTE.out.at_ (by omega) g kp
                      have tk : decide (0 < (k : Int)) = true := by simp; omega
                      have tk2 : decide (0 < k) = true := by simp; omega
                      clear hkp'
                      have hplay := HF.out.play g k hg hk
                      rw [HMG.out] at hplay
                      obtain ⟨gp, hgp⟩ : ∃ gp : Nat, (g : Int) - 1 = gp := ⟨g - 1, by omega⟩
                      have hgp' : g = gp + 1 := by omega
                      have hgpn : gp < dn := by omega
                      obtain ⟨_, _, bQ, oQ, cQ, hAQ, b1, hQ, b2⟩ := tab_at HRB9.out HBL.out HTB.out.len hgpn hk
                      cases hAQ
                      obtain ⟨_, _, bR, oR, cR, hAR, e1, hR, e2⟩ := tab_at HRE9.out HEL.out HTE.out.len hgpn hk
                      cases hAR
                      have hah := HF.out.ahead gp k (by omega) hk
                      rw [← hgp'] at hah
                      obtain ⟨hah1, hah2⟩ := hah
                      have tg : decide (0 < (g : Int)) = true := by simp; omega
                      have tg2 : decide (0 < g) = true := by simp; omega
                      have q1 := HTB.out.at_ (by omega) gp k
                      have q2 := HTE.out.at_ (by omega) gp k
                      clear hgp'
                      obtain ⟨gh, hgh⟩ : ∃ gh : Nat, (g : Int) - hd = gh := ⟨((g : Int) - hd).toNat, by omega⟩
                      have hghn : gh < dn := by omega
                      obtain ⟨_, _, bS, oS, cS, hAS, s1, hS, s2⟩ := tab_at HRE9.out HEL.out HTE.out.len hghn hk
                      cases hAS
                      have hho := HF.out.holds g k hg hk (by rw [HHD.out]; exact hh)
                      rw [HHD.out, show g - hd.toNat = gh by omega] at hho
                      have th : decide (hd ≤ (g : Int)) = true := by simp; omega
                      have q3 := HTE.out.at_ (by omega) gh k
                      have q4 := HTB.out.at_ (by omega) g k
                      have q5 := HTE.out.at_ (by omega) g k
                      generalize at2 TE g kp = cm at *
                      generalize at2 TB g k = b0 at *
                      generalize at2 TE g k = e0 at *
                      generalize at2 TB gp k = bq at *
                      generalize at2 TE gp k = eq at *
                      generalize at2 TE gh k = eh at *
                      have t1 : decide (b0 < cm) = false := by simp; omega
                      have t2 : decide (e0 < b0 + m) = false := by simp; omega
                      have t3 : decide (b0 < bq) = false := by simp; omega
                      have t4 : decide (e0 < eq) = false := by simp; omega
                      have t5 : decide (b0 < eh) = false := by simp; omega
                      clear hcome hplay hah1 hah2 hho
                      go_wp2_with fail
                      refine wp_region_quiet_lit (by kernel_rfl) (Go.MemQ.lexB_seq 121 (by kernel_rfl) (by kernel_rfl)) ?_
                      try simp only [List.append_eq, List.cons_append, List.nil_append]
                      as_aux_lemma =>
                        iterate 18 (go_big_quiet_step ((fail)))
                        as_aux_lemma =>
                          iterate 18 (go_big_quiet_step ((fail)))
                          as_aux_lemma =>
                            iterate 18 (go_big_quiet_step ((fail)))
                            as_aux_lemma =>
                              iterate 18 (go_big_quiet_step ((fail)))
                              as_aux_lemma =>
                                iterate 18 (go_big_quiet_step ((fail)))
                                as_aux_lemma =>
                                  iterate 17 (go_big_quiet_step ((fail)))
                                  refine wpQuiet_nil ?_
                                  intro _ hw_
                                  obtain ⟨nq, hw_⟩ := hw_
                                  subst hw_
                                  as_aux_lemma =>
                                    go_wp2
                                    go_roundw
                                    case rel => exact ⟨k + 1, q2_ + nq, by omega, by go_num, by rw [← HW9.out]; first | rfl | exact World.drewN_drewN _ _ _⟩
                                    case measure => simp [intOf]; omega
                  · as_aux_lemma =>
                      obtain ⟨kp, hkp⟩ : ∃ kp : Nat, (k : Int) - 1 = kp := ⟨k - 1, by omega⟩
                      have hkp' : k = kp + 1 := by omega
                      have hkpn : kp < hn := by omega
                      obtain ⟨_, _, bP, oP, cP, hAP, p1, hP, p2⟩ := tab_at HRE9.out HEL.out HTE.out.len hg hkpn
                      cases hAP
                      cases Option.some.inj (p1.symm.trans u1)
                      have hcome := HF.out.come g kp hg (by omega)
                      rw [← hkp'] at hcome
                      have q0 := HTE.out.at_ (by omega) g kp
                      have tk : decide (0 < (k : Int)) = true := by simp; omega
                      have tk2 : decide (0 < k) = true := by simp; omega
                      clear hkp'
                      have hplay := HF.out.play g k hg hk
                      rw [HMG.out] at hplay
                      obtain ⟨gp, hgp⟩ : ∃ gp : Nat, (g : Int) - 1 = gp := ⟨g - 1, by omega⟩
                      have hgp' : g = gp + 1 := by omega
                      have hgpn : gp < dn := by omega
                      obtain ⟨_, _, bQ, oQ, cQ, hAQ, b1, hQ, b2⟩ := tab_at HRB9.out HBL.out HTB.out.len hgpn hk
                      cases hAQ
                      obtain ⟨_, _, bR, oR, cR, hAR, e1, hR, e2⟩ := tab_at HRE9.out HEL.out HTE.out.len hgpn hk
                      cases hAR
                      have hah := HF.out.ahead gp k (by omega) hk
                      rw [← hgp'] at hah
                      obtain ⟨hah1, hah2⟩ := hah
                      have tg : decide (0 < (g : Int)) = true := by simp; omega
                      have tg2 : decide (0 < g) = true := by simp; omega
                      have q1 := HTB.out.at_ (by omega) gp k
                      have q2 := HTE.out.at_ (by omega) gp k
                      clear hgp'
                      have th : decide (hd ≤ (g : Int)) = false := by simp; omega
                      have q4 := HTB.out.at_ (by omega) g k
                      have q5 := HTE.out.at_ (by omega) g k
                      generalize at2 TE g kp = cm at *
                      generalize at2 TB g k = b0 at *
                      generalize at2 TE g k = e0 at *
                      generalize at2 TB gp k = bq at *
                      generalize at2 TE gp k = eq at *
                      have t1 : decide (b0 < cm) = false := by simp; omega
                      have t2 : decide (e0 < b0 + m) = false := by simp; omega
                      have t3 : decide (b0 < bq) = false := by simp; omega
                      have t4 : decide (e0 < eq) = false := by simp; omega
                      clear hcome hplay hah1 hah2
                      go_wp2_with fail
                      refine wp_region_quiet_lit (by kernel_rfl) (Go.MemQ.lexB_seq 121 (by kernel_rfl) (by kernel_rfl)) ?_
                      try simp only [List.append_eq, List.cons_append, List.nil_append]
                      as_aux_lemma =>
                        iterate 18 (go_big_quiet_step ((fail)))
                        as_aux_lemma =>
                          iterate 18 (go_big_quiet_step ((fail)))
                          as_aux_lemma =>
                            iterate 18 (go_big_quiet_step ((fail)))
                            as_aux_lemma =>
                              iterate 18 (go_big_quiet_step ((fail)))
                              as_aux_lemma =>
                                iterate 18 (go_big_quiet_step ((fail)))
                                as_aux_lemma =>
                                  iterate 17 (go_big_quiet_step ((fail)))
                                  refine wpQuiet_nil ?_
                                  intro _ hw_
                                  obtain ⟨nq, hw_⟩ := hw_
                                  subst hw_
                                  as_aux_lemma =>
                                    go_wp2
                                    go_roundw
                                    case rel => exact ⟨k + 1, q2_ + nq, by omega, by go_num, by rw [← HW9.out]; first | rfl | exact World.drewN_drewN _ _ _⟩
                                    case measure => simp [intOf]; omega
                · as_aux_lemma =>
                    obtain ⟨kp, hkp⟩ : ∃ kp : Nat, (k : Int) - 1 = kp := ⟨k - 1, by omega⟩
                    have hkp' : k = kp + 1 := by omega
                    have hkpn : kp < hn := by omega
                    obtain ⟨_, _, bP, oP, cP, hAP, p1, hP, p2⟩ := tab_at HRE9.out HEL.out HTE.out.len hg hkpn
                    cases hAP
                    cases Option.some.inj (p1.symm.trans u1)
                    have hcome := HF.out.come g kp hg (by omega)
                    rw [← hkp'] at hcome
                    have q0 := HTE.out.at_ (by omega) g kp
                    have tk : decide (0 < (k : Int)) = true := by simp; omega
                    have tk2 : decide (0 < k) = true := by simp; omega
                    clear hkp'
                    have hplay := HF.out.play g k hg hk
                    rw [HMG.out] at hplay
                    have tg : decide (0 < (g : Int)) = false := by simp; omega
                    have tg2 : decide (0 < g) = false := by simp; omega
                    have th : decide (hd ≤ (g : Int)) = false := by simp; omega
                    have q4 := HTB.out.at_ (by omega) g k
                    have q5 := HTE.out.at_ (by omega) g k
                    generalize at2 TE g kp = cm at *
                    generalize at2 TB g k = b0 at *
                    generalize at2 TE g k = e0 at *
                    have t1 : decide (b0 < cm) = false := by simp; omega
                    have t2 : decide (e0 < b0 + m) = false := by simp; omega
                    clear hcome hplay
                    go_wp2_with fail
                    refine wp_region_quiet_lit (by kernel_rfl) (Go.MemQ.lexB_seq 121 (by kernel_rfl) (by kernel_rfl)) ?_
                    try simp only [List.append_eq, List.cons_append, List.nil_append]
                    as_aux_lemma =>
                      iterate 18 (go_big_quiet_step ((fail)))
                      as_aux_lemma =>
                        iterate 18 (go_big_quiet_step ((fail)))
                        as_aux_lemma =>
                          iterate 18 (go_big_quiet_step ((fail)))
                          as_aux_lemma =>
                            iterate 18 (go_big_quiet_step ((fail)))
                            as_aux_lemma =>
                              iterate 18 (go_big_quiet_step ((fail)))
                              as_aux_lemma =>
                                iterate 17 (go_big_quiet_step ((fail)))
                                refine wpQuiet_nil ?_
                                intro _ hw_
                                obtain ⟨nq, hw_⟩ := hw_
                                subst hw_
                                as_aux_lemma =>
                                  go_wp2
                                  go_roundw
                                  case rel => exact ⟨k + 1, q2_ + nq, by omega, by go_num, by rw [← HW9.out]; first | rfl | exact World.drewN_drewN _ _ _⟩
                                  case measure => simp [intOf]; omega
              · by_cases hg0 : 0 < g
                · by_cases hh : hd ≤ (g : Int)
                  · as_aux_lemma =>
                      have hk0 : k = 0 := by omega
                      have hcome := HF.out.come0 g hg (by omega)
                      rw [HXR.out, show (0 : Nat) = k by omega] at hcome
                      have tk : decide (0 < (k : Int)) = false := by simp; omega
                      have tk2 : decide (0 < k) = false := by simp; omega
                      clear hk0
                      have hplay := HF.out.play g k hg hk
                      rw [HMG.out] at hplay
                      obtain ⟨gp, hgp⟩ : ∃ gp : Nat, (g : Int) - 1 = gp := ⟨g - 1, by omega⟩
                      have hgp' : g = gp + 1 := by omega
                      have hgpn : gp < dn := by omega
                      obtain ⟨_, _, bQ, oQ, cQ, hAQ, b1, hQ, b2⟩ := tab_at HRB9.out HBL.out HTB.out.len hgpn hk
                      cases hAQ
                      obtain ⟨_, _, bR, oR, cR, hAR, e1, hR, e2⟩ := tab_at HRE9.out HEL.out HTE.out.len hgpn hk
                      cases hAR
                      have hah := HF.out.ahead gp k (by omega) hk
                      rw [← hgp'] at hah
                      obtain ⟨hah1, hah2⟩ := hah
                      have tg : decide (0 < (g : Int)) = true := by simp; omega
                      have tg2 : decide (0 < g) = true := by simp; omega
                      have q1 := HTB.out.at_ (by omega) gp k
                      have q2 := HTE.out.at_ (by omega) gp k
                      clear hgp'
                      obtain ⟨gh, hgh⟩ : ∃ gh : Nat, (g : Int) - hd = gh := ⟨((g : Int) - hd).toNat, by omega⟩
                      have hghn : gh < dn := by omega
                      obtain ⟨_, _, bS, oS, cS, hAS, s1, hS, s2⟩ := tab_at HRE9.out HEL.out HTE.out.len hghn hk
                      cases hAS
                      have hho := HF.out.holds g k hg hk (by rw [HHD.out]; exact hh)
                      rw [HHD.out, show g - hd.toNat = gh by omega] at hho
                      have th : decide (hd ≤ (g : Int)) = true := by simp; omega
                      have q3 := HTE.out.at_ (by omega) gh k
                      have q4 := HTB.out.at_ (by omega) g k
                      have q5 := HTE.out.at_ (by omega) g k
                      generalize at2 TB g k = b0 at *
                      generalize at2 TE g k = e0 at *
                      generalize at2 TB gp k = bq at *
                      generalize at2 TE gp k = eq at *
                      generalize at2 TE gh k = eh at *
                      have t1 : decide (b0 < xr') = false := by simp; omega
                      have t2 : decide (e0 < b0 + m) = false := by simp; omega
                      have t3 : decide (b0 < bq) = false := by simp; omega
                      have t4 : decide (e0 < eq) = false := by simp; omega
                      have t5 : decide (b0 < eh) = false := by simp; omega
                      clear hcome hplay hah1 hah2 hho
                      go_wp2_with fail
                      refine wp_region_quiet_lit (by kernel_rfl) (Go.MemQ.lexB_seq 121 (by kernel_rfl) (by kernel_rfl)) ?_
                      try simp only [List.append_eq, List.cons_append, List.nil_append]
                      as_aux_lemma =>
                        iterate 18 (go_big_quiet_step ((fail)))
                        as_aux_lemma =>
                          iterate 18 (go_big_quiet_step ((fail)))
                          as_aux_lemma =>
                            iterate 18 (go_big_quiet_step ((fail)))
                            as_aux_lemma =>
                              iterate 18 (go_big_quiet_step ((fail)))
                              as_aux_lemma =>
                                iterate 18 (go_big_quiet_step ((fail)))
                                as_aux_lemma =>
                                  iterate 17 (go_big_quiet_step ((fail)))
                                  refine wpQuiet_nil ?_
                                  intro _ hw_
                                  obtain ⟨nq, hw_⟩ := hw_
                                  subst hw_
                                  as_aux_lemma =>
                                    go_wp2
                                    go_roundw
                                    case rel => exact ⟨k + 1, q2_ + nq, by omega, by go_num, by rw [← HW9.out]; first | rfl | exact World.drewN_drewN _ _ _⟩
                                    case measure => simp [intOf]; omega
                  · as_aux_lemma =>
                      have hk0 : k = 0 := by omega
                      have hcome := HF.out.come0 g hg (by omega)
                      rw [HXR.out, show (0 : Nat) = k by omega] at hcome
                      have tk : decide (0 < (k : Int)) = false := by simp; omega
                      have tk2 : decide (0 < k) = false := by simp; omega
                      clear hk0
                      have hplay := HF.out.play g k hg hk
                      rw [HMG.out] at hplay
                      obtain ⟨gp, hgp⟩ : ∃ gp : Nat, (g : Int) - 1 = gp := ⟨g - 1, by omega⟩
                      have hgp' : g = gp + 1 := by omega
                      have hgpn : gp < dn := by omega
                      obtain ⟨_, _, bQ, oQ, cQ, hAQ, b1, hQ, b2⟩ := tab_at HRB9.out HBL.out HTB.out.len hgpn hk
                      cases hAQ
                      obtain ⟨_, _, bR, oR, cR, hAR, e1, hR, e2⟩ := tab_at HRE9.out HEL.out HTE.out.len hgpn hk
                      cases hAR
                      have hah := HF.out.ahead gp k (by omega) hk
                      rw [← hgp'] at hah
                      obtain ⟨hah1, hah2⟩ := hah
                      have tg : decide (0 < (g : Int)) = true := by simp; omega
                      have tg2 : decide (0 < g) = true := by simp; omega
                      have q1 := HTB.out.at_ (by omega) gp k
                      have q2 := HTE.out.at_ (by omega) gp k
                      clear hgp'
                      have th : decide (hd ≤ (g : Int)) = false := by simp; omega
                      have q4 := HTB.out.at_ (by omega) g k
                      have q5 := HTE.out.at_ (by omega) g k
                      generalize at2 TB g k = b0 at *
                      generalize at2 TE g k = e0 at *
                      generalize at2 TB gp k = bq at *
                      generalize at2 TE gp k = eq at *
                      have t1 : decide (b0 < xr') = false := by simp; omega
                      have t2 : decide (e0 < b0 + m) = false := by simp; omega
                      have t3 : decide (b0 < bq) = false := by simp; omega
                      have t4 : decide (e0 < eq) = false := by simp; omega
                      clear hcome hplay hah1 hah2
                      go_wp2_with fail
                      refine wp_region_quiet_lit (by kernel_rfl) (Go.MemQ.lexB_seq 121 (by kernel_rfl) (by kernel_rfl)) ?_
                      try simp only [List.append_eq, List.cons_append, List.nil_append]
                      as_aux_lemma =>
                        iterate 18 (go_big_quiet_step ((fail)))
                        as_aux_lemma =>
                          iterate 18 (go_big_quiet_step ((fail)))
                          as_aux_lemma =>
                            iterate 18 (go_big_quiet_step ((fail)))
                            as_aux_lemma =>
                              iterate 18 (go_big_quiet_step ((fail)))
                              as_aux_lemma =>
                                iterate 18 (go_big_quiet_step ((fail)))
                                as_aux_lemma =>
                                  iterate 17 (go_big_quiet_step ((fail)))
                                  refine wpQuiet_nil ?_
                                  intro _ hw_
                                  obtain ⟨nq, hw_⟩ := hw_
                                  subst hw_
                                  as_aux_lemma =>
                                    go_wp2
                                    go_roundw
                                    case rel => exact ⟨k + 1, q2_ + nq, by omega, by go_num, by rw [← HW9.out]; first | rfl | exact World.drewN_drewN _ _ _⟩
                                    case measure => simp [intOf]; omega
                · as_aux_lemma =>
                    have hk0 : k = 0 := by omega
                    have hcome := HF.out.come0 g hg (by omega)
                    rw [HXR.out, show (0 : Nat) = k by omega] at hcome
                    have tk : decide (0 < (k : Int)) = false := by simp; omega
                    have tk2 : decide (0 < k) = false := by simp; omega
                    clear hk0
                    have hplay := HF.out.play g k hg hk
                    rw [HMG.out] at hplay
                    have tg : decide (0 < (g : Int)) = false := by simp; omega
                    have tg2 : decide (0 < g) = false := by simp; omega
                    have th : decide (hd ≤ (g : Int)) = false := by simp; omega
                    have q4 := HTB.out.at_ (by omega) g k
                    have q5 := HTE.out.at_ (by omega) g k
                    generalize at2 TB g k = b0 at *
                    generalize at2 TE g k = e0 at *
                    have t1 : decide (b0 < xr') = false := by simp; omega
                    have t2 : decide (e0 < b0 + m) = false := by simp; omega
                    clear hcome hplay
                    go_wp2_with fail
                    refine wp_region_quiet_lit (by kernel_rfl) (Go.MemQ.lexB_seq 121 (by kernel_rfl) (by kernel_rfl)) ?_
                    try simp only [List.append_eq, List.cons_append, List.nil_append]
                    as_aux_lemma =>
                      iterate 18 (go_big_quiet_step ((fail)))
                      as_aux_lemma =>
                        iterate 18 (go_big_quiet_step ((fail)))
                        as_aux_lemma =>
                          iterate 18 (go_big_quiet_step ((fail)))
                          as_aux_lemma =>
                            iterate 18 (go_big_quiet_step ((fail)))
                            as_aux_lemma =>
                              iterate 18 (go_big_quiet_step ((fail)))
                              as_aux_lemma =>
                                iterate 17 (go_big_quiet_step ((fail)))
                                refine wpQuiet_nil ?_
                                intro _ hw_
                                obtain ⟨nq, hw_⟩ := hw_
                                subst hw_
                                as_aux_lemma =>
                                  go_wp2
                                  go_roundw
                                  case rel => exact ⟨k + 1, q2_ + nq, by omega, by go_num, by rw [← HW9.out]; first | rfl | exact World.drewN_drewN _ _ _⟩
                                  case measure => simp [intOf]; omega
            · have hkn : decide ((k : Int) < hn) = false := by simp; omega
              go_wp2
              go_roundw
              case rel => exact ⟨g + 1, q2_, by omega, by go_num, HW9.out.symm⟩
              case measure => simp [intOf]; omega
        · have hgn : decide ((g : Int) < dn) = false := by simp; omega
          have hgn2 : decide (g < dn) = false := by simp; omega
          clear hg' hg
          have hdA : Below w8.heap.size w8 (w8.drewN q1_) := below_drewN (Below.refl _ _) q1_
          have HEa := HE8a
          have HRBa := Lib.hid (HRB.out.later hdA)
          have HREa := Lib.hid (HRE.out.later hdA)
          clear hdA HRDa HRD HRB HRE HE8 HE8a HDN HF
          generalize w8.drewN q1_ = w9 at *
          as_aux_lemma =>
          obtain ⟨gx, hgx, hgl⟩ : ∃ gx : Nat, (x1 : Int) % (dn : Int) = gx ∧ gx < dn := ⟨x1 % dn, by simp, Nat.mod_lt _ hrd0⟩
          obtain ⟨bX, oX, xr, hAX, hxr, cX⟩ := HEa.out.rd.rd.int (k := gx) (by rw [HRN.out]; exact hgl)
          subst hAX
          have hxb := HOK.out.rdb xr (List.mem_of_getElem? hxr)
          have HXR : Hid (p.rd.getD gx 0 = xr) := by show _ = _; rw [List.getD_eq_getElem?_getD, hxr, Option.getD_some]
          have HXQ := Lib.hid hxr
          clear hxr
          by_cases hov : 10000 < xr + (x2 : Int)
          · have tov : decide (10000 < xr + (x2 : Int)) = true := by simp; omega
            clear hov
            go_wp2_with fail
            go_ret
            exact ⟨rfl, HEa.out.bel⟩
          have tov : decide (10000 < xr + (x2 : Int)) = false := by simp; omega
          have HOV : Hid (xr + (x2 : Int) ≤ 10000) := by show _ ≤ _; omega
          clear hov
          go_wp2_with fail
          clear cX
          try simp only [hgx]
          refine wp_head_tail3 0 10 4 [] [1, 2, 4, 5, 6, 7] rfl (fun w' => Box3 w' g1 (.slice (some ⟨bX, oX, none⟩) dn cr) (.slice Am mn cm) (.slice Ah hn ch))
            (fun a a' w' => ∃ (g0 gb : Nat) (v1 : Value), St w9 w' [blk gb 55 #[.slice none 0 0, .slice none 0 0, .slice none 0 0], row 3 1 v1 (0 + p.rd.length) ([] ++ ints p.rd)] ∧
              a' = (((a.put (some 249) (.slice (some ⟨g0, 0, none⟩) 0 0)).put (some 252) v1).put (some 257) (.agg #[v1, .slice Am mn cm, .slice Ah hn ch])).put (some 19) (.pointer (some ⟨gb, 0, none⟩)))
            (by kernel_rfl) (by kernel_rfl) (HEa.out.b1.later (Below.refl _ _).drew) ?_
          simp only [pick, List.filterMap_cons, List.filterMap_nil, List.getElem?_toArray, List.getElem?_cons_succ, List.getElem?_cons_zero]
          have SD := Lib.hid (St.of_below (Below.refl w9.heap.size w9)).drew
          generalize hK : (fun w' : World => Box3 w' g1 (.slice (some ⟨bX, oX, none⟩) dn cr) (.slice Am mn cm) (.slice Ah hn ch)) = K
          have hKd : ∀ (w' : World) (L : List Asr), St w9 w' L → K w' := by
            intro w' L h
            subst hK
            exact HEa.out.b1.later h.bel
          have hne : Nonempty (Wd K) := ⟨⟨w9.drew, hKd _ _ SD.out⟩⟩
          have k0 : ∀ y : Wd K, y.w.cell? ⟨g1, 0, none⟩ = some (.slice (some ⟨bX, oX, none⟩) dn cr) := by subst hK; exact fun y => y.h.1
          have k1 : ∀ y : Wd K, y.w.cell? ⟨g1, 1, none⟩ = some (.slice Am mn cm) := by subst hK; exact fun y => y.h.2.1
          have k2 : ∀ y : Wd K, y.w.cell? ⟨g1, 2, none⟩ = some (.slice Ah hn ch) := by subst hK; exact fun y => y.h.2.2
          clear hK
          generalize w9.drew = w10 at *
          refine wpQuiet_nil ?_
          change wpQuiet _ _ _ _ (_ :: _ :: _ :: _ :: _ :: _ :: []) _
          repeat (go_big_quiet_step ((fail)))
          refine wpQuiet_nil ?_
          have S0 := SD.out
          clear k0 k1 k2 SD hne
          have HLN : Hid (p.rd.length ≤ 8) := by show _ ≤ _; rw [HRN.out]; omega
          refine ⟨?_, ?_⟩
          · as_aux_lemma =>
            refine headW_all (rs := [0, 9]) (by kernel_rfl) (by decide) (by decide) (List.forall_mem_cons.2 ⟨?_, List.forall_mem_cons.2 ⟨?_, List.forall_mem_nil _⟩⟩)
            · refine wpOp_list (o := _) rfl ?_
              intro Q' hQ'
              go_wp2_with fail
              have U1 := S0.row_new (e := 3) (size := 1) (n := 0) #[] (by unfold maxLen; omega) rfl
              simp only [List.cons_append, List.nil_append, World.size_alloc] at U1
              refine ⟨hKd _ _ U1, ?_⟩
              refine headW_all (rs := [3, 9]) (by kernel_rfl) (by decide) (by decide) (List.forall_mem_cons.2 ⟨?_, List.forall_mem_cons.2 ⟨?_, List.forall_mem_nil _⟩⟩)
              · refine wpOp_list (o := _) rfl ?_
                intro Q' hQ'
                refine wpList_append_st eltI rfl _ _ rfl rfl U1 (k := 0) rfl rfl (HEa.out.rd.rd.later U1.bel) (ints_one _ _) (by have := HLN.out; omega) (by have := HLN.out; omega) ?_
                intro va wa U2 _
                go_wp2_with fail
                simp only [List.set_cons_zero, List.set_cons_succ] at U2
                obtain ⟨Aq, cq, hva, _, _, _⟩ := (U2.row_rd (i := 0) rfl).open_
                rw [Nat.zero_add, HRN.out] at hva
                subst hva
                refine ⟨hKd _ _ U2, ?_⟩
                refine headW_all (rs := [8, 9]) (by kernel_rfl) (by decide) (by decide) (List.forall_mem_cons.2 ⟨?_, List.forall_mem_cons.2 ⟨?_, List.forall_mem_nil _⟩⟩)
                · refine wpOp_list (o := _) rfl ?_
                  intro Q' hQ'
                  go_wp2_with fail
                  refine ⟨hKd _ _ U2, ?_⟩
                  refine headW_all (rs := [9]) (by kernel_rfl) (by decide) (by decide) (List.forall_mem_cons.2 ⟨?_, List.forall_mem_nil _⟩)
                  · refine wpOp_list (o := _) rfl ?_
                    intro Q' hQ'
                    go_wp2_with fail
                    have U4 := U2.blk_new #[.slice none 0 0, .slice none 0 0, .slice none 0 0] 55
                    simp only [List.cons_append, List.nil_append, World.size_alloc] at U4
                    refine ⟨hKd _ _ U4, ?_⟩
                    exact ⟨by kernel_rfl, w10.heap.size, _, _, U4.perm (List.Perm.swap _ _ _), by kernel_rfl⟩
                · refine wpOp_list (o := _) rfl ?_
                  intro Q' hQ'
                  go_wp2_with fail
                  have U3 := U2.blk_new #[.slice none 0 0, .slice none 0 0, .slice none 0 0] 55
                  simp only [List.cons_append, List.nil_append, World.size_alloc] at U3
                  refine ⟨hKd _ _ U3, ?_⟩
                  refine headW_all (rs := [8]) (by kernel_rfl) (by decide) (by decide) (List.forall_mem_cons.2 ⟨?_, List.forall_mem_nil _⟩)
                  · refine wpOp_list (o := _) rfl ?_
                    intro Q' hQ'
                    go_wp2_with fail
                    refine ⟨hKd _ _ U3, ?_⟩
                    exact ⟨by kernel_rfl, w10.heap.size, _, _, U3.perm (List.Perm.swap _ _ _), by kernel_rfl⟩
              · refine wpOp_list (o := _) rfl ?_
                intro Q' hQ'
                go_wp2_with fail
                have U2 := U1.blk_new #[.slice none 0 0, .slice none 0 0, .slice none 0 0] 55
                simp only [List.cons_append, List.nil_append, World.size_alloc] at U2
                refine ⟨hKd _ _ U2, ?_⟩
                refine headW_all (rs := [3]) (by kernel_rfl) (by decide) (by decide) (List.forall_mem_cons.2 ⟨?_, List.forall_mem_nil _⟩)
                · refine wpOp_list (o := _) rfl ?_
                  intro Q' hQ'
                  refine wpList_append_st eltI rfl _ _ rfl rfl U2 (k := 0) rfl rfl (HEa.out.rd.rd.later U2.bel) (ints_one _ _) (by have := HLN.out; omega) (by have := HLN.out; omega) ?_
                  intro va wa U3 _
                  go_wp2_with fail
                  simp only [List.set_cons_zero, List.set_cons_succ] at U3
                  obtain ⟨Aq, cq, hva, _, _, _⟩ := (U3.row_rd (i := 0) rfl).open_
                  rw [Nat.zero_add, HRN.out] at hva
                  subst hva
                  refine ⟨hKd _ _ U3, ?_⟩
                  refine headW_all (rs := [8]) (by kernel_rfl) (by decide) (by decide) (List.forall_mem_cons.2 ⟨?_, List.forall_mem_nil _⟩)
                  · refine wpOp_list (o := _) rfl ?_
                    intro Q' hQ'
                    go_wp2_with fail
                    refine ⟨hKd _ _ U3, ?_⟩
                    exact ⟨by kernel_rfl, w10.heap.size, _, _, U3.perm (List.Perm.swap _ _ _), by kernel_rfl⟩
            · refine wpOp_list (o := _) rfl ?_
              intro Q' hQ'
              go_wp2_with fail
              have U1 := S0.blk_new #[.slice none 0 0, .slice none 0 0, .slice none 0 0] 55
              simp only [List.cons_append, List.nil_append, World.size_alloc] at U1
              refine ⟨hKd _ _ U1, ?_⟩
              refine headW_all (rs := [0]) (by kernel_rfl) (by decide) (by decide) (List.forall_mem_cons.2 ⟨?_, List.forall_mem_nil _⟩)
              · refine wpOp_list (o := _) rfl ?_
                intro Q' hQ'
                go_wp2_with fail
                have U2 := U1.row_new (e := 3) (size := 1) (n := 0) #[] (by unfold maxLen; omega) rfl
                simp only [List.cons_append, List.nil_append, World.size_alloc] at U2
                refine ⟨hKd _ _ U2, ?_⟩
                refine headW_all (rs := [3]) (by kernel_rfl) (by decide) (by decide) (List.forall_mem_cons.2 ⟨?_, List.forall_mem_nil _⟩)
                · refine wpOp_list (o := _) rfl ?_
                  intro Q' hQ'
                  refine wpList_append_st eltI rfl _ _ rfl rfl U2 (k := 1) rfl rfl (HEa.out.rd.rd.later U2.bel) (ints_one _ _) (by have := HLN.out; omega) (by have := HLN.out; omega) ?_
                  intro va wa U3 _
                  go_wp2_with fail
                  simp only [List.set_cons_zero, List.set_cons_succ] at U3
                  obtain ⟨Aq, cq, hva, _, _, _⟩ := (U3.row_rd (i := 1) rfl).open_
                  rw [Nat.zero_add, HRN.out] at hva
                  subst hva
                  refine ⟨hKd _ _ U3, ?_⟩
                  refine headW_all (rs := [8]) (by kernel_rfl) (by decide) (by decide) (List.forall_mem_cons.2 ⟨?_, List.forall_mem_nil _⟩)
                  · refine wpOp_list (o := _) rfl ?_
                    intro Q' hQ'
                    go_wp2_with fail
                    refine ⟨hKd _ _ U3, ?_⟩
                    exact ⟨by kernel_rfl, w10.heap.size + 1, _, _, U3, by kernel_rfl⟩
          · rintro a' w11 ⟨g0, gb, v1, S4, rfl⟩
            simp only [List.drop_succ_cons, List.drop_zero]
            as_aux_lemma =>
            clear S0 hKd
            simp only [List.nil_append, Nat.zero_add] at S4
            rw [HRN.out] at S4
            obtain ⟨gr, cg, rfl, hcg, _, _, hcell, hfz⟩ := S4.row_form (i := 1) rfl hrd0
            have f0 := S4.blk_cell (i := 0) rfl 0
            have f1 := S4.blk_cell (i := 0) rfl 1
            have f2 := S4.blk_cell (i := 0) rfl 2
            have z0 := S4.blk_frozen (i := 0) rfl 0
            have z1 := S4.blk_frozen (i := 0) rfl 1
            have z2 := S4.blk_frozen (i := 0) rfl 2
            have S5 := ((S4.blk_set (i := 0) rfl 0 (.slice (some ⟨gr, 0, none⟩) dn cg)).blk_set (i := 0) rfl 1 (.slice Am mn cm)).blk_set (i := 0) rfl 2 (.slice Ah hn ch)
            simp only [List.set_cons_zero, List.set_cons_succ] at S5
            change St w9 _ [blk gb 55 #[.slice (some ⟨gr, 0, none⟩) dn cg, .slice Am mn cm, .slice Ah hn ch], _] at S5
            have HS5 := Lib.hid S5
            clear hcell hfz S5 S4
            go_wp2_with fail
            refine NoPanic.normal ?_
            clear f0 f1 f2 z0 z1 z2
            generalize ((w11.setCell ⟨gb, 0, none⟩ (.slice (some ⟨gr, 0, none⟩) dn cg)).setCell ⟨gb, 1, none⟩ (.slice Am mn cm)).setCell ⟨gb, 2, none⟩ (.slice Ah hn ch) = w12 at *
            have S6 := HS5.out
            obtain ⟨gr', cg', hee, _, _, _, hcell, hfz⟩ := S6.row_form (i := 1) rfl hrd0
            cases hee
            have c1 : w12.cell? ⟨gr, gx, none⟩ = some (.int .i64 xr) := by rw [hcell gx (by omega), ints, List.getElem?_map, HXQ.out]; rfl
            have z1 := hfz gx
            have f0 := S6.blk_cell (i := 0) rfl 0
            have f1 := S6.blk_cell (i := 0) rfl 1
            have f2 := S6.blk_cell (i := 0) rfl 2
            have n1 : gb ≠ gr := S6.blk_neq (i := 0) (j := 1) rfl rfl (by decide)
            have n2 : gr ≠ gb := Ne.symm n1
            have S7 := S6.row_set (i := 1) rfl gx (.int .i64 (xr + (x2 : Int)))
            simp only [List.set_cons_zero, List.set_cons_succ] at S7
            have HS7 := Lib.hid S7
            clear hcell hfz S6 S7 HS5
            go_wp2_with fail
            clear c1 z1 f0 f1 f2 n1 n2
            have S7 := HS7.out
            obtain ⟨pL, LB, LE, hpL, e1, e2, hLB, hLE, hTL, hTU, hFL⟩ := later_all HOK.out HRN.out HHN.out hgl HXR.out (by omega) HOV.out
            rw [HTBE.out.1, HTBE.out.2] at hFL
            have HFL := Lib.hid hFL
            have HTL := Lib.hid hTL
            have HTU := Lib.hid hTU
            have HLBL := Lib.hid hLB
            have HLEL := Lib.hid hLE
            have HEp := HEa.out.later S7.bel
            have hrd : RdPace (w12.setCell ⟨gr, gx, none⟩ (.int .i64 (xr + (x2 : Int)))) (· < (w12.setCell ⟨gr, gx, none⟩ (.int .i64 (xr + (x2 : Int)))).heap.size) (.slice (some ⟨gr, 0, none⟩) dn cg) (.slice Am mn cm) (.slice Ah hn ch) pL := by
              subst hpL
              refine ⟨?_, HEp.rd.mi, HEp.rd.ho⟩
              show Rd _ _ 1 _ (p.rd.set gx (xr + (x2 : Int))).length ((p.rd.set gx (xr + (x2 : Int))).map (Value.int .i64))
              rw [List.length_set, HRN.out, List.map_set]
              exact (S7.row_rd (i := 1) rfl).now
            have HL : Hid (PEnv W (w12.setCell ⟨gr, gx, none⟩ (.int .i64 (xr + (x2 : Int)))) gb gb (.slice (some ⟨gr, 0, none⟩) dn cg) (.slice Am mn cm) (.slice Ah hn ch) pL) :=
              ⟨HEp.bel, ⟨S7.blk_cell (i := 0) rfl 0, S7.blk_cell (i := 0) rfl 1, S7.blk_cell (i := 0) rfl 2⟩, ⟨S7.blk_cell (i := 0) rfl 0, S7.blk_cell (i := 0) rfl 1, S7.blk_cell (i := 0) rfl 2⟩, hrd⟩
            have HE13 := Lib.hid HEp
            have HRB13 := Lib.hid (HRBa.out.later S7.bel)
            have HRE13 := Lib.hid (HREa.out.later S7.bel)
            clear HEp hrd S7 HS7 hFL hTL hTU hLB hLE hpL HEa HRBa HREa
            generalize w12.setCell ⟨gr, gx, none⟩ (.int .i64 (xr + (x2 : Int))) = w13 at *
            have HC := Lib.hid (begins_any w13 _ _ _ pL HL.out.rd)
            have HEN : Hid (∀ w, RdPace w (· < w.heap.size) (.slice (some ⟨gr, 0, none⟩) dn cg) (.slice Am mn cm) (.slice Ah hn ch) pL → Calls Tryz.prog 29 #[.agg #[.slice (some ⟨gr, 0, none⟩) dn cg, .slice Am mn cm, .slice Ah hn ch]] w (RetRows w (ends pL))) := fun w h => ends_any w _ _ _ pL h
            rw [e1] at HC
            rw [e2] at HEN
            clear e1 e2
            refine HC.out.mono ?_
            rintro e w14 ⟨v14, rfl, hb14, hr14⟩
            have HL14 := Lib.hid (HL.out.later hb14)
            have HE14 := Lib.hid (HE13.out.later hb14)
            have HRB14 := Lib.hid (HRB13.out.later hb14)
            have HRE14 := Lib.hid (HRE13.out.later hb14)
            have HRC14 := Lib.hid hr14
            clear HC HL HE13 HRB13 HRE13 hb14 hr14
            obtain ⟨p0, p1, p2⟩ := HL14.out.b1
            go_wp2_with fail
            clear p0 p1 p2
            refine (HEN.out w14 HL14.out.rd).mono ?_
            rintro e w15 ⟨v15, rfl, hb15, hr15⟩
            have HE15 := Lib.hid (HE14.out.later hb15)
            have HRB15 := Lib.hid (HRB14.out.later hb15)
            have HRE15 := Lib.hid (HRE14.out.later hb15)
            have HRC15 := Lib.hid (HRC14.out.later hb15)
            have HRU15 := Lib.hid hr15
            clear HEN HL14 HE14 HRB14 HRE14 HRC14 hb15 hr15
            obtain ⟨A14, c14, h14⟩ := rows_open HRC15.out
            obtain ⟨A15, c15, h15⟩ := rows_open HRU15.out
            try dsimp only at h14 h15 HRC15 HRU15
            rw [HLBL.out] at h14
            rw [HLEL.out] at h15
            subst h14 h15
            have HSB : Hid (∀ w, RdRows w (· < w.heap.size) (.slice A14 dn c14) LB → Calls Tryz.prog 37 #[.slice A14 dn c14, .agg #[.slice (some ⟨bX, oX, none⟩) dn cr, .slice Am mn cm, .slice Ah hn ch]] w fun e w' => e = .returned (.bool true) ∧ Below w.heap.size w w') :=
              fun w h => shaped_any w _ _ _ _ LB dn mn hn rfl rfl rfl h HLBL.out HTL.out (by omega) (by omega)
            have HSE : Hid (∀ w, RdRows w (· < w.heap.size) (.slice A15 dn c15) LE → Calls Tryz.prog 37 #[.slice A15 dn c15, .agg #[.slice (some ⟨bX, oX, none⟩) dn cr, .slice Am mn cm, .slice Ah hn ch]] w fun e w' => e = .returned (.bool true) ∧ Below w.heap.size w w') :=
              fun w h => shaped_any w _ _ _ _ LE dn mn hn rfl rfl rfl h HLEL.out HTU.out (by omega) (by omega)
            obtain ⟨p0, p1, p2⟩ := HE15.out.b2
            go_wp2_with fail
            clear p0 p1 p2
            refine (HSB.out w15 HRC15.out).mono ?_
            rintro e w16 ⟨rfl, hb16⟩
            have HE16 := Lib.hid (HE15.out.later hb16)
            have HRB16 := Lib.hid (HRB15.out.later hb16)
            have HRE16 := Lib.hid (HRE15.out.later hb16)
            have HRC16 := Lib.hid (HRC15.out.later hb16)
            have HRU16 := Lib.hid (HRU15.out.later hb16)
            clear HSB HE15 HRB15 HRE15 HRC15 HRU15 hb16
            obtain ⟨p0, p1, p2⟩ := HE16.out.b2
            go_wp2_with fail
            clear p0 p1 p2
            refine (HSE.out w16 HRU16.out).mono ?_
            rintro e w17 ⟨rfl, hb17⟩
            have HE17 := Lib.hid (HE16.out.later hb17)
            have HRB17 := Lib.hid (HRB16.out.later hb17)
            have HRE17 := Lib.hid (HRE16.out.later hb17)
            have HRC17 := Lib.hid (HRC16.out.later hb17)
            have HRU17 := Lib.hid (HRU16.out.later hb17)
            clear HSE HE16 HRB16 HRE16 HRC16 HRU16 hb17
            obtain ⟨b0, b1, b2⟩ := HE17.out.b1
            go_wp2_with fail
            go_loopw [24] (fun i w' => ∃ g q : Nat, g ≤ dn ∧ i = .int .i64 g ∧ w' = w17.drewN q) (fun i _ => dn - (intOf i).toNat)
            case atStart => exact ⟨0, 0, Nat.zero_le _, rfl, rfl⟩
            case round =>
              obtain ⟨i, q1_, hi', rfl, rfl⟩ := hrel
              have hd1 : Below w17.heap.size w17 (w17.drewN q1_) := below_drewN (Below.refl _ _) q1_
              have HEc := Lib.hid (HE17.out.later hd1)
              clear b0 b1 b2 hd1
              obtain ⟨b0, b1, b2⟩ := HEc.out.b1
              by_cases hi : i < dn
              · go_wp2_with fail
                go_loopw [25] (fun v w' => ∃ k q : Nat, k ≤ hn ∧ v = .int .i64 k ∧ w' = w17.drewN q) (fun v _ => hn - (intOf v).toNat)
                case atStart => exact ⟨0, q1_, Nat.zero_le _, rfl, rfl⟩
                case round =>
                  obtain ⟨k, q2_, hk', rfl, rfl⟩ := hrel
                  have hd2 : Below w17.heap.size w17 (w17.drewN q2_) := below_drewN (Below.refl _ _) q2_
                  have HE9 := Lib.hid (HE17.out.later hd2)
                  have HRB9 := Lib.hid (HRB17.out.later hd2)
                  have HRE9 := Lib.hid (HRE17.out.later hd2)
                  have HRC9 := Lib.hid (HRC17.out.later hd2)
                  have HRU9 := Lib.hid (HRU17.out.later hd2)
                  clear b0 b1 b2 hd2
                  obtain ⟨b0, b1, b2⟩ := HE9.out.b1
                  generalize hw9 : w17.drewN q2_ = w18 at *
                  have HW9 := Lib.hid hw9
                  clear hw9
                  by_cases hk : k < hn
                  · obtain ⟨bB, oB, bB2, oB2, cB2, hAB, r1, hB2, r2⟩ := tab_at HRB9.out HBL.out HTB.out.len hi hk
                    subst hAB
                    obtain ⟨bT, oT, bT2, oT2, cT2, hAT, u1, hT2, u2⟩ := tab_at HRE9.out HEL.out HTE.out.len hi hk
                    subst hAT
                    obtain ⟨bC, oC, bC2, oC2, cC2, hAC, s1, hC2, s2⟩ := tab_at HRC9.out HLBL.out HTL.out.len hi hk
                    subst hAC
                    obtain ⟨bU, oU, bU2, oU2, cU2, hAU, v1, hU2, v2⟩ := tab_at HRU9.out HLEL.out HTU.out.len hi hk
                    subst hAU
                    have hfb := HFL.out.b i k hi hk
                    have hfe := HFL.out.e i k hi hk
                    have q4 := HTB.out.at_ (by omega) i k
                    have q5 := HTE.out.at_ (by omega) i k
                    have q6 := HTL.out.at_ (by omega) i k
                    have q7 := HTU.out.at_ (by omega) i k
                    by_cases hig : i < gx
                    · as_aux_lemma =>
                        have hs := HFL.out.same i k hi hk hig
                        generalize at2 TB i k = bb at *
                        generalize at2 TE i k = ee at *
                        generalize at2 LB i k = cc at *
                        generalize at2 LE i k = uu at *
                        have tig : decide ((i : Int) < gx) = true := by simp; omega
                        have tig2 : decide (i < gx) = true := by simp; omega
                        subst hs
                        have t2 : decide (cc + (x2 : Int) < cc) = false := by simp; omega
                        have t3 : decide (uu < ee) = false := by simp; omega
                        have t4 : decide (ee + (x2 : Int) < uu) = false := by simp; omega
                        clear hfb hfe
                        go_wp2_with fail
                        refine wp_region_quiet_lit (by kernel_rfl) (Go.MemQ.lexB_seq 305 (by kernel_rfl) (by kernel_rfl)) ?_
                        try simp only [List.append_eq, List.cons_append, List.nil_append]
                        as_aux_lemma =>
                          iterate 18 (go_big_quiet_step ((fail)))
                          as_aux_lemma =>
                            iterate 18 (go_big_quiet_step ((fail)))
                            as_aux_lemma =>
                              iterate 18 (go_big_quiet_step ((fail)))
                              as_aux_lemma =>
                                iterate 18 (go_big_quiet_step ((fail)))
                                as_aux_lemma =>
                                  iterate 18 (go_big_quiet_step ((fail)))
                                  as_aux_lemma =>
                                    iterate 2 (go_big_quiet_step ((fail)))
                                    refine wpQuiet_nil ?_
                                    intro _ hw_
                                    obtain ⟨nq, hw_⟩ := hw_
                                    subst hw_
                                    as_aux_lemma =>
                                      go_wp2
                                      go_roundw
                                      case rel => exact ⟨k + 1, q2_ + nq, by omega, by go_num, by rw [← HW9.out]; first | rfl | exact World.drewN_drewN _ _ _⟩
                                      case measure => simp [intOf]; omega
                    · as_aux_lemma =>
                        generalize at2 TB i k = bb at *
                        generalize at2 TE i k = ee at *
                        generalize at2 LB i k = cc at *
                        generalize at2 LE i k = uu at *
                        have tig : decide ((i : Int) < gx) = false := by simp; omega
                        have tig2 : decide (i < gx) = false := by simp; omega
                        have t1 : decide (cc < bb) = false := by simp; omega
                        have t2 : decide (bb + (x2 : Int) < cc) = false := by simp; omega
                        have t3 : decide (uu < ee) = false := by simp; omega
                        have t4 : decide (ee + (x2 : Int) < uu) = false := by simp; omega
                        clear hfb hfe
                        go_wp2_with fail
                        refine wp_region_quiet_lit (by kernel_rfl) (Go.MemQ.lexB_seq 305 (by kernel_rfl) (by kernel_rfl)) ?_
                        try simp only [List.append_eq, List.cons_append, List.nil_append]
                        as_aux_lemma =>
                          iterate 18 (go_big_quiet_step ((fail)))
                          as_aux_lemma =>
                            iterate 18 (go_big_quiet_step ((fail)))
                            as_aux_lemma =>
                              iterate 18 (go_big_quiet_step ((fail)))
                              as_aux_lemma =>
                                iterate 18 (go_big_quiet_step ((fail)))
                                as_aux_lemma =>
                                  iterate 18 (go_big_quiet_step ((fail)))
                                  as_aux_lemma =>
                                    iterate 2 (go_big_quiet_step ((fail)))
                                    refine wpQuiet_nil ?_
                                    intro _ hw_
                                    obtain ⟨nq, hw_⟩ := hw_
                                    subst hw_
                                    as_aux_lemma =>
                                      go_wp2
                                      go_roundw
                                      case rel => exact ⟨k + 1, q2_ + nq, by omega, by go_num, by rw [← HW9.out]; first | rfl | exact World.drewN_drewN _ _ _⟩
                                      case measure => simp [intOf]; omega
                  · have hkn : decide ((k : Int) < hn) = false := by simp; omega
                    go_wp2
                    go_roundw
                    case rel => exact ⟨i + 1, q2_, by omega, by go_num, HW9.out.symm⟩
                    case measure => simp [intOf]; omega
              · have hin : decide ((i : Int) < dn) = false := by simp; omega
                have hin2 : decide (i < dn) = false := by simp; omega
                clear hi hi'
                go_wp2_with fail
                go_ret
                exact ⟨rfl, HEc.out.bel⟩
end Go.Proofs.YtjfhncnpmelopaaGreatDoor
