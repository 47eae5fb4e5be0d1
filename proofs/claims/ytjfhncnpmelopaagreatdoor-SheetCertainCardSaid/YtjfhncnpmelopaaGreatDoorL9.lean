/- What the reference's check says of an assignment that serves whom it must. Plain law. -/
import Derived.Test.YtjfhncnpmelopaaGreatDoorL91
import Derived.Test.YtjfhncnpmelopaaGreatDoorB10
import Derived.Test.YtjfhncnpmelopaaGreatDoorB16
import Derived.Test.YtjfhncnpmelopaaGreatDoorB23
set_option linter.unusedVariables false
set_option linter.unusedSimpArgs false
set_option linter.unusedSectionVars false
set_option linter.constructorNameAsVariable false
namespace Go.Sheet
theorem overAt_false : ∀ (ts : List Int) (l : List Slot), (∀ (k : Nat) t s, ts[k]? = some t → l[k]? = some s → t ≤ s.p) → overAt ts l = false
  | [], l, _ => by rw [overAt]; intros; contradiction
  | _ :: _, [], _ => by rw [overAt]; intros; contradiction
  | t :: ts, s :: l, h => by
    rw [overAt, overAt_false ts l fun k a b h1 h2 => h (k + 1) a b (by simpa using h1) (by simpa using h2)]
    have := h 0 t s rfl rfl
    have : decide (s.p < t) = false := by simp; omega
    rw [this]; rfl
theorem caSt_val : ∀ (rs : List RQ) (a : List Int) (v : Int) (u : List Int), a.length = rs.length → (∀ x ∈ rs, ∀ y ∈ x.ws, 0 ≤ y.s ∧ y.s < u.length) → (∀ (i : Nat) x s, rs[i]? = some x → a[i]? = some s → s = -1 ∨ hasWish x s = true) →
    (caSt (v, u) rs a).1 = v + worthA valQ rs a ∧ (caSt (v, u) rs a).2.length = u.length ∧ ∀ k, k < u.length → (caSt (v, u) rs a).2.getD k 0 = u.getD k 0 + cntI (k : Int) a
  | [], [], v, u, _, _, _ => by
    have e : caSt (v, u) [] [] = (v, u) := by rw [caSt]; intros; contradiction
    rw [e]
    exact ⟨by simp [worthA], rfl, fun k _ => by simp [cntI]⟩
  | x :: rs, [], v, u, h, _, _ => by simp at h
  | [], s :: a, v, u, h, _, _ => by simp at h
  | x :: rs, s :: a, v, u, hl, hw, hx => by
    have hw' : ∀ z ∈ rs, ∀ y ∈ z.ws, 0 ≤ y.s ∧ y.s < u.length := fun z hz => hw z (List.mem_cons_of_mem _ hz)
    have hx' : ∀ (i : Nat) z t, rs[i]? = some z → a[i]? = some t → t = -1 ∨ hasWish z t = true := fun i z t h1 h2 => hx (i + 1) z t (by simpa using h1) (by simpa using h2)
    have hl' : a.length = rs.length := by simpa using hl
    rw [caSt]
    by_cases h0 : s = -1
    · rw [if_pos h0]
      obtain ⟨h1, h2, h3⟩ := caSt_val rs a v u hl' hw' hx'
      refine ⟨?_, h2, fun k hk => ?_⟩
      · rw [h1, worthA]
        have : wsv valQ x s = 0 := by
          rw [wsv]
          cases hf : x.ws.find? fun y => y.s == s with
          | none => rfl
          | some y =>
            obtain ⟨hm, hs⟩ := find_mem hf
            have := (hw x (List.mem_cons_self ..) y hm).1
            omega
        omega
      · rw [h3 k hk, cntI, if_neg (by omega)]; omega
    · rw [if_neg h0]
      have hh : hasWish x s = true := (hx 0 x s rfl rfl).resolve_left h0
      rw [caUp_has hh]
      obtain ⟨y, hy⟩ := hasWish_some hh
      obtain ⟨hm, hs⟩ := find_mem hy
      have hsb := hw x (List.mem_cons_self ..) y hm
      rw [hs] at hsb
      obtain ⟨h1, h2, h3⟩ := caSt_val rs a (v + refW x s) (u.set s.toNat (u.getD s.toNat 0 + 1)) hl' (by simpa using hw') hx'
      refine ⟨?_, by rw [h2, List.length_set], fun k hk => ?_⟩
      · show (caSt (v + refW x s, u.set s.toNat (u.getD s.toNat 0 + 1)) rs a).1 = _
        rw [h1, worthA]
        have : wsv valQ x s = refW x s := by rw [wsv, refW, hy]; rfl
        omega
      · show (caSt (v + refW x s, u.set s.toNat (u.getD s.toNat 0 + 1)) rs a).2.getD k 0 = _
        rw [h3 k (by rw [List.length_set]; exact hk), getD_set, cntI]
        by_cases e : s.toNat = k
        · rw [if_pos ⟨e, by omega⟩, if_pos (by omega)]
          subst e; omega
        · rw [if_neg (fun h => e h.1), if_neg (by omega)]; omega
theorem ca_good {l : List Slot} {rs : List RQ} {a : List Int} (h : checkRequests l rs = 0) (ha : AOk l rs a) (hs : SureA rs a) : checkAssignment l rs a = (worthA valQ rs a, 0) := by
  have ok := okay_of h
  have hno : ∀ x ∈ rs, ¬ hasWish x (-1) = true := fun x hx hw => by
    obtain ⟨y, hy⟩ := hasWish_some hw
    obtain ⟨hm, he⟩ := find_mem hy
    have := (ok.wish x hx y hm).1
    omega
  have he : eachF (caAt rs) 0 a = 0 := (eachF_zero _ _ _).2 fun i s hi => by
    have hlt := (List.getElem?_eq_some_iff.1 hi).1
    have hil : i < rs.length := by have := ha.len; omega
    have hx : rs[i]? = some rs[i] := List.getElem?_eq_getElem hil
    have hm := List.getElem_mem hil
    have h1 := ha.wish i _ s hx hi
    have h2 := hs i _ s hx hi
    generalize rs[i] = x at *
    rw [Nat.zero_add, caAt, hx]
    show caE x s = 0
    by_cases h0 : s = -1
    · subst h0
      rw [caE_free]
      cases hg : x.g with
      | false => rfl
      | true => exact absurd (h2 hg) (hno x hm)
    · exact caE_some h0 (h1.resolve_left h0)
  obtain ⟨h1, h2, h3⟩ := caSt_val rs a 0 (List.replicate l.length 0) ha.len (fun x hx y hy => by rw [List.length_replicate]; exact (ok.wish x hx y hy).1) ha.wish
  rw [checkAssignment_end h ha.len he]
  have ho : overAt (caEnd l rs a).2 l = false := overAt_false _ _ fun k t s hk hsl => by
    have hkl : k < l.length := (List.getElem?_eq_some_iff.1 hsl).1
    have h4 := h3 k (by rw [List.length_replicate]; exact hkl)
    have h5 := ha.cap k s hsl
    rw [caEnd] at hk
    have h6 : (List.replicate l.length (0 : Int)).getD k 0 = 0 := by
      rw [List.getD_eq_getElem?_getD, List.getElem?_replicate]
      split <;> rfl
    rw [h6, List.getD_eq_getElem?_getD, hk, Option.getD_some] at h4
    omega
  rw [ho]
  show ((caEnd l rs a).1, (0 : Int)) = _
  rw [caEnd, h1, Int.zero_add]
end Go.Sheet
/- The law SheetBest, walked. -/
namespace Go.Proofs.YtjfhncnpmelopaaGreatDoor
open Go.RowKit Go.Mem Go.Sheet
set_option maxRecDepth 100000 in
set_option maxHeartbeats 0 in
theorem sheetBest_any (W : World) (vl : Value) (nl : Nat) (l : List Slot) (vr : Value) (n : Nat) (rs : List Req) (hl : Rd W (· < W.heap.size) 3 vl nl (l.flatMap Slot.cells)) (hrl : nl * 24 ≤ 140737488351232)
    (h : RdReqs W (· < W.heap.size) vr n rs) (hrr : n * 48 ≤ 140737488351232) (hrw : ∀ r ∈ rs, r.wn * 16 ≤ 140737488351232) :
    Calls Tryz.prog 3 #[vl, vr] W fun e w' => e = .returned (.bool true) ∧ Below W.heap.size W w' := by
  have HL := Lib.hid hl
  have HR := Lib.hid h
  have HRW := Lib.hid hrw
  generalize HRS : rs.map Req.rq = RS
  have HRS := Lib.hid HRS
  have HB1 : Hid (∀ w, Below W.heap.size W w → Calls Tryz.prog 16 #[vl, vr] w fun e w' => e = .returned (.tuple #[.int .i64 (best l RS).1, .int .i64 (best l RS).2]) ∧ Below w.heap.size w w') :=
    fun w hb => by have := best_any w _ _ nl n l rs (HL.out.later hb) (reqs_later HR.out hb); rw [HRS.out] at this; exact this
  have HM1 : Hid (∀ w, Below W.heap.size W w → Calls Tryz.prog 19 #[vl, vr] w fun e w' => e = .returned (.tuple #[.int .i64 (most l RS).1, .int .i64 (most l RS).2]) ∧ Below w.heap.size w w') :=
    fun w hb => by have := most_any w _ _ nl n l rs (HL.out.later hb) (reqs_later HR.out hb); rw [HRS.out] at this; exact this
  have HA1 : Hid (∀ w, Below W.heap.size W w → Calls Tryz.prog 17 #[vl, vr] w (RetInts w (assign l RS))) :=
    fun w hb => by have := assign_any w _ _ nl n l rs (HL.out.later hb) (reqs_later HR.out hb); rw [HRS.out] at this; exact this
  have HF1 : Hid (∀ w, Below W.heap.size W w → Calls Tryz.prog 18 #[vl, vr] w (RetInts w (firstF l RS))) :=
    fun w hb => by have := first_run w _ _ nl n l rs (HL.out.later hb) (reqs_later HR.out hb); rw [HRS.out] at this; exact this
  have HLI : Hid (∀ w, Below W.heap.size W w → Calls Tryz.prog 15 #[vl, vr] w fun e w' => IsB e ∧ Below w.heap.size w w') :=
    fun w hb => light_any w _ nl l _ n rs (HL.out.later hb) hrl (reqs_later HR.out hb) hrr HRW.out
  clear hl h hrw
  go_enter Tryz.func3, Tryz.ntmps3
  go_wp2_with fail
  refine (ownSlots_any _ _ nl l HL.out hrl).mono ?_
  rintro e w1 ⟨v1, rfl, S1⟩
  have HS1 := Lib.hid S1
  clear S1
  go_wp2_with fail
  refine (ownRequests_any w1 _ n rs (reqs_later HR.out HS1.out.bel) hrr HRW.out).mono ?_
  rintro e w2 ⟨v2, rs', rfl, he, hnm, S2⟩
  have HO : Hid (Own W w2 v1 v2 nl n l RS) := ⟨HS1.out.bel.trans (S2.bel.mono HS1.out.bel.size), (HS1.out.row_rd (i := 0) rfl).now.later S2.bel, rs', he.trans HRS.out, own_reqs S2 hnm⟩
  clear HS1 he hnm S2 HL HR HRW HRS
  go_wp2_with fail
  refine (awake_any w2).mono ?_
  rintro e w3 ⟨rfl, hb3⟩
  have HO3 := Lib.hid (HO.out.later hb3)
  clear HO hb3
  go_wp2_with fail
  refine (HLI.out w3 HO3.out.bel).mono ?_
  rintro e w4 ⟨⟨b, rfl⟩, hb4⟩
  have HO4 := Lib.hid (HO3.out.later hb4)
  clear HO3 hb4 HLI
  cases b with
  | false =>
    go_wp2_with fail
    refine (awake_any w4).mono ?_
    rintro e w5 ⟨rfl, hb5⟩
    have hbW := HO4.out.bel.trans (hb5.mono HO4.out.bel.size)
    go_wp2
    go_ret
    exact ⟨rfl, hbW⟩
  | true =>
    have HREF : Hid (checkRequests l RS = 0 → _) := best_ref (l := l) (rs := RS)
    have HMS : Hid (checkRequests l RS = 0 → most l RS = (mostM l RS, 0)) := fun h => by rw [most, if_neg (by simpa using h)]
    have HERR : Hid (checkRequests l RS ≠ 0 → best l RS = (0, checkRequests l RS) ∧ assign l RS = ([], checkRequests l RS) ∧ firstF l RS = ([], checkRequests l RS) ∧ most l RS = (0, checkRequests l RS)) :=
      fun h => ⟨by rw [best, if_pos h], by rw [assign, if_pos h], by rw [firstF, if_pos h], by rw [most, if_pos h]⟩
    have HSE0 : Hid (∀ w, Own W w v1 v2 nl n l RS → checkRequests l RS = 0 → Calls Tryz.prog 23 #[v1, v2, .bool false] w (RetFound w (searchF RS false [] RS (capL l) fnd0))) := fun w h h0 => h.search h0 false
    have HSE1 : Hid (∀ w, Own W w v1 v2 nl n l RS → checkRequests l RS = 0 → Calls Tryz.prog 23 #[v1, v2, .bool true] w (RetFound w (searchF RS true [] RS (capL l) fnd0))) := fun w h h0 => h.search h0 true
    have HCA : Hid (∀ w va na a, Own W w v1 v2 nl n l RS → checkRequests l RS = 0 → Rd w (· < w.heap.size) 1 va na (a.map (Value.int .i64)) → AOk l RS a → SureA RS a → Calls Tryz.prog 24 #[v1, v2, va] w fun e w' => e = .returned (.tuple #[.int .i64 (worthA valQ RS a), .int .i64 0]) ∧ Below w.heap.size w w') :=
      fun w va na a h h0 ha h1 h2 => by have := h.assignment ha h0; rw [ca_good h0 h1 h2] at this; exact this
    generalize best l RS = b1 at *
    generalize most l RS = m1 at *
    generalize assign l RS = asg at *
    generalize firstF l RS = fs at *
    generalize mostM l RS = mm at *
    generalize searchF RS false [] RS (capL l) fnd0 = F0 at *
    generalize searchF RS true [] RS (capL l) fnd0 = F1 at *
    obtain ⟨b11, b12⟩ := b1
    obtain ⟨m11, m12⟩ := m1
    obtain ⟨ag1, ag2⟩ := asg
    obtain ⟨fs1, fs2⟩ := fs
    dsimp only at *
    go_wp2_with fail
    refine (HB1.out w4 HO4.out.bel).mono ?_
    rintro e w5 ⟨rfl, hb5⟩
    have HO5 := Lib.hid (HO4.out.later hb5)
    clear HO4 hb5 HB1
    go_wp2_with fail
    refine (HA1.out w5 HO5.out.bel).mono ?_
    rintro e w6 ⟨va, rfl, S6⟩
    have HO6 := Lib.hid (HO5.out.later S6.bel)
    have HV6 := Lib.hid (S6.row_rd (i := 0) rfl).now
    clear HO5 S6 HA1
    go_wp2_with fail
    refine (HF1.out w6 HO6.out.bel).mono ?_
    rintro e w7 ⟨vf, rfl, S7⟩
    have HO7 := Lib.hid (HO6.out.later S7.bel)
    have HV7 := Lib.hid (HV6.out.later S7.bel)
    have HG7 := Lib.hid (S7.row_rd (i := 0) rfl).now
    clear HO6 HV6 S7 HF1
    go_wp2_with fail
    refine (HM1.out w7 HO7.out.bel).mono ?_
    rintro e w8 ⟨rfl, hb8⟩
    have HO8 := Lib.hid (HO7.out.later hb8)
    have HV8 := Lib.hid (HV7.out.later hb8)
    have HG8 := Lib.hid (HG7.out.later hb8)
    clear HO7 HV7 HG7 hb8 HM1
    have HC := Lib.hid HO8.out.check
    generalize hE0 : checkRequests l RS = E at *
    have HE0 := Lib.hid hE0
    clear hE0
    go_wp2_with fail
    refine HC.out.mono ?_
    rintro e w9 ⟨rfl, hb9⟩
    have HO9 := Lib.hid (HO8.out.later hb9)
    have HV9 := Lib.hid (HV8.out.later hb9)
    have HG9 := Lib.hid (HG8.out.later hb9)
    clear HO8 HV8 HG8 hb9 HC
    by_cases hE : E = 0
    case neg =>
      have hE' : (E != 0) = true := by simpa using hE
      obtain ⟨e1, e2, e3, e4⟩ := HERR.out hE
      injection e1 with e11 e12
      injection e2 with e21 e22
      injection e3 with e31 e32
      injection e4 with e41 e42
      subst e11 e21 e31 e41
      have H1 := Lib.hid e12
      have H2 := Lib.hid e22
      have H3 := Lib.hid e32
      have H4 := Lib.hid e42
      clear HREF HERR HSE0 HSE1 HCA HMS e12 e22 e32 e42
      have HI1 := Lib.hid (integer_yes (n := 0) (e := b12) (bad := E) (want := 0) (fun _ => ⟨rfl, H1.out⟩) (fun h => absurd h hE))
      have HI4 := Lib.hid (integer_yes (n := 0) (e := m12) (bad := E) (want := 0) (fun _ => ⟨rfl, H4.out⟩) (fun h => absurd h hE))
      have HT2 := Lib.hid (list_yes (l := ([] : List Int)) (e := ag2) (bad := E) (want := []) (fun _ => ⟨rfl, H2.out⟩) (fun h => absurd h hE))
      have HT3 := Lib.hid (list_yes (l := ([] : List Int)) (e := fs2) (bad := E) (want := []) (fun _ => ⟨rfl, H3.out⟩) (fun h => absurd h hE))
      clear hE
      go_wp2_with fail
      refine (integer_any _ _ _ _ _).mono ?_
      rw [HI1.out]
      rintro e w' ⟨rfl, rfl⟩
      have HC1 := Lib.hid (list_any w9 _ _ _ _ [] [] ag2 E HV9.out (Rd.nil w9 (fun _ => True) 1))
      rw [HT2.out] at HC1
      go_wp2_with fail
      refine HC1.out.mono ?_
      rintro e w10 ⟨rfl, ⟨q1, rfl⟩⟩
      have hd1 : Below w9.heap.size w9 (w9.drewN q1) := below_drewN (Below.refl _ _) q1
      have HO10 := Lib.hid (HO9.out.later hd1)
      have HC2 := Lib.hid (list_any (w9.drewN q1) _ _ _ _ [] [] fs2 E (HG9.out.later hd1) (Rd.nil (w9.drewN q1) (fun _ => True) 1))
      rw [HT3.out] at HC2
      clear HO9 HC1 HV9 HG9 hd1
      generalize w9.drewN q1 = w10 at *
      go_wp2_with fail
      refine HC2.out.mono ?_
      rintro e w11 ⟨rfl, ⟨q2, rfl⟩⟩
      have hbW := HO10.out.bel.trans (below_drewN (Below.refl _ _) q2 |>.mono HO10.out.bel.size)
      clear HO10 HC2
      generalize w10.drewN q2 = w11 at *
      go_wp2_with fail
      refine (integer_any _ _ _ _ _).mono ?_
      rw [HI4.out]
      rintro e w' ⟨rfl, rfl⟩
      go_wp2
      go_ret
      exact ⟨rfl, hbW⟩
    case pos =>
      subst hE
      obtain ⟨r1, r2, r3⟩ := HREF.out rfl
      have e4 := HMS.out rfl
      injection e4 with e41 e42
      subst e41 e42
      have HI4 := Lib.hid (integer_yes (n := m11) (e := 0) (bad := 0) (want := F0.most) (fun h => absurd rfl h) (fun _ => ⟨rfl, r1⟩))
      have HR2 := Lib.hid r2
      have HR3 := Lib.hid r3
      clear HREF HERR HMS r1 r2 r3
      go_wp2_with fail
      refine (HSE0.out w9 HO9.out (by first | exact HE0.out | trivial)).mono ?_
      rintro e w10 ⟨vf0, rfl, hb10, hf10⟩
      obtain ⟨A10, c10, rfl, -, -, -⟩ := hf10.open_
      clear hf10
      have HO10 := Lib.hid (HO9.out.later hb10)
      have HV10 := Lib.hid (HV9.out.later hb10)
      have HG10 := Lib.hid (HG9.out.later hb10)
      clear HO9 HV9 HG9 hb10
      obtain ⟨p1, p2, p3, p4⟩ := F0
      dsimp only at HI4
      dsimp only [fndV]
      have hfd : ∀ w : World, (Instr.field 40 (.agg #[.bool p1, .int .i64 p2, .slice A10 p3.length c10, .int .i64 p4]) 3).run Tryz.prog w = .ok (.int .i64 p4) w := fun _ => by kernel_rfl
      go_wp2_with fail
      refine (integer_any _ _ _ _ _).mono ?_
      rw [HI4.out]
      rintro e w' ⟨rfl, rfl⟩
      go_wp2_with fail
      refine (HSE1.out w10 HO10.out (by first | exact HE0.out | trivial)).mono ?_
      rintro e w11 ⟨vf1, rfl, hb11, hf11⟩
      obtain ⟨A11, c11, rfl, -, -, -⟩ := hf11.open_
      have HO11 := Lib.hid (HO10.out.later hb11)
      have HV11 := Lib.hid (HV10.out.later hb11)
      have HG11 := Lib.hid (HG10.out.later hb11)
      have HF11 := Lib.hid hf11
      clear HO10 HV10 HG10 hb11 hf11 HSE0 HSE1
      obtain ⟨fis, fva, ffi, fmo⟩ := F1
      dsimp only at *
      dsimp only [fndV]
      have hbA := (Below.refl w11.heap.size w11).alloc (Nat.le_refl _) (.cells #[.bool fis, .int .i64 fva, .slice A11 ffi.length c11, .int .i64 fmo] 40)
      have HO12 := Lib.hid (HO11.out.later hbA)
      have HV12 := Lib.hid (HV11.out.later hbA)
      have HG12 := Lib.hid (HG11.out.later hbA)
      have HF12 := Lib.hid (HF11.out.later hbA)
      have k0 : (w11.alloc (.cells #[.bool fis, .int .i64 fva, .slice A11 ffi.length c11, .int .i64 fmo] 40)).cell? ⟨w11.heap.size, 0, none⟩ = some (.bool fis) := by simp
      have k1 : (w11.alloc (.cells #[.bool fis, .int .i64 fva, .slice A11 ffi.length c11, .int .i64 fmo] 40)).cell? ⟨w11.heap.size, 1, none⟩ = some (.int .i64 fva) := by simp
      have k2 : (w11.alloc (.cells #[.bool fis, .int .i64 fva, .slice A11 ffi.length c11, .int .i64 fmo] 40)).cell? ⟨w11.heap.size, 2, none⟩ = some (.slice A11 ffi.length c11) := by simp
      clear HO11 HV11 HG11 HF11 hbA
      cases fis with
      | false =>
        obtain ⟨e1, e2, e3⟩ := HR2.out rfl
        injection e1 with e11 e12
        injection e2 with e21 e22
        injection e3 with e31 e32
        subst e11 e12 e21 e22 e31 e32
        clear HR2 HR3 HCA
        go_wp2_with fail
        generalize w11.alloc (.cells #[.bool false, .int .i64 fva, .slice A11 ffi.length c11, .int .i64 fmo] 40) = w12 at *
        have HI1 : Hid (intOk 0 23 23 0 = true) := rfl
        have HT2 : Hid (listOk [] 23 23 [] = true) := rfl
        refine (integer_any _ _ _ _ _).mono ?_
        rw [HI1.out]
        rintro e w' ⟨rfl, rfl⟩
        have HC1 := Lib.hid (list_any w12 _ _ _ _ [] [] 23 23 HV12.out (Rd.nil w12 (fun _ => True) 1))
        rw [HT2.out] at HC1
        go_wp2_with fail
        refine HC1.out.mono ?_
        rintro e w13 ⟨rfl, ⟨q1, rfl⟩⟩
        have hd1 : Below w12.heap.size w12 (w12.drewN q1) := below_drewN (Below.refl _ _) q1
        have HO13 := Lib.hid (HO12.out.later hd1)
        have HC2 := Lib.hid (list_any (w12.drewN q1) _ _ _ _ [] [] 23 23 (HG12.out.later hd1) (Rd.nil (w12.drewN q1) (fun _ => True) 1))
        rw [HT2.out] at HC2
        clear HO12 HC1 HV12 HG12 HF12 hd1 k0 k1 k2
        generalize w12.drewN q1 = w13 at *
        go_wp2_with fail
        refine HC2.out.mono ?_
        rintro e w14 ⟨rfl, ⟨q2, rfl⟩⟩
        have hbW := HO13.out.bel.trans (below_drewN (Below.refl _ _) q2 |>.mono HO13.out.bel.size)
        clear HO13 HC2
        generalize w13.drewN q2 = w14 at *
        go_wp2
        go_ret
        exact ⟨rfl, hbW⟩
      | true =>
        obtain ⟨e1, ⟨a, e2, ha1, ha2, ha3⟩, e3⟩ := HR3.out rfl
        injection e1 with e11 e12
        injection e2 with e21 e22
        injection e3 with e31 e32
        subst e11 e12 e21 e22 e31 e32
        have HW3 := Lib.hid ha3
        clear HR2 HR3
        go_wp2_with fail
        generalize w11.alloc (.cells #[.bool true, .int .i64 b11, .slice A11 fs1.length c11, .int .i64 fmo] 40) = w12 at *
        refine (HCA.out w12 _ _ _ HO12.out (by first | exact HE0.out | trivial) HV12.out ha1 ha2).mono ?_
        rw [HW3.out]
        rintro e w13 ⟨rfl, hb13⟩
        have HO13 := Lib.hid (HO12.out.later hb13)
        have HG13 := Lib.hid (HG12.out.later hb13)
        have HF13 := Lib.hid (HF12.out.later hb13)
        have g0 := World.block_lt_of_cell? _ _ k0
        have j1 := (hb13.cell (p := ⟨w11.heap.size, 1, none⟩) g0).trans k1
        have j2 := (hb13.cell (p := ⟨w11.heap.size, 2, none⟩) g0).trans k2
        clear HO12 HV12 HG12 HF12 hb13 k0 k1 k2 HCA HW3 ha1 ha2 ha3 g0
        have HI1 := Lib.hid (integer_yes (n := b11) (e := 0) (bad := 0) (want := b11) (fun h => absurd rfl h) (fun _ => ⟨rfl, rfl⟩))
        have HT2 := Lib.hid (list_yes (l := fs1) (e := 0) (bad := 0) (want := fs1) (fun h => absurd rfl h) (fun _ => ⟨rfl, rfl⟩))
        go_wp2_with fail
        refine (integer_any _ _ _ _ _).mono ?_
        rw [HI1.out]
        rintro e w' ⟨rfl, rfl⟩
        have HC1 := Lib.hid (list_any w13 _ _ _ _ fs1 fs1 0 0 HG13.out HF13.out)
        rw [HT2.out] at HC1
        go_wp2_with fail
        refine HC1.out.mono ?_
        rintro e w14 ⟨rfl, ⟨q2, rfl⟩⟩
        have hbW := HO13.out.bel.trans (below_drewN (Below.refl _ _) q2 |>.mono HO13.out.bel.size)
        clear HO13 HC1 HG13 HF13 j1 j2
        generalize w13.drewN q2 = w14 at *
        go_wp2
        go_ret
        exact ⟨rfl, hbW⟩
end Go.Proofs.YtjfhncnpmelopaaGreatDoor
