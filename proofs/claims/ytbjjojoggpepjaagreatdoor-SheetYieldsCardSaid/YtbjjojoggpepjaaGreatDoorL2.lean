/- What a withdrawal changes. -/
import Derived.Test.YtbjjojoggpepjaaGreatDoorB10
import Derived.Test.YtbjjojoggpepjaaGreatDoorB04
import Derived.Test.YtbjjojoggpepjaaGreatDoorB11
import Derived.Test.YtbjjojoggpepjaaGreatDoorB23
set_option linter.unusedVariables false
set_option linter.unusedSimpArgs false
set_option linter.unusedSectionVars false
set_option linter.constructorNameAsVariable false
namespace Go.Sheet
/-- the reference's choice: the first other one that is free behind the withdrawal and wishes -/
theorem wdK_none {i : Nat} {slot : Int} : ∀ (rs : List RQ) (a : List Int) (k : Nat), rs.length = a.length → wdK i slot k rs a = none → ∀ j x s, rs[j]? = some x → a[j]? = some s → ¬ (k + j ≠ i ∧ s < 0 ∧ hasWish x slot = true) := by
  intro rs
  induction rs with
  | nil => intro a k _ _ j x s hx; simp at hx
  | cons r rs ih =>
    intro a k hl h j x s hx hs
    cases a with
    | nil => simp at hl
    | cons t a =>
      rw [wdK] at h
      split at h
      · cases h
      · rename_i hn
        cases j with
        | zero => simp at hx hs; subst hx hs; simpa using hn
        | succ j =>
          have := ih a (k + 1) (by simpa using hl) h j x s (by simpa using hx) (by simpa using hs)
          rwa [show k + 1 + j = k + (j + 1) by omega] at this
theorem wdK_some {i : Nat} {slot : Int} : ∀ (rs : List RQ) (a : List Int) (k q : Nat), rs.length = a.length → wdK i slot k rs a = some q → k ≤ q ∧ (∃ x s, rs[q - k]? = some x ∧ a[q - k]? = some s ∧ q ≠ i ∧ s < 0 ∧ hasWish x slot = true) ∧
    ∀ j x s, k + j < q → rs[j]? = some x → a[j]? = some s → ¬ (k + j ≠ i ∧ s < 0 ∧ hasWish x slot = true) := by
  intro rs
  induction rs with
  | nil => intro a k q hl h; cases a <;> (rw [wdK] at h; try cases h) <;> (intros; contradiction)
  | cons r rs ih =>
    intro a k q hl h
    cases a with
    | nil => simp at hl
    | cons t a =>
      rw [wdK] at h
      split at h
      · rename_i hy
        cases h
        refine ⟨Nat.le_refl _, ⟨r, t, by simp, by simp, hy⟩, fun j x s hj => by omega⟩
      · rename_i hn
        obtain ⟨h1, ⟨x, s, hx, hs, h2⟩, h3⟩ := ih a (k + 1) q (by simpa using hl) h
        refine ⟨by omega, ⟨x, s, ?_, ?_, h2⟩, fun j y u hj hy hu => ?_⟩
        · rw [show q - k = (q - (k + 1)) + 1 by omega]; simpa using hx
        · rw [show q - k = (q - (k + 1)) + 1 by omega]; simpa using hs
        · cases j with
          | zero => simp at hy hu; subst hy hu; simpa using hn
          | succ j =>
            have := h3 j y u (by omega) (by simpa using hy) (by simpa using hu)
            rwa [show k + 1 + j = k + (j + 1) by omega] at this
theorem wdOut_len (rs : List RQ) (a : List Int) (i : Nat) (s : Int) : (wdOut rs a i s).length = a.length := by
  rw [wdOut]; split <;> simp
/-- entries of an assignment without an error -/
theorem ca_entry {rs : List RQ} {a : List Int} (h : eachF (caAt rs) 0 a = 0) {k : Nat} {x : RQ} {s : Int} (hx : rs[k]? = some x) (hs : a[k]? = some s) : (s = -1 ∧ x.g = false) ∨ (s ≠ -1 ∧ hasWish x s = true) := by
  have := (eachF_zero _ _ _).1 h k s hs
  rw [Nat.zero_add, caAt, hx] at this
  change caE x s = 0 at this
  by_cases h0 : s = -1
  · left
    subst h0
    rw [caE_free, whenE_zero _ _ (by decide)] at this
    exact ⟨rfl, this⟩
  · right
    refine ⟨h0, ?_⟩
    cases hw : hasWish x s with
    | true => rfl
    | false => rw [caE_none h0 hw] at this; cases this
theorem ca_neg {l : List Slot} {rs : List RQ} (ok : Okay l rs) {a : List Int} (h : eachF (caAt rs) 0 a = 0) {k : Nat} {x : RQ} {s : Int} (hx : rs[k]? = some x) (hs : a[k]? = some s) : s < 0 ↔ s = -1 := by
  rcases ca_entry h hx hs with ⟨h1, _⟩ | ⟨h1, h2⟩
  · omega
  · rcases refW_cases ok (List.mem_of_getElem? hx) s with ⟨_, _, _, h3, _⟩ | ⟨h3, _⟩
    · omega
    · rw [h3] at h2; cases h2
end Go.Sheet
/- Walk of the reference's Withdraw. -/
namespace Go.Proofs.YtbjjojoggpepjaaGreatDoor
open Go.RowKit Go.Mem Go.Sheet
set_option maxRecDepth 100000 in
set_option maxHeartbeats 4000000 in
theorem refWithdraw_any (W : World) (vr va : Value) (n na i : Nat) (s : Int) (l : List Slot) (rs : List Req) (a : List Int) (h : RdReqs W (· < W.heap.size) vr n rs) (ha : Rd W (· < W.heap.size) 1 va na (a.map (Value.int .i64))) (ok : Okay l (rs.map Req.rq)) (hnn : na = n) (hi : i < n) (hs : a[i]? = some s) :
    Calls Tryz.prog 25 #[vr, va, .int .i64 i] W fun e w' => ∃ v', e = .returned v' ∧ St W w' [row 3 1 v' n ((wdOut (rs.map Req.rq) a i s).map (Value.int .i64))] := by
  subst hnn
  have hn := h.1.count (f := Req.cells) (size := 3) (fun _ => rfl) (by decide)
  have hna := ha.count1
  have hn24 : na ≤ 24 := by rw [hn]; have := ok.nr; simpa using this
  have HOK := Lib.hid ok
  have HH := Lib.hid h
  have HA := Lib.hid ha
  have HN := Lib.hid hn
  have HNA := Lib.hid hna
  have HS := Lib.hid hs
  obtain ⟨A, c, rfl, _, _, _⟩ := h.1.open_
  obtain ⟨Aa, ca, rfl, _, _, _⟩ := ha.open_
  have S0 := (St.refl W).row_new (e := 3) (size := 1) (n := 0) #[] (by unfold maxLen; omega) rfl
  simp only [List.nil_append] at S0
  have hb0 := (Below.refl W.heap.size W).alloc (Nat.le_refl _) (.cells #[] 3)
  have ha1 := ha.later hb0
  clear h ha hn hna ok hs
  go_enter Tryz.func25, Tryz.ntmps25
  go_wp2_with (first
    | (at_builtin
       refine wpList_append_st eltI rfl _ _ rfl rfl S0 (k := 0) rfl rfl ha1 (ints_one _ _) (by omega) (by omega) ?_
       intro v' w2 S2 _
       obtain ⟨A2, cq, rfl, _, _, _⟩ := (S2.row_rd (i := 0) rfl).open_
       obtain ⟨g2, c2', hv, _, _, _, hcc, hfr⟩ := S2.row_form (i := 0) rfl (by omega)
       cases hv
       have k0 := hcc i (by omega)
       have f0 := hfr i
       obtain ⟨u0, hu0⟩ : ∃ u, ([] ++ a.map (Value.int .i64))[i]? = some u := ⟨_, List.getElem?_eq_getElem (by simp; have := HNA.out; omega)⟩
       rw [hu0] at k0
       have S3 := S2.row_set (i := 0) rfl i (.int .i64 (-1))
       clear hcc hfr))
  have S4 : St W (w2.setCell ⟨g2, i, none⟩ (.int .i64 (-1))) [row 3 1 (.slice (some ⟨g2, 0, none⟩) (0 + na) cq) na ((a.set i (-1)).map (Value.int .i64))] := by
    have := S3
    simp only [List.nil_append, List.set_cons_zero, Nat.zero_add] at this
    rw [List.map_set]
    simpa only [Nat.zero_add] using this
  clear S3 S2 k0 f0 hu0 hb0 S0 ha1
  generalize w2.setCell ⟨g2, i, none⟩ (.int .i64 (-1)) = w5 at *
  simp only [Nat.zero_add] at S4 ⊢
  go_loopw [8] (fun j w' => ∃ k : Nat, k ≤ na ∧ j = .int .i64 k ∧ Hid (wdK i s k ((rs.map Req.rq).drop k) (a.drop k) = wdK i s 0 (rs.map Req.rq) a) ∧ St W w' [row 3 1 (.slice (some ⟨g2, 0, none⟩) na cq) na ((a.set i (-1)).map (Value.int .i64))]) (fun j _ => na - (intOf j).toNat)
  case atStart => exact ⟨0, Nat.zero_le _, rfl, rfl, S4⟩
  case round =>
    obtain ⟨k, hk, rfl, he, S⟩ := hrel
    clear S4
    by_cases hlt : k < na
    · obtain ⟨b, o, s', rfl, hs', hc⟩ := (HA.out.below S.bel).int (k := i) (by omega)
      cases Option.some.inj (hs'.symm.trans HS.out)
      obtain ⟨b2, o2, x, rfl, hx, c0, c1, c2⟩ := (HH.out.1.below S.bel).elem3 (k := k) (fun s : Req => .string s.name) (fun s : Req => .bool s.g) (fun s : Req => .slice s.wa s.wn s.wc) (fun _ => rfl) hlt
      have hxm := List.mem_of_getElem? hx
      have HX : Hid ((rs.map Req.rq)[k]? = some x.rq) := by
        show _ = _
        rw [List.getElem?_map, hx]; rfl
      obtain ⟨t, ht⟩ : ∃ t, a[k]? = some t := ⟨_, List.getElem?_eq_getElem (by have := HNA.out; omega)⟩
      have HT := Lib.hid ht
      have HWR := Lib.hid ((HH.out.2 x hxm).1.later S.bel)
      have HW := Lib.hid (refW_cases HOK.out (List.mem_map_of_mem hxm) s)
      obtain ⟨name, gg, wa, wn, wc, ws⟩ := x
      simp only at c0 c1 c2
      obtain ⟨u, hu⟩ : ∃ u, (a.set i (-1))[k]? = some u := ⟨_, List.getElem?_eq_getElem (by rw [List.length_set]; have := HNA.out; omega)⟩
      have HU : Hid (k ≠ i → u = t) := fun h => by
        rw [List.getElem?_set_ne (by omega), ht] at hu
        exact (Option.some.inj hu).symm
      obtain ⟨b9, o9, u', hA9, hu', k0⟩ := (S.row_rd (i := 0) rfl).int hlt
      cases hA9
      cases Option.some.inj (hu'.symm.trans hu)
      simp only [Nat.zero_add] at k0
      have HCW0 := Lib.hid (fun (w' : World) (hb : Below wr.heap.size wr w') => refWeight_any w' ⟨name, gg, wa, wn, wc, ws⟩ s (HWR.out.later hb))
      generalize refW (Req.rq ⟨name, gg, wa, wn, wc, ws⟩) s = R at *
      have hblk := World.block_lt_of_cell? wr _ hc
      have hblk2 := World.block_lt_of_cell? wr _ c0
      have hblk3 := World.block_lt_of_cell? wr _ k0
      clear hs' hx hxm ht hu hu' HWR
      by_cases hki : k = i
      · have hki' : ((k : Int) != (i : Int)) = false := by simp; omega
        have HN2 := Lib.hid (wdK_go HX.out HT.out (by rintro ⟨h, _⟩; exact h hki) he.out)
        clear he hki
        go_wp2_with fail
        refine wp_cls 21 (fun w' => Below wr.heap.size wr w') (by kernel_rfl) (by kernel_rfl) (Below.refl _ _).drew ?_
        simp only [List.take_succ_cons, List.take_zero, List.drop_succ_cons, List.drop_zero]
        generalize hK : (fun w' => Below wr.heap.size wr w') = K
        intro hne
        have kb : ∀ z : Wd K, Below wr.heap.size wr z.w := by subst hK; exact fun z => z.h
        have hK3 : ∀ w w' : World, K w → Below w.heap.size w w' → K w' := by subst hK; exact fun w w' h h' => h.trans (h'.mono h.size)
        have y0 : ∀ z : Wd K, z.w.cell? ⟨b2, o2 + k * 3, none⟩ = some (.string name) := fun z => ((kb z).cell (p := ⟨b2, o2 + k * 3, none⟩) hblk2).trans c0
        have y1 : ∀ z : Wd K, z.w.cell? ⟨b2, o2 + k * 3 + 1, none⟩ = some (.bool gg) := fun z => ((kb z).cell (p := ⟨b2, o2 + k * 3 + 1, none⟩) hblk2).trans c1
        have y2 : ∀ z : Wd K, z.w.cell? ⟨b2, o2 + k * 3 + 2, none⟩ = some (.slice wa wn wc) := fun z => ((kb z).cell (p := ⟨b2, o2 + k * 3 + 2, none⟩) hblk2).trans c2
        have y3 : ∀ z : Wd K, z.w.cell? ⟨b, o + i, none⟩ = some (.int .i64 s) := fun z => ((kb z).cell (p := ⟨b, o + i, none⟩) hblk).trans hc
        have y4 : ∀ z : Wd K, z.w.cell? ⟨g2, k, none⟩ = some (.int .i64 u) := fun z => ((kb z).cell (p := ⟨g2, k, none⟩) hblk3).trans k0
        have HCW : Hid (∀ z : Wd K, Calls Tryz.prog 27 #[.agg #[.string name, .bool gg, .slice wa wn wc], .int .i64 s] z.w fun e w' => e = .returned (.int .i64 R) ∧ ∃ u : Wd K, w' = u.w) := fun z => cls_below hK3 (HCW0.out _ (kb z))
        clear hK hK3 HCW0 c0 c1 c2 hc k0
        repeat (go_big_quiet_step ((go_at_call 27; exact HCW.out _)))
        refine wpQuiet_nil ?_
        intro z
        have hb := kb z
        have S2 := S.ext hb
        have x3 := y3 z
        have x4 := y4 z
        clear kb y0 y1 y2 y3 y4 hne HCW S
        generalize z.w = w9 at *
        have HS2 := Lib.hid S2
        clear S2
        go_wp2
        go_roundw
        case rel => exact ⟨k + 1, by omega, by go_num, HN2.out, HS2.out⟩
        case measure => simp [intOf]; omega
      · have hki' : ((k : Int) != (i : Int)) = true := by simp; omega
        have hut := HU.out hki
        subst hut
        by_cases hu0 : u < 0
        · have hu0' : decide (u < 0) = true := by simpa using hu0
          rcases HW.out with ⟨hw, w1, w2, s0, s1⟩ | ⟨hw, w1⟩
          · have HN2 := Lib.hid (wdK_stop HX.out HT.out ⟨hki, hu0, hw⟩ he.out)
            have hR : decide (0 < R) = true := by simp; omega
            clear he hki hw
            go_wp2_with fail
            refine wp_cls 21 (fun w' => Below wr.heap.size wr w') (by kernel_rfl) (by kernel_rfl) (Below.refl _ _).drew ?_
            simp only [List.take_succ_cons, List.take_zero, List.drop_succ_cons, List.drop_zero]
            generalize hK : (fun w' => Below wr.heap.size wr w') = K
            intro hne
            have kb : ∀ z : Wd K, Below wr.heap.size wr z.w := by subst hK; exact fun z => z.h
            have hK3 : ∀ w w' : World, K w → Below w.heap.size w w' → K w' := by subst hK; exact fun w w' h h' => h.trans (h'.mono h.size)
            have y0 : ∀ z : Wd K, z.w.cell? ⟨b2, o2 + k * 3, none⟩ = some (.string name) := fun z => ((kb z).cell (p := ⟨b2, o2 + k * 3, none⟩) hblk2).trans c0
            have y1 : ∀ z : Wd K, z.w.cell? ⟨b2, o2 + k * 3 + 1, none⟩ = some (.bool gg) := fun z => ((kb z).cell (p := ⟨b2, o2 + k * 3 + 1, none⟩) hblk2).trans c1
            have y2 : ∀ z : Wd K, z.w.cell? ⟨b2, o2 + k * 3 + 2, none⟩ = some (.slice wa wn wc) := fun z => ((kb z).cell (p := ⟨b2, o2 + k * 3 + 2, none⟩) hblk2).trans c2
            have y3 : ∀ z : Wd K, z.w.cell? ⟨b, o + i, none⟩ = some (.int .i64 s) := fun z => ((kb z).cell (p := ⟨b, o + i, none⟩) hblk).trans hc
            have y4 : ∀ z : Wd K, z.w.cell? ⟨g2, k, none⟩ = some (.int .i64 u) := fun z => ((kb z).cell (p := ⟨g2, k, none⟩) hblk3).trans k0
            have HCW : Hid (∀ z : Wd K, Calls Tryz.prog 27 #[.agg #[.string name, .bool gg, .slice wa wn wc], .int .i64 s] z.w fun e w' => e = .returned (.int .i64 R) ∧ ∃ u : Wd K, w' = u.w) := fun z => cls_below hK3 (HCW0.out _ (kb z))
            clear hK hK3 HCW0 c0 c1 c2 hc k0
            repeat (go_big_quiet_step ((go_at_call 27; exact HCW.out _)))
            refine wpQuiet_nil ?_
            intro z
            have hb := kb z
            have S2 := S.ext hb
            have x3 := y3 z
            have x4 := y4 z
            clear kb y0 y1 y2 y3 y4 hne HCW S
            generalize z.w = w9 at *
            obtain ⟨g', c', hv, _, _, _, hcc, hfr⟩ := S2.row_form (i := 0) rfl (by omega)
            cases hv
            have f0 := hfr k
            have S3 := S2.row_set (i := 0) rfl k (.int .i64 s)
            have HS3 := Lib.hid S3
            clear S3 S2 hcc hfr hb
            go_wp2
            go_ret
            refine ⟨.slice (some ⟨g2, 0, none⟩) na cq, rfl, ?_⟩
            have := HS3.out
            rw [wdOut, HN2.out]
            dsimp only
            rw [List.map_set]
            simpa only [List.set_cons_zero] using this
          · have HN2 := Lib.hid (wdK_go HX.out HT.out (by rintro ⟨_, _, h⟩; rw [hw] at h; cases h) he.out)
            have hR : decide (0 < R) = false := by simp; omega
            clear he hki hw
            go_wp2_with fail
            refine wp_cls 21 (fun w' => Below wr.heap.size wr w') (by kernel_rfl) (by kernel_rfl) (Below.refl _ _).drew ?_
            simp only [List.take_succ_cons, List.take_zero, List.drop_succ_cons, List.drop_zero]
            generalize hK : (fun w' => Below wr.heap.size wr w') = K
            intro hne
            have kb : ∀ z : Wd K, Below wr.heap.size wr z.w := by subst hK; exact fun z => z.h
            have hK3 : ∀ w w' : World, K w → Below w.heap.size w w' → K w' := by subst hK; exact fun w w' h h' => h.trans (h'.mono h.size)
            have y0 : ∀ z : Wd K, z.w.cell? ⟨b2, o2 + k * 3, none⟩ = some (.string name) := fun z => ((kb z).cell (p := ⟨b2, o2 + k * 3, none⟩) hblk2).trans c0
            have y1 : ∀ z : Wd K, z.w.cell? ⟨b2, o2 + k * 3 + 1, none⟩ = some (.bool gg) := fun z => ((kb z).cell (p := ⟨b2, o2 + k * 3 + 1, none⟩) hblk2).trans c1
            have y2 : ∀ z : Wd K, z.w.cell? ⟨b2, o2 + k * 3 + 2, none⟩ = some (.slice wa wn wc) := fun z => ((kb z).cell (p := ⟨b2, o2 + k * 3 + 2, none⟩) hblk2).trans c2
            have y3 : ∀ z : Wd K, z.w.cell? ⟨b, o + i, none⟩ = some (.int .i64 s) := fun z => ((kb z).cell (p := ⟨b, o + i, none⟩) hblk).trans hc
            have y4 : ∀ z : Wd K, z.w.cell? ⟨g2, k, none⟩ = some (.int .i64 u) := fun z => ((kb z).cell (p := ⟨g2, k, none⟩) hblk3).trans k0
            have HCW : Hid (∀ z : Wd K, Calls Tryz.prog 27 #[.agg #[.string name, .bool gg, .slice wa wn wc], .int .i64 s] z.w fun e w' => e = .returned (.int .i64 R) ∧ ∃ u : Wd K, w' = u.w) := fun z => cls_below hK3 (HCW0.out _ (kb z))
            clear hK hK3 HCW0 c0 c1 c2 hc k0
            repeat (go_big_quiet_step ((go_at_call 27; exact HCW.out _)))
            refine wpQuiet_nil ?_
            intro z
            have hb := kb z
            have S2 := S.ext hb
            have x3 := y3 z
            have x4 := y4 z
            clear kb y0 y1 y2 y3 y4 hne HCW S
            generalize z.w = w9 at *
            have HS2 := Lib.hid S2
            clear S2
            go_wp2
            go_roundw
            case rel => exact ⟨k + 1, by omega, by go_num, HN2.out, HS2.out⟩
            case measure => simp [intOf]; omega
        · have hu0' : decide (u < 0) = false := by simpa using hu0
          have HN2 := Lib.hid (wdK_go HX.out HT.out (by rintro ⟨_, h, _⟩; exact hu0 h) he.out)
          clear he hki
          go_wp2_with fail
          refine wp_cls 21 (fun w' => Below wr.heap.size wr w') (by kernel_rfl) (by kernel_rfl) (Below.refl _ _).drew ?_
          simp only [List.take_succ_cons, List.take_zero, List.drop_succ_cons, List.drop_zero]
          generalize hK : (fun w' => Below wr.heap.size wr w') = K
          intro hne
          have kb : ∀ z : Wd K, Below wr.heap.size wr z.w := by subst hK; exact fun z => z.h
          have hK3 : ∀ w w' : World, K w → Below w.heap.size w w' → K w' := by subst hK; exact fun w w' h h' => h.trans (h'.mono h.size)
          have y0 : ∀ z : Wd K, z.w.cell? ⟨b2, o2 + k * 3, none⟩ = some (.string name) := fun z => ((kb z).cell (p := ⟨b2, o2 + k * 3, none⟩) hblk2).trans c0
          have y1 : ∀ z : Wd K, z.w.cell? ⟨b2, o2 + k * 3 + 1, none⟩ = some (.bool gg) := fun z => ((kb z).cell (p := ⟨b2, o2 + k * 3 + 1, none⟩) hblk2).trans c1
          have y2 : ∀ z : Wd K, z.w.cell? ⟨b2, o2 + k * 3 + 2, none⟩ = some (.slice wa wn wc) := fun z => ((kb z).cell (p := ⟨b2, o2 + k * 3 + 2, none⟩) hblk2).trans c2
          have y3 : ∀ z : Wd K, z.w.cell? ⟨b, o + i, none⟩ = some (.int .i64 s) := fun z => ((kb z).cell (p := ⟨b, o + i, none⟩) hblk).trans hc
          have y4 : ∀ z : Wd K, z.w.cell? ⟨g2, k, none⟩ = some (.int .i64 u) := fun z => ((kb z).cell (p := ⟨g2, k, none⟩) hblk3).trans k0
          have HCW : Hid (∀ z : Wd K, Calls Tryz.prog 27 #[.agg #[.string name, .bool gg, .slice wa wn wc], .int .i64 s] z.w fun e w' => e = .returned (.int .i64 R) ∧ ∃ u : Wd K, w' = u.w) := fun z => cls_below hK3 (HCW0.out _ (kb z))
          clear hK hK3 HCW0 c0 c1 c2 hc k0
          repeat (go_big_quiet_step ((go_at_call 27; exact HCW.out _)))
          refine wpQuiet_nil ?_
          intro z
          have hb := kb z
          have S2 := S.ext hb
          have x3 := y3 z
          have x4 := y4 z
          clear kb y0 y1 y2 y3 y4 hne HCW S
          generalize z.w = w9 at *
          have HS2 := Lib.hid S2
          clear S2
          go_wp2
          go_roundw
          case rel => exact ⟨k + 1, by omega, by go_num, HN2.out, HS2.out⟩
          case measure => simp [intOf]; omega
    · obtain rfl : k = na := by omega
      have HE := Lib.hid (wdK_end (k := k) (by rw [List.length_map]; have := HN.out; omega) he.out)
      have HSS := Lib.hid S
      clear he S
      go_wp2
      go_ret
      refine ⟨.slice (some ⟨g2, 0, none⟩) k cq, rfl, ?_⟩
      rw [wdOut, HE.out]
      exact HSS.out
end Go.Proofs.YtbjjojoggpepjaaGreatDoor
/- The law SheetWithdraws, walked. -/
namespace Go.Proofs.YtbjjojoggpepjaaGreatDoor
open Go.RowKit Go.Mem Go.Sheet
theorem lfirst2 (w : World) (g : Nat) (a b : Int) (hg : g < w.heap.size) (h0 : w.cell? ⟨g, 0, none⟩ = some (.int .i64 a)) (h1 : w.cell? ⟨g, 1, none⟩ = some (.int .i64 b)) :
    Calls Tryz.prog 24 #[.slice (some ⟨g, 0, none⟩) 2 2] w fun r w' => r = .returned (.int .i64 (fst [a, b])) ∧ w = w' :=
  lfirst_any w (fun _ => True) _ 2 [a, b] (rd_cells hg (by simp) fun j u hu => by
    match j, hu with
    | 0, hu => cases hu; exact h0
    | 1, hu => cases hu; exact h1)
theorem Own.withdraw {W w : World} {vx vy va : Value} {nl n na i : Nat} {s : Int} {l : List Slot} {RS : List RQ} {a : List Int} (h : Own W w vx vy nl n l RS) (ha : Rd w (· < w.heap.size) 1 va na (a.map (Value.int .i64))) (ok : Okay l RS) (hn : na = n) (hi : i < n) (hs : a[i]? = some s) :
    Calls Tryz.prog 25 #[vy, va, .int .i64 i] w fun e w' => ∃ v', e = .returned v' ∧ St w w' [row 3 1 v' n ((wdOut RS a i s).map (Value.int .i64))] := by
  obtain ⟨rs', h1, h2⟩ := h.y
  subst h1
  exact refWithdraw_any w vy va n na i s l rs' a h2 ha ok hn hi hs
set_option maxRecDepth 100000 in
set_option maxHeartbeats 0 in
theorem sheetWithdraws_any (W : World) (vl vr va : Value) (nl n na : Nat) (l : List Slot) (rs : List Req) (a : List Int) (hl : Rd W (· < W.heap.size) 3 vl nl (l.flatMap Slot.cells)) (h : RdReqs W (· < W.heap.size) vr n rs) (ha : Rd W (· < W.heap.size) 1 va na (a.map (Value.int .i64)))
    (hrl : nl * 24 ≤ 140737488351232) (hrr : n * 48 ≤ 140737488351232) (hrw : ∀ r ∈ rs, r.wn * 16 ≤ 140737488351232) :
    Calls Tryz.prog 5 #[vl, vr, va] W fun e w' => e = .returned (.bool true) ∧ Below W.heap.size W w' := by
  have hna := ha.le
  have HNA := Lib.hid ha.count1
  have HN := Lib.hid (h.1.count (f := Req.cells) (size := 3) (fun _ => rfl) (by decide))
  obtain ⟨A, c, rfl, _, _, _⟩ := ha.open_
  obtain ⟨Ar, cr, rfl, _, _, _⟩ := h.1.open_
  have HL := Lib.hid hl
  have HR := Lib.hid h
  have HA := Lib.hid ha
  have HRW := Lib.hid hrw
  have HRN : Hid (n = (rs.map Req.rq).length) := by
    show _ = _
    rw [List.length_map]; exact HN.out
  have HWT := Lib.hid (fun (w : World) (i : Int) (hb : Below W.heap.size W w) => withdraw_any w vl (.slice Ar n cr) (.slice A na c) nl n na i l rs a (hl.later hb) (reqs_later h hb) (ha.later hb))
  generalize HRS : rs.map Req.rq = RS at *
  have HRS := Lib.hid HRS
  have HERR : Hid (checkRequests l RS ≠ 0 → checkAssignment l RS a = (0, checkRequests l RS)) := fun h => checkAssignment_first h
  clear hl h ha hrw
  go_enter Tryz.func5, Tryz.ntmps5
  go_wp2_with fail
  refine (ownSlots_any _ _ nl l HL.out hrl).mono ?_
  rintro e w1 ⟨v1, rfl, S1⟩
  have HS1 := Lib.hid S1
  clear S1
  go_wp2_with fail
  refine (ownRequests_any w1 _ n rs (reqs_later HR.out HS1.out.bel) hrr HRW.out).mono ?_
  rintro e w2 ⟨v2, rs', rfl, he, hnm, S2⟩
  have HO : Hid (Own W w2 v1 v2 nl n l RS) := ⟨HS1.out.bel.trans (S2.bel.mono HS1.out.bel.size), (HS1.out.row_rd (i := 0) rfl).now.later S2.bel, rs', he.trans HRS.out, own_reqs S2 hnm⟩
  clear HS1 he hnm S2
  go_wp2_with fail
  refine (awake_any w2).mono ?_
  rintro e w3 ⟨rfl, hb3⟩
  have HO3 := Lib.hid (HO.out.later hb3)
  clear HO hb3
  go_wp2_with fail
  refine HO3.out.short.mono ?_
  rintro e w' ⟨⟨b, rfl⟩, rfl⟩
  cases b with
  | false =>
    go_wp2_with fail
    refine (awake_any w3).mono ?_
    rintro e w4 ⟨rfl, hb4⟩
    have hbW := HO3.out.bel.trans (hb4.mono HO3.out.bel.size)
    go_wp2
    go_ret
    exact ⟨rfl, hbW⟩
  | true =>
    by_cases h40 : 40 < na
    · have h40' : decide (40 < (na : Int)) = true := by simp; omega
      go_wp2_with fail
      refine (awake_any w3).mono ?_
      rintro e w4 ⟨rfl, hb4⟩
      have hbW := HO3.out.bel.trans (hb4.mono HO3.out.bel.size)
      go_wp2
      go_ret
      exact ⟨rfl, hbW⟩
    · have h40' : decide (40 < (na : Int)) = false := by simp; omega
      clear h40
      go_wp2_with fail
      refine HO3.out.check.mono ?_
      rintro e w4 ⟨rfl, hb4⟩
      have HO4 := Lib.hid (HO3.out.later hb4)
      clear HO3 hb4
      have HAS := Lib.hid (fun h0 => HO4.out.assignment (HA.out.later HO4.out.bel) h0)
      have HWD : Hid (∀ z : Int, withdraw l RS a z = if (checkAssignment l RS a).2 ≠ 0 then ([], (checkAssignment l RS a).2) else if z < 0 ∨ (n : Int) ≤ z then ([], 10) else if a.getD z.toNat 0 < 0 then ([], 19) else (wdOut RS a z.toNat (a.getD z.toNat 0), 0)) := fun z => by
        rw [withdraw, ← HRN.out]
      have HOK : Hid ((checkAssignment l RS a).2 = 0 → Okay l RS ∧ na = n) := fun h0 => by
        obtain ⟨h1, h2, _⟩ := checkAssignment_ok h0
        exact ⟨okay_of h1, by rw [HNA.out, HRN.out]; exact h2⟩
      generalize checkRequests l RS = E at *
      generalize checkAssignment l RS a = R at *
      obtain ⟨x, B⟩ := R
      dsimp only at HAS HWD HOK HERR
      have HW10t : Hid (∀ w, Calls Tryz.prog 20 #[.bool true, .int .i64 10] w fun r w' => r = .returned (.int .i64 10) ∧ w = w') := fun w => lwhen_any true 10 w
      have HW10f : Hid (∀ w, Calls Tryz.prog 20 #[.bool false, .int .i64 10] w fun r w' => r = .returned (.int .i64 0) ∧ w = w') := fun w => lwhen_any false 10 w
      have HW19t : Hid (∀ w, Calls Tryz.prog 20 #[.bool true, .int .i64 19] w fun r w' => r = .returned (.int .i64 19) ∧ w = w') := fun w => lwhen_any true 19 w
      have HW19f : Hid (∀ w, Calls Tryz.prog 20 #[.bool false, .int .i64 19] w fun r w' => r = .returned (.int .i64 0) ∧ w = w') := fun w => lwhen_any false 19 w
      have hstart : (E = 0) ∨ (E ≠ 0 ∧ E = B) := by
        by_cases h : E = 0
        · exact .inl h
        · exact .inr ⟨h, by have := HERR.out h; injection this with _ h2; exact h2.symm⟩
      rcases hstart with rfl | ⟨hE, rfl⟩
      · go_wp2_with fail
        refine (HAS.out (by trivial)).mono ?_
        rintro e w5 ⟨rfl, hb5⟩
        have HO5 := Lib.hid (HO4.out.later hb5)
        clear HAS HO4 hb5 HERR
        go_wp2_with fail
        go_loopw [10] (fun j w' => ∃ z : Int, -1 ≤ z ∧ z ≤ n + 1 ∧ j = .int .i64 z ∧ Hid (Own W w' v1 v2 nl n l RS)) (fun j _ => ((n : Int) + 1 - intOf j).toNat)
        case atStart => exact ⟨-1, by omega, by omega, rfl, HO5.out⟩
        case round =>
          obtain ⟨z, hz0, hz1, rfl, HO⟩ := hrel
          clear HO5
          by_cases hzn : z ≤ n
          · have hzn' : decide (z ≤ (n : Int)) = true := by simpa using hzn
            have HW1 := Lib.hid (HWT.out wr z HO.out.bel)
            have HWV := Lib.hid (HWD.out z)
            generalize withdraw l RS a z = R at *
            obtain ⟨wl, we⟩ := R
            go_wp2_with fail
            refine HW1.out.mono ?_
            rintro e w6 ⟨v6, rfl, S6⟩
            dsimp only at S6
            have HO6 := Lib.hid (HO.out.later S6.bel)
            have HV6 := Lib.hid (S6.row_rd (i := 0) rfl).now
            clear HO S6 HW1
            by_cases hin : z < 0 ∨ (n : Int) ≤ z
            · have HF : Hid (∃ o, fst [B, 10] = o ∧ o ≠ 0 ∧ listOk wl we o [] = true) := by
                by_cases hB : B = 0
                · refine ⟨10, by rw [hB]; rfl, by decide, ?_⟩
                  have h1 := HWV.out
                  rw [if_neg (by simpa using hB), if_pos hin] at h1
                  injection h1 with e1 e2
                  rw [e1, e2]; rfl
                · refine ⟨B, by rw [fst, if_pos hB], hB, ?_⟩
                  have h1 := HWV.out
                  rw [if_pos hB] at h1
                  injection h1 with e1 e2
                  rw [e1, e2]
                  exact list_yes (fun _ => ⟨rfl, rfl⟩) (fun h => absurd h hB)
              obtain ⟨o, hf, ho, hlo⟩ := HF.out
              have HF1 := Lib.hid hf
              have HLO := Lib.hid hlo
              have ho' : (o == 0) = false := by simpa using ho
              have hbb := (Below.refl w6.heap.size w6).alloc (Nat.le_refl _) (.cells #[.int .i64 B, .int .i64 10] 3)
              have HV7 := Lib.hid (HV6.out.later hbb)
              have HO7 := Lib.hid (HO6.out.later hbb)
              clear hf hlo ho HF HV6 HO6 hbb
              have hz2 : (z < 0 ∧ decide (z < 0) = true) ∨ (decide (z < 0) = false ∧ decide ((n : Int) ≤ z) = true) := by
                by_cases h : z < 0
                · exact .inl ⟨h, by simpa using h⟩
                · exact .inr ⟨by simpa using h, by simp; omega⟩
              clear hin
              rcases hz2 with ⟨hz2, hz3⟩ | ⟨hz2, hz3⟩
              all_goals
                go_wp2_with (first
                  | (go_at_call 20; refine (HW10t.out _).mono ?_; rintro e w' ⟨rfl, rfl⟩)
                  | (go_at_call 24; refine (lfirst2 _ _ B 10 (by simp) (by simp) (by simp)).mono ?_; rw [HF1.out]; rintro e w' ⟨rfl, rfl⟩)
                  | (go_at_call 22; refine (list_any _ _ _ _ _ wl [] we o HV7.out (Rd.nil _ (fun _ => True) 1)).mono ?_; rw [HLO.out]; rintro e w' ⟨rfl, q, rfl⟩))
                go_roundw
                case rel => exact ⟨z + 1, by omega, by omega, by go_num, HO7.out.later (below_drewN (Below.refl _ _) q)⟩
                case measure => simp [intOf]; omega
            · obtain ⟨i, rfl⟩ : ∃ i : Nat, z = i := ⟨z.toNat, by omega⟩
              have hin1 : decide ((i : Int) < 0) = false := by simp
              have hin2 : decide ((n : Int) ≤ i) = false := by simp; omega
              have hin3 : decide (n ≤ i) = false := by simp; omega
              have hiN : i < n := by omega
              have hbb := (Below.refl w6.heap.size w6).alloc (Nat.le_refl _) (.cells #[.int .i64 B, .int .i64 0] 3)
              have HV7 := Lib.hid (HV6.out.later hbb)
              have HO7 := Lib.hid (HO6.out.later hbb)
              have HF1 : Hid (fst [B, 0] = B) := by
                show _ = _
                rw [fst]
                by_cases hB : B = 0
                · rw [if_neg (by simpa using hB), hB]; rfl
                · rw [if_pos hB]
              clear HV6 HO6 hbb
              by_cases hB : B = 0
              · subst hB
                obtain ⟨hok, hnn⟩ := HOK.out (by trivial)
                have HNN := Lib.hid hnn
                have hiA : i < na := by omega
                obtain ⟨b, o, s, hAe, hs, hc⟩ := (HA.out.later HO7.out.bel).int (k := i) (by omega)
                cases hAe
                have hgd : a.getD i 0 = s := by rw [List.getD_eq_getElem?_getD, hs]; rfl
                have HWV2 := HWV.out
                rw [if_neg (by simp), if_neg hin, Int.toNat_natCast, hgd] at HWV2
                have HOKK := Lib.hid hok
                have HS := Lib.hid hs
                clear hok hs hgd hin HWV hnn
                by_cases hs0 : s < 0
                · rw [if_pos hs0] at HWV2
                  injection HWV2 with e1 e2
                  subst e1 e2
                  have hs0' : decide (s < 0) = true := by simpa using hs0
                  have HLO : Hid (listOk [] 19 19 [] = true) := rfl
                  go_wp2_with (first
                    | (go_at_call 20; first | (refine (HW10f.out _).mono ?_; rintro e w' ⟨rfl, rfl⟩) | (refine (HW19t.out _).mono ?_; rintro e w' ⟨rfl, rfl⟩))
                    | (go_at_call 24; refine (lfirst2 _ _ 0 0 (by simp) (by simp) (by simp)).mono ?_; rw [HF1.out]; rintro e w' ⟨rfl, rfl⟩)
                    | (go_at_call 22; refine (list_any _ _ _ _ _ [] [] 19 19 HV7.out (Rd.nil _ (fun _ => True) 1)).mono ?_; rw [HLO.out]; rintro e w' ⟨rfl, q, rfl⟩))
                  go_roundw
                  case rel => exact ⟨i + 1, by omega, by omega, by go_num, HO7.out.later (below_drewN (Below.refl _ _) q)⟩
                  case measure => simp [intOf]; omega
                · rw [if_neg hs0] at HWV2
                  injection HWV2 with e1 e2
                  subst e1 e2
                  have hs0' : decide (s < 0) = false := by simpa using hs0
                  have HWR := Lib.hid (HO7.out.withdraw (HA.out.later HO7.out.bel) HOKK.out HNN.out hiN HS.out)
                  have HLO : Hid (listOk (wdOut RS a i s) 0 0 (wdOut RS a i s) = true) := list_yes (fun h => absurd rfl h) (fun _ => ⟨rfl, rfl⟩)
                  have HLEN : Hid ((wdOut RS a i s).length = n) := by
                    show _ = _
                    rw [wdOut_len, ← HNA.out, HNN.out]
                  go_wp2_with (first
                    | (go_at_call 20; first | (refine (HW10f.out _).mono ?_; rintro e w' ⟨rfl, rfl⟩) | (refine (HW19f.out _).mono ?_; rintro e w' ⟨rfl, rfl⟩))
                    | (go_at_call 24; refine (lfirst2 _ _ 0 0 (by simp) (by simp) (by simp)).mono ?_; rw [HF1.out]; rintro e w' ⟨rfl, rfl⟩)
                    | fail)
                  refine HWR.out.mono ?_
                  rintro e w8 ⟨v8, rfl, S8⟩
                  have HV8 := Lib.hid (HV7.out.later S8.bel)
                  have HO8 := Lib.hid (HO7.out.later S8.bel)
                  have hr8 := (S8.row_rd (i := 0) rfl).now
                  rw [← HLEN.out] at hr8
                  have HR8 := Lib.hid hr8
                  clear S8 HV7 HO7 hr8 HWR
                  go_wp2_with (first
                    | (go_at_call 22; refine (list_any _ _ _ _ _ (wdOut RS a i s) (wdOut RS a i s) 0 0 HV8.out HR8.out).mono ?_; rw [HLO.out]; rintro e w' ⟨rfl, q, rfl⟩))
                  go_roundw
                  case rel => exact ⟨i + 1, by omega, by omega, by go_num, HO8.out.later (below_drewN (Below.refl _ _) q)⟩
                  case measure => simp [intOf]; omega
              · have hB' : (B == 0) = false := by simpa using hB
                have HWV2 := HWV.out
                rw [if_pos hB] at HWV2
                injection HWV2 with e1 e2
                subst e1 e2
                have HLO : Hid (listOk [] we we [] = true) := list_yes (fun _ => ⟨rfl, rfl⟩) (fun h => absurd h hB)
                clear HWV hin
                go_wp2_with (first
                  | (go_at_call 20; refine (HW10f.out _).mono ?_; rintro e w' ⟨rfl, rfl⟩)
                  | (go_at_call 24; refine (lfirst2 _ _ we 0 (by simp) (by simp) (by simp)).mono ?_; rw [HF1.out]; rintro e w' ⟨rfl, rfl⟩)
                  | (go_at_call 22; refine (list_any _ _ _ _ _ [] [] we we HV7.out (Rd.nil _ (fun _ => True) 1)).mono ?_; rw [HLO.out]; rintro e w' ⟨rfl, q, rfl⟩))
                go_roundw
                case rel => exact ⟨i + 1, by omega, by omega, by go_num, HO7.out.later (below_drewN (Below.refl _ _) q)⟩
                case measure => simp [intOf]; omega
          · have hzn' : decide (z ≤ (n : Int)) = false := by simp; omega
            have hbW := HO.out.bel
            clear HO
            go_wp2
            go_ret
            exact ⟨rfl, hbW⟩
      · have hE' : (E == 0) = false := by simpa using hE
        have HO5 := HO4
        clear HAS HO4 HERR
        go_wp2_with fail
        go_loopw [10] (fun j w' => ∃ z : Int, -1 ≤ z ∧ z ≤ n + 1 ∧ j = .int .i64 z ∧ Hid (Own W w' v1 v2 nl n l RS)) (fun j _ => ((n : Int) + 1 - intOf j).toNat)
        case atStart => exact ⟨-1, by omega, by omega, rfl, HO5.out⟩
        case round =>
          obtain ⟨z, hz0, hz1, rfl, HO⟩ := hrel
          clear HO5
          by_cases hzn : z ≤ n
          · have hzn' : decide (z ≤ (n : Int)) = true := by simpa using hzn
            have HW1 := Lib.hid (HWT.out wr z HO.out.bel)
            have HWV := Lib.hid (HWD.out z)
            generalize withdraw l RS a z = R at *
            obtain ⟨wl, we⟩ := R
            go_wp2_with fail
            refine HW1.out.mono ?_
            rintro e w6 ⟨v6, rfl, S6⟩
            dsimp only at S6
            have HO6 := Lib.hid (HO.out.later S6.bel)
            have HV6 := Lib.hid (S6.row_rd (i := 0) rfl).now
            clear HO S6 HW1
            by_cases hin : z < 0 ∨ (n : Int) ≤ z
            · have HF : Hid (∃ o, fst [E, 10] = o ∧ o ≠ 0 ∧ listOk wl we o [] = true) := by
                by_cases hB : E = 0
                · refine ⟨10, by rw [hB]; rfl, by decide, ?_⟩
                  have h1 := HWV.out
                  rw [if_neg (by simpa using hB), if_pos hin] at h1
                  injection h1 with e1 e2
                  rw [e1, e2]; rfl
                · refine ⟨E, by rw [fst, if_pos hB], hB, ?_⟩
                  have h1 := HWV.out
                  rw [if_pos hB] at h1
                  injection h1 with e1 e2
                  rw [e1, e2]
                  exact list_yes (fun _ => ⟨rfl, rfl⟩) (fun h => absurd h hB)
              obtain ⟨o, hf, ho, hlo⟩ := HF.out
              have HF1 := Lib.hid hf
              have HLO := Lib.hid hlo
              have ho' : (o == 0) = false := by simpa using ho
              have hbb := (Below.refl w6.heap.size w6).alloc (Nat.le_refl _) (.cells #[.int .i64 E, .int .i64 10] 3)
              have HV7 := Lib.hid (HV6.out.later hbb)
              have HO7 := Lib.hid (HO6.out.later hbb)
              clear hf hlo ho HF HV6 HO6 hbb
              have hz2 : (z < 0 ∧ decide (z < 0) = true) ∨ (decide (z < 0) = false ∧ decide ((n : Int) ≤ z) = true) := by
                by_cases h : z < 0
                · exact .inl ⟨h, by simpa using h⟩
                · exact .inr ⟨by simpa using h, by simp; omega⟩
              clear hin
              rcases hz2 with ⟨hz2, hz3⟩ | ⟨hz2, hz3⟩
              all_goals
                go_wp2_with (first
                  | (go_at_call 20; refine (HW10t.out _).mono ?_; rintro e w' ⟨rfl, rfl⟩)
                  | (go_at_call 24; refine (lfirst2 _ _ E 10 (by simp) (by simp) (by simp)).mono ?_; rw [HF1.out]; rintro e w' ⟨rfl, rfl⟩)
                  | (go_at_call 22; refine (list_any _ _ _ _ _ wl [] we o HV7.out (Rd.nil _ (fun _ => True) 1)).mono ?_; rw [HLO.out]; rintro e w' ⟨rfl, q, rfl⟩))
                go_roundw
                case rel => exact ⟨z + 1, by omega, by omega, by go_num, HO7.out.later (below_drewN (Below.refl _ _) q)⟩
                case measure => simp [intOf]; omega
            · obtain ⟨i, rfl⟩ : ∃ i : Nat, z = i := ⟨z.toNat, by omega⟩
              have hin1 : decide ((i : Int) < 0) = false := by simp
              have hin2 : decide ((n : Int) ≤ i) = false := by simp; omega
              have hin3 : decide (n ≤ i) = false := by simp; omega
              have hiN : i < n := by omega
              have hbb := (Below.refl w6.heap.size w6).alloc (Nat.le_refl _) (.cells #[.int .i64 E, .int .i64 0] 3)
              have HV7 := Lib.hid (HV6.out.later hbb)
              have HO7 := Lib.hid (HO6.out.later hbb)
              have HF1 : Hid (fst [E, 0] = E) := by
                show _ = _
                rw [fst]
                by_cases hB : E = 0
                · rw [if_neg (by simpa using hB), hB]; rfl
                · rw [if_pos hB]
              clear HV6 HO6 hbb
              have hB := hE
              have HWV2 := HWV.out
              rw [if_pos hB] at HWV2
              injection HWV2 with e1 e2
              subst e1 e2
              have HLO : Hid (listOk [] we we [] = true) := list_yes (fun _ => ⟨rfl, rfl⟩) (fun h => absurd h hB)
              clear HWV hin
              go_wp2_with (first
                | (go_at_call 20; refine (HW10f.out _).mono ?_; rintro e w' ⟨rfl, rfl⟩)
                | (go_at_call 24; refine (lfirst2 _ _ we 0 (by simp) (by simp) (by simp)).mono ?_; rw [HF1.out]; rintro e w' ⟨rfl, rfl⟩)
                | (go_at_call 22; refine (list_any _ _ _ _ _ [] [] we we HV7.out (Rd.nil _ (fun _ => True) 1)).mono ?_; rw [HLO.out]; rintro e w' ⟨rfl, q, rfl⟩))
              go_roundw
              case rel => exact ⟨i + 1, by omega, by omega, by go_num, HO7.out.later (below_drewN (Below.refl _ _) q)⟩
              case measure => simp [intOf]; omega
          · have hzn' : decide (z ≤ (n : Int)) = false := by simp; omega
            have hbW := HO.out.bel
            clear HO
            go_wp2
            go_ret
            exact ⟨rfl, hbW⟩
end Go.Proofs.YtbjjojoggpepjaaGreatDoor
