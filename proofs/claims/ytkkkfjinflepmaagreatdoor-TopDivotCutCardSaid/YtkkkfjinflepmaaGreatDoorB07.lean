/- Part 7 of the walks of the golf union's program: LF2. -/
import Derived.Test.YtkkkfjinflepmaaGreatDoorB06
set_option linter.unusedVariables false
set_option linter.unusedSimpArgs false
set_option linter.unusedSectionVars false
set_option linter.constructorNameAsVariable false
/- Chapter 5: the reference's check of players and of a field. -/
namespace Go.Proofs.YtkkkfjinflepmaaGreatDoor
open Go.RowKit Go.Mem Go.Sheet Go.Adj
theorem bytes_ne2 {a b : ByteArray} (h : a ≠ b) : (a.toList == b.toList) = false := by
  obtain ⟨⟨d⟩⟩ := b
  have e : (⟨⟨d⟩⟩ : ByteArray).toList = d := by rw [ByteArray.toList_eq]
  rw [e]
  exact bytes_ne h
def GoodP (hs : List HI) (p : PI) : Prop := GoodC hs p.name p.m p.es ∧ -99 ≤ p.co ∧ p.co ≤ 99
structure GoodPs (hs : List HI) (ps : List PI) (k : Nat) : Prop where
  ok : ∀ i, i < k → GoodP hs (pAt ps i)
  two : ∀ i j, i < k → j < i → (pAt ps j).name ≠ (pAt ps i).name
theorem goodPs_succ {hs : List HI} {ps : List PI} {k : Nat} {x : PI} (h : GoodPs hs ps k) (hx : ps[k]? = some x) (hp : GoodP hs x) (ht : ∀ j, j < k → (pAt ps j).name ≠ x.name) : GoodPs hs ps (k + 1) := by
  have e := pAt_eq hx
  refine ⟨fun i hi2 => ?_, fun i j hi2 hj => ?_⟩
  · by_cases hik : i = k
    · subst hik; rw [e]; exact hp
    · exact h.ok i (by omega)
  · by_cases hik : i = k
    · subst hik; rw [e]; exact ht j hj
    · exact h.two i j (by omega) hj
theorem refOut_any (x : Int) (w : World) : Calls Tryz.prog 129 #[.int .i64 x] w fun e w' => e = .returned (.bool (decide (x < -99) || decide (99 < x))) ∧ w = w' := by
  by_cases h1 : x < -99
  · have t1 : decide (x < -99) = true := by simpa using h1
    clear h1
    go_enter Tryz.func129, Tryz.ntmps129
    go_wp2
    go_ret
    exact ⟨by rw [t1]; rfl, rfl⟩
  · have t1 : decide (x < -99) = false := by simpa using h1
    clear h1
    by_cases h2 : 99 < x
    · have t2 : decide (99 < x) = true := by simpa using h2
      clear h2
      go_enter Tryz.func129, Tryz.ntmps129
      go_wp2
      go_ret
      exact ⟨by rw [t1, t2]; rfl, rfl⟩
    · have t2 : decide (99 < x) = false := by simpa using h2
      clear h2
      go_enter Tryz.func129, Tryz.ntmps129
      go_wp2
      go_ret
      exact ⟨by rw [t1, t2]; rfl, rfl⟩
set_option maxRecDepth 100000 in
set_option maxHeartbeats 4000000 in
theorem refCheckPlayer_any (W : World) (v ve : Value) (n m : Nat) (hs : List HI) (es : List EI) (name : ByteArray) (co : Int) (hsz : name.size ≤ 9223372036854775807) (h : Rd W (· < W.heap.size) 2 v n (hs.flatMap HI.cells)) (he : Rd W (· < W.heap.size) 2 ve m (es.flatMap EI.cells)) :
    Calls Tryz.prog 110 #[v, .agg #[.string name, ve, .int .i64 co]] W fun e w' => IsE (GoodC hs name m es ∧ -99 ≤ co ∧ co ≤ 99) e ∧ Below W.heap.size W w' := by
  have H := Lib.hid h
  have HE := Lib.hid he
  obtain ⟨A, c, rfl, _, _, _⟩ := h.open_
  obtain ⟨Ae, ce, rfl, _, _, _⟩ := he.open_
  clear h he
  generalize hP : GoodC hs name m es = P
  have HP := Lib.hid hP
  clear hP
  have hb := (Below.refl W.heap.size W).alloc (Nat.le_refl _) (.cells #[.string name, .slice Ae m ce, .int .i64 co] 82)
  have HB := Lib.hid hb
  have c0 : (W.alloc (.cells #[.string name, .slice Ae m ce, .int .i64 co] 82)).cell? ⟨W.heap.size, 0, none⟩ = some (.string name) := by simp
  have c1 : (W.alloc (.cells #[.string name, .slice Ae m ce, .int .i64 co] 82)).cell? ⟨W.heap.size, 1, none⟩ = some (.slice Ae m ce) := by simp
  have c2 : (W.alloc (.cells #[.string name, .slice Ae m ce, .int .i64 co] 82)).cell? ⟨W.heap.size, 2, none⟩ = some (.int .i64 co) := by simp
  go_enter Tryz.func110, Tryz.ntmps110
  go_wp2_with fail
  have HCC := Lib.hid (refCheckCard_any _ _ _ n m hs es name hsz (H.out.later hb) (HE.out.later hb))
  clear hb
  generalize W.alloc (.cells #[.string name, .slice Ae m ce, .int .i64 co] 82) = W1 at *
  generalize W.heap.size = gc at c0 c1 c2 ⊢
  have hlt := World.block_lt_of_cell? _ _ c2
  go_at_call 128
  refine HCC.out.mono ?_
  rintro e w2 ⟨⟨ec, rfl, hg⟩, hb2⟩
  have d2 := (hb2.cell (p := ⟨gc, 2, none⟩) hlt).trans c2
  have HG := Lib.hid hg
  have HB2 := Lib.hid (HB.out.trans (hb2.mono HB.out.size))
  clear hg hb2 c0 c1 c2 HB HCC hlt
  by_cases h0 : ec = 0
  · subst h0
    have HG2 := Lib.hid (HG.out rfl)
    clear HG
    by_cases h1 : co < -99
    · have t1 : (decide (co < -99) || decide (99 < co)) = true := by simp [h1]
      have HO := refOut_any co
      rw [t1] at HO
      have HO := Lib.hid HO
      clear h1 t1
      go_wp2_with (go_at_call 129; refine (HO.out _).mono ?_; rintro e w' ⟨rfl, rfl⟩)
      go_ret
      exact ⟨isE_ne (by decide), HB2.out⟩
    by_cases h2 : 99 < co
    · have t1 : (decide (co < -99) || decide (99 < co)) = true := by simp [h2]
      have HO := refOut_any co
      rw [t1] at HO
      have HO := Lib.hid HO
      clear h1 h2 t1
      go_wp2_with (go_at_call 129; refine (HO.out _).mono ?_; rintro e w' ⟨rfl, rfl⟩)
      go_ret
      exact ⟨isE_ne (by decide), HB2.out⟩
    have t1 : (decide (co < -99) || decide (99 < co)) = false := by simp [h1, h2]
    have HO := refOut_any co
    rw [t1] at HO
    have HO := Lib.hid HO
    have HCO : Hid (-99 ≤ co ∧ co ≤ 99) := ⟨by omega, by omega⟩
    clear h1 h2 t1
    go_wp2_with (go_at_call 129; refine (HO.out _).mono ?_; rintro e w' ⟨rfl, rfl⟩)
    go_ret
    exact ⟨isE_ok ⟨by rw [← HP.out]; exact HG2.out, HCO.out⟩, HB2.out⟩
  · have e0 : (ec == 0) = false := by simp [h0]
    have H0 := Lib.hid h0
    clear h0
    go_wp2
    go_ret
    exact ⟨isE_ne H0.out, HB2.out⟩
set_option maxRecDepth 100000 in
set_option maxHeartbeats 4000000 in
theorem refCheckPlayers_any (W : World) (v vp : Value) (n m : Nat) (hs : List HI) (ps : List PI) (h : Rd W (· < W.heap.size) 2 v n (hs.flatMap HI.cells)) (hp : RdPl W (· < W.heap.size) vp m ps) :
    Calls Tryz.prog 79 #[v, vp] W fun e w' => IsE (GoodPs hs ps m) e ∧ Below W.heap.size W w' := by
  have hm := hp.1.le
  obtain ⟨A, c, rfl, _, _, _⟩ := h.open_
  obtain ⟨Ap, cp, rfl, _, _, _⟩ := hp.1.open_
  have H := Lib.hid h
  have HPL := Lib.hid hp
  clear h hp
  go_enter Tryz.func79, Tryz.ntmps79
  go_wp2
  go_loopw [5] (fun i w' => ∃ k : Nat, k ≤ m ∧ i = .int .i64 k ∧ Below W.heap.size W w' ∧ Hid (GoodPs hs ps k)) (fun i _ => m - (intOf i).toNat)
  case atStart => exact ⟨0, Nat.zero_le _, rfl, Below.refl _ _, ⟨fun i hi => by omega, fun i j hi => by omega⟩⟩
  case round =>
    obtain ⟨k, hk, rfl, hbw, he⟩ := hrel
    by_cases hlt : k < m
    · have HB := Lib.hid hbw
      obtain ⟨b, o, x, hA, hx, c0, c1, c2⟩ := (HPL.out.later hbw).elem hlt
      subst hA
      have hxp := (HPL.out.later hbw).2 x (List.mem_of_getElem? hx)
      have HCP := Lib.hid (refCheckPlayer_any wr (.slice A n c) _ n x.m hs x.es x.name x.co hxp.2 (H.out.later hbw) hxp.1)
      have HX := Lib.hid hx
      clear hx hxp hbw
      go_wp2_with fail
      go_at_call 110
      refine HCP.out.mono ?_
      rintro e w2 ⟨⟨ec, rfl, hg⟩, hb2⟩
      have HG := Lib.hid hg
      have HB2 := Lib.hid (HB.out.trans (hb2.mono HB.out.size))
      clear hg hb2 c0 c1 c2 HB HCP
      by_cases h0 : ec = 0
      case neg =>
        have e0 : (ec != 0) = true := by simpa using h0
        have H0 := Lib.hid h0
        clear h0
        go_wp2
        go_ret
        exact ⟨isE_ne H0.out, HB2.out⟩
      subst h0
      have HG2 : Hid (GoodP hs x) := HG.out rfl
      clear HG
      go_wp2
      have HB3 := Lib.hid (Below.refl w2.heap.size w2)
      go_loopw [7] (fun i w' => ∃ j : Nat, j ≤ k ∧ i = .int .i64 j ∧ Below w2.heap.size w2 w' ∧ Hid (∀ i, i < j → (pAt ps i).name ≠ x.name)) (fun i _ => k - (intOf i).toNat)
      case atStart => exact ⟨0, Nat.zero_le _, rfl, HB3.out, fun i hi => by omega⟩
      case round =>
        obtain ⟨j, hj, rfl, hbw, hd⟩ := hrel
        by_cases hjl : j < k
        · have HBJ := Lib.hid hbw
          have HW := HB2.out.trans (hbw.mono HB2.out.size)
          obtain ⟨b', o', y, hA', hy, d0, _, _⟩ := (HPL.out.later HW).elem (show j < m by omega)
          cases hA'
          obtain ⟨b2, o2, x2, hA', hx2, e0, _, _⟩ := (HPL.out.later HW).elem hlt
          cases hA'
          cases Option.some.inj (HX.out.symm.trans hx2)
          have HY := Lib.hid hy
          clear hy hx2 HW hbw
          by_cases hyx : y.name = x.name
          · have t1 : (y.name.toList == x.name.toList) = true := by rw [hyx]; simp
            clear hyx
            go_wp2_with fail
            go_quiet (fail)
            go_wp2
            go_ret
            exact ⟨isE_ne (by decide), HB2.out.trans ((below_drewN HBJ.out _).mono HB2.out.size)⟩
          · have HN : Hid (∀ i, i < j + 1 → (pAt ps i).name ≠ x.name) := fun i hi => by
              by_cases e : i = j
              · subst e; rw [pAt_eq HY.out]; exact hyx
              · exact hd.out i (by omega)
            have t1 : (y.name.toList == x.name.toList) = false := bytes_ne2 hyx
            clear hyx
            go_wp2_with fail
            go_quiet (fail)
            go_wp2
            go_roundw
            case rel => exact ⟨j + 1, by omega, by go_num, below_drewN HBJ.out _, HN.out⟩
            case measure => simp [intOf]; omega
        · have ejk : j = k := by omega
          subst ejk
          have HG : Hid (GoodPs hs ps (j + 1)) := goodPs_succ he.out HX.out HG2.out hd.out
          have HBJ := Lib.hid hbw
          clear he hd hbw
          go_wp2
          go_roundw
          case rel => exact ⟨j + 1, by omega, by go_num, HB2.out.trans (HBJ.out.mono HB2.out.size), HG.out⟩
          case measure => simp [intOf]; omega
    · obtain rfl : k = m := by omega
      have HB := Lib.hid hbw
      clear hbw
      go_wp2
      go_ret
      exact ⟨isE_ok he.out, HB.out⟩
end Go.Proofs.YtkkkfjinflepmaaGreatDoor
