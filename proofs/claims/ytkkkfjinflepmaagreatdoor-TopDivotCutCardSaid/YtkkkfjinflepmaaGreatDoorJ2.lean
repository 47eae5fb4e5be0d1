/- TopDivotKnockout: the reference's check of lists. -/
import Derived.Test.YtkkkfjinflepmaaGreatDoorB37
import Derived.Test.YtkkkfjinflepmaaGreatDoorB07
import Derived.BigQuiet
import Derived.Test.YtkkkfjinflepmaaGreatDoorK1
import Derived.Test.YtkkkfjinflepmaaGreatDoorB34
import Derived.Test.YtkkkfjinflepmaaGreatDoorB40
set_option linter.unusedVariables false
set_option linter.unusedSimpArgs false
set_option linter.unusedSectionVars false
set_option linter.constructorNameAsVariable false
namespace Go.Proofs.YtkkkfjinflepmaaGreatDoor
open Go.RowKit Go.Mem Go.Sheet Go.Adj
/-- a list of lists of numbers -/
def RdLL (w : World) (S : Nat → Prop) (v : Value) (m : Nat) (ls : List (List Int)) : Prop :=
  ∃ vs : List Value, Rd w S 1 v m vs ∧ ls.length = m ∧ ∀ (i : Nat) (r : List Int), ls[i]? = some r → ∃ u, vs[i]? = some u ∧ Rd w S 1 u r.length (intsI r)
theorem RdLL.later {w w' : World} {v : Value} {m : Nat} {ls : List (List Int)} (h : RdLL w (· < w.heap.size) v m ls) (hb : Below w.heap.size w w') : RdLL w' (· < w'.heap.size) v m ls := by
  obtain ⟨vs, h1, h0, h2⟩ := h
  exact ⟨vs, h1.later hb, h0, fun i F hF => let ⟨u, hu, hr⟩ := h2 i F hF; ⟨u, hu, hr.later hb⟩⟩
theorem RdLL.open_ {w : World} {S : Nat → Prop} {v : Value} {m : Nat} {ls : List (List Int)} (h : RdLL w S v m ls) : ∃ A c, v = .slice A m c := by
  obtain ⟨vs, h1, _⟩ := h
  obtain ⟨A, c, rfl, _⟩ := h1.open_
  exact ⟨A, c, rfl⟩
theorem RdLL.elem {w : World} {S : Nat → Prop} {A : Option Addr} {c m k : Nat} {ls : List (List Int)} {r : List Int} (h : RdLL w S (.slice A m c) m ls) (hk : k < m) (hr : ls[k]? = some r) :
    ∃ b o u, A = some ⟨b, o, none⟩ ∧ w.cell? ⟨b, o + k, none⟩ = some u ∧ Rd w S 1 u r.length (intsI r) := by
  obtain ⟨vs, h1, _, h2⟩ := h
  obtain ⟨b, o, u, rfl, _, hu, hc⟩ := h1.at_ hk
  obtain ⟨u', hu', hr⟩ := h2 k r hr
  rw [hu] at hu'
  cases hu'
  exact ⟨b, o, u, rfl, hc, hr⟩
structure GoodLL (ls : List (List Int)) (n0 : Nat) : Prop where
  n : 1 ≤ n0 ∧ n0 ≤ 36
  len : ∀ r ∈ ls, r.length = n0
  bd : ∀ r ∈ ls, ∀ x ∈ r, -9999 ≤ x ∧ x ≤ 9999
set_option maxRecDepth 100000 in
set_option maxHeartbeats 4000000 in
theorem refCheckNumbers_any (w : World) (F : Nat → Prop) (v : Value) (l : List Int) (h : Rd w F 1 v l.length (intsI l)) :
    Calls Tryz.prog 46 #[v, .int .i64 36] w fun e w' => IsE (1 ≤ l.length ∧ l.length ≤ 36 ∧ ∀ x ∈ l, -9999 ≤ x ∧ x ≤ 9999) e ∧ w' = w := by
  obtain ⟨A, c, rfl, _, _, h⟩ := h.open_
  have hl63 := h.le
  have HC : Hid (∀ k, k < l.length → ∃ b o x, A = some ⟨b, o, none⟩ ∧ l[k]? = some x ∧ w.cell? ⟨b, o + k, none⟩ = some (.int .i64 x)) := fun k hk => Rd.int (q := .i64) h hk
  obtain ⟨n, hn⟩ : ∃ n, n = l.length := ⟨_, rfl⟩
  rw [← hn] at HC hl63 ⊢
  have HN := Lib.hid hn
  clear h hn
  go_enter Tryz.func46, Tryz.ntmps46
  by_cases h0 : n = 0
  · have t0 : ((n : Int) == 0) = true := by simp [h0]
    have t0' : (n == 0) = true := by simp [h0]
    clear h0
    go_wp2
    go_ret
    exact ⟨isE_ne (by decide), rfl⟩
  have t0 : ((n : Int) == 0) = false := by simp; omega
  have t0' : (n == 0) = false := by simp; omega
  by_cases h36 : 36 < n
  · have t1 : decide ((36 : Int) < (n : Int)) = true := decide_eq_true (by omega)
    have t1' : decide (36 < n) = true := decide_eq_true h36
    clear h36
    go_wp2
    go_ret
    exact ⟨isE_ne (by decide), rfl⟩
  have t1 : decide ((36 : Int) < (n : Int)) = false := decide_eq_false (by omega)
  have t1' : decide (36 < n) = false := decide_eq_false h36
  go_wp2
  go_loop [5] (fun i => ∃ k : Nat, k ≤ n ∧ i = .int .i64 k ∧ Hid (∀ j x, j < k → l[j]? = some x → -9999 ≤ x ∧ x ≤ 9999)) (fun i => n - (intOf i).toNat)
  case atStart => exact ⟨0, Nat.zero_le _, rfl, Lib.hid (fun j x h => absurd h (Nat.not_lt_zero j))⟩
  case round =>
    obtain ⟨k, hk, rfl, hin⟩ := hrel
    by_cases hlt : k < n
    · obtain ⟨b, o, x, hA, hx, c0⟩ := HC.out k hlt
      subst hA
      have HX := Lib.hid hx
      have s0 : decide ((k : Int) < (n : Int)) = true := decide_eq_true (by omega)
      have s0' : decide (k < n) = true := decide_eq_true hlt
      clear hx
      by_cases hx0 : x < -9999
      · have s1 : decide (x < -9999) = true := decide_eq_true hx0
        clear hx0
        go_wp2
        go_ret
        exact ⟨isE_ne (by decide), rfl⟩
      have s1 : decide (x < -9999) = false := decide_eq_false hx0
      by_cases hx1 : 9999 < x
      · have s2 : decide (9999 < x) = true := decide_eq_true hx1
        clear hx1
        go_wp2
        go_ret
        exact ⟨isE_ne (by decide), rfl⟩
      have s2 : decide (9999 < x) = false := decide_eq_false hx1
      have HIN : Hid (∀ j y, j < k + 1 → l[j]? = some y → -9999 ≤ y ∧ y ≤ 9999) := fun j y hj hy => by
        rcases Nat.lt_or_ge j k with h | h
        · exact hin.out j y h hy
        · obtain rfl : j = k := by omega
          rw [HX.out] at hy
          cases hy
          omega
      clear hx0 hx1
      go_wp2
      go_round
      case rel => exact ⟨k + 1, by omega, by go_num, HIN⟩
      case measure => simp [intOf]; omega
    · obtain rfl : n = k := by omega
      have s0 : decide ((n : Int) < (n : Int)) = false := decide_eq_false (by omega)
      have s0' : decide (n < n) = false := decide_eq_false (by omega)
      go_wp2
      go_ret
      refine ⟨⟨0, rfl, fun _ => ?_⟩, rfl⟩
      refine ⟨by omega, by omega, fun x hx => ?_⟩
      obtain ⟨j, hj, e⟩ := List.mem_iff_getElem.1 hx
      exact hin.out j x (by rw [HN.out]; exact hj) (by rw [List.getElem?_eq_getElem hj, e])
set_option maxRecDepth 100000 in
set_option maxHeartbeats 4000000 in
theorem refCheckLists_any (w : World) (F : Nat → Prop) (v : Value) (m : Nat) (ls : List (List Int)) (hm : 1 ≤ m ∧ m ≤ 12) (h : RdLL w F v m ls) :
    Calls Tryz.prog 17 #[v] w fun e w' => IsE (∃ n, GoodLL ls n) e ∧ ∃ q, w' = w.drewN q := by
  obtain ⟨A, c, rfl⟩ := h.open_
  have H := Lib.hid h
  have hlen : ls.length = m := by obtain ⟨_, _, h0, _⟩ := h; exact h0
  have HLN := Lib.hid hlen
  have HAT : Hid (∀ k, k < m → ∃ r, ls[k]? = some r) := fun k hk => ⟨ls[k]'(by omega), List.getElem?_eq_getElem _⟩
  obtain ⟨r0, hr0⟩ := HAT.out 0 (by omega)
  obtain ⟨b, o, u0, rfl, c0, hrd0⟩ := H.out.elem (k := 0) (by omega) hr0
  obtain ⟨A0, cc0, rfl, _, _, _⟩ := hrd0.open_
  rw [Nat.add_zero] at c0
  obtain ⟨n0, hn0⟩ : ∃ n, n = r0.length := ⟨_, rfl⟩
  rw [← hn0] at c0
  have HN0 := Lib.hid hn0
  have HR0 := Lib.hid hr0
  have hn63 := hrd0.le
  rw [← hn0] at hn63
  have t0 : ((m : Int) == 0) = false := by simp; omega
  have t0' : (m == 0) = false := by simp; omega
  have t1 : decide ((200 : Int) < (m : Int)) = false := decide_eq_false (by omega)
  have t1' : decide (200 < m) = false := decide_eq_false (by omega)
  clear hlen hr0 hrd0 hn0
  go_enter Tryz.func17, Tryz.ntmps17
  go_wp2_with fail
  go_loopw [3] (fun i w' => ∃ k q : Nat, k ≤ m ∧ i = .int .i64 k ∧ w' = w.drewN q ∧ Hid (∀ j r, j < k → ls[j]? = some r → (1 ≤ r.length ∧ r.length ≤ 36 ∧ ∀ x ∈ r, -9999 ≤ x ∧ x ≤ 9999) ∧ r.length = n0)) (fun i _ => m - (intOf i).toNat)
  case atStart => exact ⟨0, 0, Nat.zero_le _, rfl, rfl, Lib.hid (fun j r h => absurd h (Nat.not_lt_zero j))⟩
  case round =>
    obtain ⟨k, q, hk, rfl, rfl, hin⟩ := hrel
    by_cases hlt : k < m
    · obtain ⟨r, hr⟩ := HAT.out k hlt
      obtain ⟨b', o', u, hA, ck, hrd⟩ := H.out.elem hlt hr
      cases hA
      obtain ⟨Ar, cr, rfl, _, _, _⟩ := hrd.open_
      have HCN := Lib.hid (refCheckNumbers_any (w.drewN q) F _ r (hrd.loc (Nat.le_refl _) (fun _ _ => rfl)))
      have s0 : decide ((k : Int) < (m : Int)) = true := decide_eq_true (by omega)
      have s0' : decide (k < m) = true := decide_eq_true hlt
      have hr63 := hrd.le
      have HR := Lib.hid hr
      obtain ⟨nr, hnr⟩ : ∃ n, n = r.length := ⟨_, rfl⟩
      rw [← hnr] at ck HCN hr63
      have HNR := Lib.hid hnr
      clear hr hrd hnr
      go_wp2_with fail
      go_at_call 46
      refine HCN.out.mono ?_
      rintro e w2 ⟨⟨ec, rfl, hgood⟩, rfl⟩
      by_cases hec : ec = 0
      · subst hec
        have HGD := Lib.hid (hgood rfl)
        clear hgood HCN
        by_cases hne : nr = n0
        · have s1 : ((nr : Int) != (n0 : Int)) = false := by simp [hne]
          have s1' : (nr != n0) = false := by simp [hne]
          have HIN : Hid (∀ j r, j < k + 1 → ls[j]? = some r → (1 ≤ r.length ∧ r.length ≤ 36 ∧ ∀ x ∈ r, -9999 ≤ x ∧ x ≤ 9999) ∧ r.length = n0) := fun j r' hj hy => by
            rcases Nat.lt_or_ge j k with h | h
            · exact hin.out j r' h hy
            · obtain rfl : j = k := by omega
              rw [HR.out] at hy
              cases hy
              refine ⟨?_, by rw [← HNR.out]; exact hne⟩
              rw [← HNR.out]; exact HGD.out
          clear hne
          go_wp2_with fail
          go_quiet (fail)
          all_goals
            go_wp2_with fail
            go_roundw
            case rel => exact ⟨k + 1, _, by omega, by go_num, by first | rfl | exact World.drewN_drewN _ _ _, HIN⟩
            case measure => simp [intOf]; omega
        · have s1 : ((nr : Int) != (n0 : Int)) = true := by simp; omega
          have s1' : (nr != n0) = true := by simp [hne]
          clear hne
          go_wp2_with fail
          go_quiet (fail)
          all_goals
            go_wp2_with fail
            go_ret
            exact ⟨isE_ne (by decide), _, by first | rfl | exact World.drewN_drewN _ _ _⟩
      · have s1 : (ec == 0) = false := by simpa using hec
        have s1' : (ec != 0) = true := by simpa using hec
        have HEC := Lib.hid hec
        clear hgood HCN hec
        go_wp2_with fail
        go_quiet (fail)
        all_goals
          go_wp2_with fail
          go_ret
          exact ⟨isE_ne HEC.out, _, by first | rfl | exact World.drewN_drewN _ _ _⟩
    · obtain rfl : m = k := by omega
      have s0 : decide ((m : Int) < (m : Int)) = false := decide_eq_false (by omega)
      have s0' : decide (m < m) = false := decide_eq_false (by omega)
      go_wp2_with fail
      go_ret
      refine ⟨⟨0, rfl, fun _ => ⟨n0, ?_, fun r hr => ?_, fun r hr => ?_⟩⟩, q, rfl⟩
      · obtain ⟨h1, h2⟩ := hin.out 0 r0 (by omega) HR0.out
        rw [← h2]; exact ⟨h1.1, h1.2.1⟩
      · obtain ⟨j, hj, e⟩ := List.mem_iff_getElem.1 hr
        exact (hin.out j r (by rw [← HLN.out]; exact hj) (by rw [List.getElem?_eq_getElem hj, e])).2
      · obtain ⟨j, hj, e⟩ := List.mem_iff_getElem.1 hr
        exact (hin.out j r (by rw [← HLN.out]; exact hj) (by rw [List.getElem?_eq_getElem hj, e])).1.2.2
end Go.Proofs.YtkkkfjinflepmaaGreatDoor
/- Chapter 5: Ranks. -/
namespace Go.Proofs.YtkkkfjinflepmaaGreatDoor
open Go.RowKit Go.Mem Go.Sheet Go.Adj
theorem formatOk3 (w : World) (g : Nat) (hg : g < w.heap.size) (h0 : w.cell? ⟨g, 0, none⟩ = some (.int .i64 0)) (h1 : w.cell? ⟨g, 1, none⟩ = some (.int .i64 0)) (h2 : w.cell? ⟨g, 2, none⟩ = some (.int .i64 0)) :
    Calls Tryz.prog 61 #[.slice (some ⟨g, 0, none⟩) 3 3] w fun r w' => r = .returned (.int .i64 0) ∧ w = w' :=
  formatFirst_any w (fun _ => True) _ 3 [0, 0, 0] (rd_cells hg (by simp) fun j u hu => by
    match j, hu with
    | 0, hu => cases hu; exact h0
    | 1, hu => cases hu; exact h1
    | 2, hu => cases hu; exact h2)
theorem gl_list (l : List Int) : gl (fun i => l.getD i 0) l.length = l := by
  unfold gl
  apply List.ext_getElem?
  intro i
  rw [List.getElem?_map]
  rcases Nat.lt_or_ge i l.length with h | h
  · rw [List.getElem?_range h, List.getElem?_eq_getElem h]
    show some (l.getD i 0) = _
    rw [List.getD_eq_getElem?_getD, List.getElem?_eq_getElem h]; rfl
  · rw [List.getElem?_eq_none (by simpa using h), List.getElem?_eq_none h]; rfl
theorem outside_any (x : Int) (w : World) : Calls Tryz.prog 100 #[.int .i64 x, .int .i64 9999] w fun e w' => e = .returned (.bool (decide (x < -9999) || decide (9999 < x))) ∧ w = w' := by
  go_enter Tryz.func100, Tryz.ntmps100
  go_wp2
  all_goals
    go_ret
    simp_all
theorem far_any (x : Int) (w : World) : Calls Tryz.prog 99 #[.int .i64 x] w fun e w' => e = .returned (.bool (decide (x < -9999) || decide (9999 < x))) ∧ w = w' := by
  go_enter Tryz.func99, Tryz.ntmps99
  go_wp2_with (go_at_call 100; refine (outside_any x _).mono ?_; rintro e w' ⟨rfl, rfl⟩)
  go_ret
  exact ⟨rfl, rfl⟩
set_option maxRecDepth 100000 in
set_option maxHeartbeats 4000000 in
theorem checkNumbers_ok (W : World) (F : Nat → Prop) (v : Value) (n : Nat) (l : List Int) (hn : 1 ≤ n ∧ n ≤ 36) (hl : ∀ x ∈ l, -9999 ≤ x ∧ x ≤ 9999) (h : Rd W F 1 v n (intsI l)) :
    Calls Tryz.prog 63 #[v, .int .i64 36] W fun e w' => e = .returned (.int .i64 0) ∧ Below W.heap.size W w' := by
  have h1 := anyI5 W F v n l 99 (enters Tryz.func99 (by kernel_rfl) rfl) _ h (fun x w _ => far_any x w)
  have e1 : l.any (fun x => decide (x < -9999) || decide (9999 < x)) = false := by
    rw [List.any_eq_false]
    intro x hx
    have := hl x hx
    rw [decide_eq_false (by omega), decide_eq_false (by omega)]; simp
  rw [e1] at h1
  have H1 := Lib.hid h1
  obtain ⟨A, c, rfl, _, _, _⟩ := h.open_
  clear h h1 e1 hl
  have t1 : ((n : Int) == 0) = false := by simp; omega
  have t1' : (n == 0) = false := by simp; omega
  have t2 : decide ((36 : Int) < (n : Int)) = false := decide_eq_false (by omega)
  have t2' : decide (36 < n) = false := decide_eq_false (by omega)
  go_enter Tryz.func63, Tryz.ntmps63
  go_wp2_with fail
  go_at_call 72
  refine H1.out.mono ?_
  rintro e w1 ⟨rfl, rfl⟩
  go_wp2_with (first
    | (go_at_call 62; refine (formatNo _ _).mono ?_; rintro e w' ⟨rfl, rfl⟩)
    | (go_at_call 61; refine (formatOk3 _ _ (by simp) (by simp) (by simp) (by simp)).mono ?_; rintro e w' ⟨rfl, rfl⟩))
  go_ret
  exact ⟨rfl, (Below.refl _ _).alloc (Nat.le_refl _) _⟩
/-- the lists as functions -/
def fLL (ls : List (List Int)) : List (Nat → Int) := ls.map fun r i => r.getD i 0
theorem RdLL.tab {w : World} {S : Nat → Prop} {v : Value} {m n : Nat} {ls : List (List Int)} (h : RdLL w S v m ls) (hg : GoodLL ls n) : RdTab w S v m n (fLL ls) := by
  obtain ⟨vs, h1, h0, h2⟩ := h
  refine ⟨vs, h1, fun i F hF => ?_⟩
  unfold fLL at hF
  rw [List.getElem?_map, Option.map_eq_some_iff] at hF
  obtain ⟨r, hr, rfl⟩ := hF
  obtain ⟨u, hu, hrd⟩ := h2 i r hr
  have hl := hg.len r (List.mem_of_getElem? hr)
  refine ⟨u, hu, ?_⟩
  rw [← hl, gl_list]; exact hrd
theorem fLL_bd {ls : List (List Int)} {n : Nat} (hg : GoodLL ls n) : ∀ F ∈ fLL ls, ∀ i, i < n → -999999999 ≤ F i ∧ F i ≤ 999999999 := fun F hF i hi => by
  unfold fLL at hF
  obtain ⟨r, hr, rfl⟩ := List.mem_map.1 hF
  have hl := hg.len r hr
  have hb := hg.bd r hr (r.getD i 0) (by
    rw [List.getD_eq_getElem?_getD, List.getElem?_eq_getElem (by omega)]
    exact List.getElem_mem _)
  show -999999999 ≤ r.getD i 0 ∧ r.getD i 0 ≤ 999999999
  omega
set_option maxRecDepth 100000 in
set_option maxHeartbeats 4000000 in
theorem formatRanks_ok (W : World) (v : Value) (m n : Nat) (ls : List (List Int)) (hm : 1 ≤ m ∧ m ≤ 200) (hg : GoodLL ls n) (h : RdLL W (· < W.heap.size) v m ls) :
    Calls Tryz.prog 25 #[v] W fun e w' => ∃ v', e = .returned (.tuple #[v', .int .i64 0]) ∧ St W w' [row 3 1 v' m (intsI (gl (rkF n (fLL ls)) m))] := by
  obtain ⟨A, c, rfl⟩ := h.open_
  have hlen : ls.length = m := by obtain ⟨_, _, h0, _⟩ := h; exact h0
  have H := Lib.hid h
  have HRK : Hid (∀ w, Below W.heap.size W w → Calls Tryz.prog 64 #[.slice A m c] w fun e w' => ∃ v', e = .returned v' ∧ St w w' [row 3 1 v' m (intsI (gl (rkF n (fLL ls)) m))]) := fun w hw =>
    ranksB_ok w _ m n (fLL ls) (by unfold fLL; rw [List.length_map]; exact hlen) hm.2 hg.n (fLL_bd hg) (((H.out.later hw)).tab hg)
  generalize rkF n (fLL ls) = RK at *
  have HAT : Hid (∀ k, k < m → ∀ w, Below W.heap.size W w → ∃ b o u, A = some ⟨b, o, none⟩ ∧ w.cell? ⟨b, o + k, none⟩ = some u ∧ ∃ r, Rd w (· < w.heap.size) 1 u n (intsI r) ∧ ∀ x ∈ r, -9999 ≤ x ∧ x ≤ 9999) := fun k hk w hw => by
    obtain ⟨r, hr⟩ : ∃ r, ls[k]? = some r := ⟨ls[k]'(by omega), List.getElem?_eq_getElem _⟩
    obtain ⟨b, o, u, hA, hc, hrd⟩ := (H.out.later hw).elem hk hr
    have hl := hg.len r (List.mem_of_getElem? hr)
    rw [hl] at hrd
    exact ⟨b, o, u, hA, hc, r, hrd, hg.bd r (List.mem_of_getElem? hr)⟩
  have hn36 := hg.n
  obtain ⟨b, o, u0, hA, hc00, r0, hrd0, _⟩ := HAT.out 0 (by omega) W (Below.refl _ _)
  obtain ⟨A0, cc0, rfl, _, _, _⟩ := hrd0.open_
  rw [Nat.add_zero] at hc00
  subst hA
  have HC0 : Hid (∀ w, Below W.heap.size W w → w.cell? ⟨b, o, none⟩ = some (.slice A0 n cc0)) := fun w hw => by
    have hb : b < W.heap.size := by
      obtain ⟨vs, h1, _⟩ := H.out
      obtain ⟨b3, o3, e3, h3, _⟩ := h1.addr (by omega)
      cases e3
      exact h3
    rw [hw.cell hb]
    exact hc00
  have t0 : ((m : Int) == 0) = false := by simp; omega
  have t0' : (m == 0) = false := by simp; omega
  have t1 : decide ((200 : Int) < (m : Int)) = false := decide_eq_false (by omega)
  have t1' : decide (200 < m) = false := decide_eq_false (by omega)
  have hm0 : 0 < m := by omega
  clear hlen hg hrd0 hc00
  go_enter Tryz.func25, Tryz.ntmps25
  go_wp2_with (first
    | (go_at_call 62; refine (formatNo _ _).mono ?_; rintro e w' ⟨rfl, rfl⟩)
    | (go_at_call 61; refine (formatOk2 _ _ (by simp) (by simp) (by simp)).mono ?_; rintro e w' ⟨rfl, rfl⟩))
  have hb0 := (Below.refl W.heap.size W).alloc (Nat.le_refl _) (.cells #[.int .i64 0, .int .i64 0] 48)
  generalize W.alloc (.cells #[.int .i64 0, .int .i64 0] 48) = w0 at *
  go_loopw [23] (fun i w' => ∃ k : Nat, k ≤ m ∧ i = .int .i64 k ∧ Below W.heap.size W w') (fun i _ => m - (intOf i).toNat)
  case atStart => exact ⟨0, Nat.zero_le _, rfl, hb0⟩
  case round =>
    obtain ⟨k, hk, rfl, hbw⟩ := hrel
    have HBW := Lib.hid hbw
    clear hb0 hbw
    by_cases hlt : k < m
    · obtain ⟨b', o', u, hA', ck, r, hrd, hrb⟩ := HAT.out k hlt _ HBW.out
      cases hA'
      obtain ⟨Ar, cr, rfl, _, _, _⟩ := hrd.open_
      have HCN : Hid (∀ w, Below wr.heap.size wr w → Calls Tryz.prog 63 #[.slice Ar n cr, .int .i64 36] w fun e w' => e = .returned (.int .i64 0) ∧ Below w.heap.size w w') := fun w hw =>
        checkNumbers_ok w _ _ n r hn36 hrb (hrd.later hw)
      have p2 : ((n : Int) != (n : Int)) = false := by simp
      clear hrd hrb
      go_wp2_with fail
      refine wp_cls 10 (fun w' => Below wr.heap.size wr w') (by kernel_rfl) (by kernel_rfl) (Below.refl _ _).drew ?_
      simp only [List.take_succ_cons, List.take_zero, List.drop_succ_cons, List.drop_zero]
      generalize hK : (fun w' => Below wr.heap.size wr w') = K
      intro hne
      have kS : ∀ y : Wd K, Below wr.heap.size wr y.w := by subst hK; exact fun y => y.h
      have hK3 : ∀ w w' : World, K w → Below w.heap.size w w' → K w' := by subst hK; exact fun w w' h h' => h.trans (h'.mono h.size)
      have k0 : ∀ y : Wd K, y.w.cell? ⟨b, o, none⟩ = some (.slice A0 n cc0) := fun y => HC0.out _ (HBW.out.trans ((kS y).mono HBW.out.size))
      have KS := Lib.hid kS
      clear hK kS
      go_big_quiet_step ((fail))
      go_big_quiet_step ((go_at_call 63; exact cls_below hK3 (HCN.out _ (KS.out _))))
      iterate 7 (go_big_quiet_step ((fail)))
      go_big_quiet_step ((go_at_call 62; exact cls_same (formatNo _ _)))
      refine wpQuiet_nil ?_
      intro y
      have hby := HBW.out.trans ((KS.out y).mono HBW.out.size)
      have HBY := Lib.hid (hby.alloc hby.size (.cells #[.int .i64 0, .int .i64 0] 48))
      clear k0 hK3 hne KS hby
      generalize y.w = w3 at *
      go_wp2_with (go_at_call 61; refine (formatOk2 _ _ (by simp) (by simp) (by simp)).mono ?_; rintro e w' ⟨rfl, rfl⟩)
      go_roundw
      case rel => exact ⟨k + 1, by omega, by go_num, HBY.out⟩
      case measure => simp [intOf]; omega
    · obtain rfl : m = k := by omega
      go_wp2_with fail
      go_at_call 64
      refine (HRK.out _ HBW.out).mono ?_
      rintro e w2 ⟨v', rfl, S2⟩
      have HS2 := Lib.hid ((St.of_below HBW.out).call S2)
      clear S2
      go_wp2_with fail
      go_ret2
      exact ⟨v', rfl, HS2.out⟩
end Go.Proofs.YtkkkfjinflepmaaGreatDoor
/- TopDivotKnockout: the order of the players. -/
namespace Go.Proofs.YtkkkfjinflepmaaGreatDoor
open Go.RowKit Go.Mem Go.Sheet Go.Adj
/-- the players of the ranks 1 to t -/
def ordL (rr : Nat → Nat) (m t : Nat) : List Nat := (List.range t).flatMap fun r => memR rr (r + 1) m
theorem ordL_snoc (rr : Nat → Nat) (m t : Nat) : ordL rr m (t + 1) = ordL rr m t ++ memR rr (t + 1) m := by
  unfold ordL; rw [List.range_succ, List.flatMap_append]; simp
theorem ordL_mem {rr : Nat → Nat} {m i : Nat} : ∀ {t}, i ∈ ordL rr m t ↔ i < m ∧ 1 ≤ rr i ∧ rr i ≤ t := by
  intro t
  unfold ordL
  rw [List.mem_flatMap]
  constructor
  · rintro ⟨r, hr, hi⟩
    obtain ⟨h1, h2⟩ := memR_mem.1 hi
    have := List.mem_range.1 hr
    omega
  · rintro ⟨h1, h2, h3⟩
    exact ⟨rr i - 1, List.mem_range.2 (by omega), memR_mem.2 ⟨h1, by omega⟩⟩
theorem memR_nodup (rr : Nat → Nat) (r k : Nat) : (memR rr r k).Nodup := by
  unfold memR
  exact List.Nodup.sublist List.filter_sublist List.nodup_range
theorem ordL_nodup (rr : Nat → Nat) (m : Nat) : ∀ t, (ordL rr m t).Nodup
  | 0 => List.nodup_nil
  | t + 1 => by
    rw [ordL_snoc, List.nodup_append]
    refine ⟨ordL_nodup rr m t, memR_nodup _ _ _, fun a ha b hb e => ?_⟩
    subst e
    have h1 := (ordL_mem.1 ha).2.2
    have h2 := (memR_mem.1 hb).2
    omega
theorem nodup_len : ∀ (m : Nat) (l : List Nat), l.Nodup → (∀ i, i ∈ l ↔ i < m) → l.length = m
  | 0, l, _, h => by
    cases l with
    | nil => rfl
    | cons a l => exact absurd ((h a).1 (by simp)) (Nat.not_lt_zero _)
  | m + 1, l, hn, h => by
    have ih := nodup_len m (l.erase m) (hn.erase m) (fun i => by
      rw [hn.mem_erase_iff, h i]; omega)
    have h1 := List.length_erase_of_mem ((h m).2 (by omega))
    have h2 : 0 < l.length := List.length_pos_of_mem ((h m).2 (by omega))
    omega
theorem ordL_len {rr : Nat → Nat} {m : Nat} (h : ∀ i, i < m → 1 ≤ rr i ∧ rr i ≤ m) : (ordL rr m m).length = m :=
  nodup_len m _ (ordL_nodup rr m m) fun i => by
    rw [ordL_mem]
    exact ⟨fun e => e.1, fun e => ⟨e, h i e⟩⟩
theorem ordL_le (rr : Nat → Nat) (m : Nat) : ∀ t, (ordL rr m t).length ≤ t * m
  | 0 => by show 0 ≤ _; omega
  | t + 1 => by
    have h1 := ordL_le rr m t
    have h2 := memR_len rr (t + 1) m
    rw [ordL_snoc, List.length_append, Nat.add_mul]
    omega
def rrK (n : Nat) (ls : List (List Int)) (i : Nat) : Nat := rankF n (fLL ls) (lsAt (fLL ls) i)
theorem rrK_bd {n m : Nat} {ls : List (List Int)} (h : ls.length = m) (i : Nat) (hi : i < m) : 1 ≤ rrK n ls i ∧ rrK n ls i ≤ m := by
  unfold rrK rankF before
  refine ⟨by omega, ?_⟩
  have hl : (fLL ls).length = m := by unfold fLL; rw [List.length_map]; exact h
  have hmem := lsAt_mem (ls := fLL ls) (i := i) (by omega)
  have h2 : ((fLL ls).filter fun b => cbLt n b (lsAt (fLL ls) i)).length < (fLL ls).length := by
    rcases Nat.lt_or_ge ((fLL ls).filter fun b => cbLt n b (lsAt (fLL ls) i)).length (fLL ls).length with h | h
    · exact h
    · have h3 := List.length_filter_eq_length_iff.1 (Nat.le_antisymm (List.length_filter_le _ _) h) _ hmem
      unfold cbLt at h3
      rw [lexLt_self] at h3
      cases h3
  omega
set_option maxRecDepth 100000 in
set_option maxHeartbeats 4000000 in
theorem order_ok (W : World) (v : Value) (m n : Nat) (ls : List (List Int)) (hm : 1 ≤ m ∧ m ≤ 12) (hg : GoodLL ls n) (h : RdLL W (· < W.heap.size) v m ls) :
    Calls Tryz.prog 18 #[v] W fun e w' => ∃ v', e = .returned (.tuple #[v', .bool true]) ∧ St W w' [row 3 1 v' m (natV (ordL (rrK n ls) m m))] := by
  have HR := Lib.hid (formatRanks_ok W v m n ls ⟨hm.1, by omega⟩ hg h)
  have hlen : ls.length = m := by obtain ⟨_, _, h0, _⟩ := h; exact h0
  have HL := Lib.hid (ordL_len (rr := rrK n ls) (rrK_bd hlen))
  have HOL := Lib.hid (ordL_le (rrK n ls) m)
  have HML := Lib.hid (memR_len (rrK n ls))
  have HB := Lib.hid (rrK_bd (n := n) hlen)
  have hrl : gl (rkF n (fLL ls)) m = gl (fun i => (rrK n ls i : Int)) m := rfl
  rw [hrl] at HR
  obtain ⟨A, c, rfl⟩ := h.open_
  generalize rrK n ls = rr at *
  have hm0 : 1 ≤ m := hm.1
  have hm12 : m ≤ 12 := hm.2
  have z1 : ((m : Int) != (m : Int)) = false := by simp
  clear h hg hlen hrl hm
  go_enter Tryz.func18, Tryz.ntmps18
  go_wp2_with fail
  go_at_call 25
  refine HR.out.mono ?_
  rintro e w1 ⟨vr, rfl, S1⟩
  obtain ⟨Ar, cr, rfl, _, _, _⟩ := (S1.row_rd (i := 0) rfl).open_
  have S2 := S1.row_nil 3 1
  simp only [List.cons_append, List.nil_append] at S2
  have HS2 : Hid (St W w1 [row 3 1 (.slice Ar m cr) m (intsI (gl (fun i => (rr i : Int)) m)), row 3 1 (.slice none 0 0) (ordL rr m 0).length (natV (ordL rr m 0))]) := S2
  clear S1 S2 HR
  go_wp2_with fail
  go_loopw [7, 6] (fun i ov w' => ∃ t : Nat, t ≤ m ∧ i = .int .i64 ((t : Int) + 1) ∧ St W w' [row 3 1 (.slice Ar m cr) m (intsI (gl (fun i => (rr i : Int)) m)), row 3 1 ov (ordL rr m t).length (natV (ordL rr m t))]) (fun i _ _ => m + 1 - (intOf i).toNat)
  case atStart => exact ⟨0, Nat.zero_le _, rfl, HS2.out⟩
  case round =>
    obtain ⟨t, ht, rfl, S⟩ := hrel
    clear HS2
    by_cases htm : t < m
    · have t1 : decide ((t : Int) + 1 ≤ (m : Int)) = true := decide_eq_true (by omega)
      have HS3 : Hid (St W wr [row 3 1 (.slice Ar m cr) m (intsI (gl (fun i => (rr i : Int)) m)), row 3 1 u6 (ordL rr m t ++ memR rr (t + 1) 0).length (natV (ordL rr m t ++ memR rr (t + 1) 0))]) := by
        show St _ _ _
        rw [show memR rr (t + 1) 0 = [] from rfl, List.append_nil]; exact S
      clear S
      go_wp2_with fail
      go_loopw [31, 6] (fun i ov w' => ∃ k : Nat, k ≤ m ∧ i = .int .i64 k ∧ St W w' [row 3 1 (.slice Ar m cr) m (intsI (gl (fun i => (rr i : Int)) m)), row 3 1 ov (ordL rr m t ++ memR rr (t + 1) k).length (natV (ordL rr m t ++ memR rr (t + 1) k))]) (fun i _ _ => m - (intOf i).toNat)
      case atStart => exact ⟨0, Nat.zero_le _, rfl, HS3.out⟩
      case round =>
        obtain ⟨k, hk, rfl, S⟩ := hrel
        clear HS3
        by_cases hkm : k < m
        · obtain ⟨b, o, x, hA, hx, c0⟩ := Rd.int (q := .i64) (S.row_rd (i := 0) rfl) hkm
          rw [gl_at _ hkm] at hx
          cases hx
          subst hA
          have hms := memR_snoc rr (t + 1) k
          have hb := HB.out k hkm
          have hl1 : (ordL rr m t ++ memR rr (t + 1) k).length ≤ 400 := by
            have h1 := HOL.out t
            have h2 := HML.out (t + 1) k
            have h3 : t * m ≤ 12 * 12 := Nat.mul_le_mul (by omega) hm12
            rw [List.length_append]; omega
          by_cases he : rr k = t + 1
          · have q1 : ((rr k : Int) == (t : Int) + 1) = true := by rw [he]; simp
            rw [if_pos he] at hms
            have HNL : Hid (ordL rr m t ++ memR rr (t + 1) (k + 1) = (ordL rr m t ++ memR rr (t + 1) k) ++ [k]) := by show _ = _; rw [hms, List.append_assoc]
            generalize ordL rr m t ++ memR rr (t + 1) k = L0 at *
            have HS4 := Lib.hid (S.alloc (.cells #[.int .i64 (k : Int)] 3))
            clear S he hms
            generalize rr k = rk at *
            go_wp2_with (at_builtin; refine wpList_append_st eltI rfl _ _ rfl rfl HS4.out (k := 1) rfl rfl (rd_one (by simp)) (one_int _ _) (by omega) (by omega) ?_; intro v1' w8 S8 _; simp only [List.set_cons_zero, List.set_cons_succ] at S8; have HS8 := Lib.hid S8; clear S8)
            go_roundw
            case rel =>
              refine ⟨k + 1, by omega, by go_num, ?_⟩
              rw [HNL.out, natV_snoc, List.length_append]
              exact HS8.out
            case measure => simp [intOf]; omega
          · have q1 : ((rr k : Int) == (t : Int) + 1) = false := by
              rw [Bool.eq_false_iff]; intro e; have := eq_of_beq e; omega
            rw [if_neg he, List.append_nil] at hms
            have HMS := Lib.hid hms
            have HS4 := Lib.hid S
            clear S he hms
            generalize rr k = rk at *
            go_wp2_with fail
            go_roundw
            case rel => exact ⟨k + 1, by omega, by go_num, by rw [HMS.out]; exact HS4.out⟩
            case measure => simp [intOf]; omega
        · obtain rfl : m = k := by omega
          have HS4 := Lib.hid S
          clear S
          go_wp2_with fail
          go_roundw
          case rel => exact ⟨t + 1, by omega, by go_num, by rw [ordL_snoc]; exact HS4.out⟩
          case measure => simp [intOf]; omega
    · obtain rfl : m = t := by omega
      have t1 : decide ((m : Int) + 1 ≤ (m : Int)) = false := decide_eq_false (by omega)
      have hl := HL.out
      rw [hl] at S
      have z2 : ((m : Int) == (m : Int)) = true := by simp
      obtain ⟨Ao, co, rfl, _, _, _⟩ := (S.row_rd (i := 1) rfl).open_
      have HS4 := Lib.hid S
      clear S hl
      go_wp2_with fail
      go_ret2
      exact ⟨_, rfl, HS4.out.sub (L' := [_]) (.cons _ (List.Sublist.refl _))⟩
end Go.Proofs.YtkkkfjinflepmaaGreatDoor
