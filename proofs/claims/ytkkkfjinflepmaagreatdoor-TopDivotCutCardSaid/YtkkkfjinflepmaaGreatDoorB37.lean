/- Part 37 of the walks of the golf union's program: DP4, DP5. -/
import Derived.Test.YtkkkfjinflepmaaGreatDoorB36
import Derived.Test.YtkkkfjinflepmaaGreatDoorB35
set_option linter.unusedVariables false
set_option linter.unusedSimpArgs false
set_option linter.unusedSectionVars false
set_option linter.constructorNameAsVariable false
/- Chapter 7: the check of a field of lines (printed by gen_line.py). -/
namespace Go.Proofs.YtkkkfjinflepmaaGreatDoor
open Go.RowKit Go.Mem Go.Sheet Go.Adj
def lnNames (ls : List LnI) (i : Nat) : ByteArray := (ls.getD i default).name
set_option maxRecDepth 100000 in
set_option maxHeartbeats 4000000 in
theorem eventField_ok (W : World) (v : Value) (m : Nat) (ls : List LnI) (hm : m ≤ 200) (h : RdLn W (· < W.heap.size) v m ls) (hg : ∀ x ∈ ls, 1 ≤ x.s ∧ x.s ≤ 9999) (hn : GoodNs (lnNames ls) m) :
    Calls Tryz.prog 38 #[v] W fun e w' => e = .returned (.int .i64 0) ∧ Below W.heap.size W w' := by
  obtain ⟨A, c, rfl, _, _, _⟩ := h.1.open_
  have H := Lib.hid h
  have HG := Lib.hid hg
  have HN := Lib.hid hn
  have HNK : Hid (∀ k x, ls[k]? = some x → lnNames ls k = x.name) := fun k x hx => by unfold lnNames; simp [List.getD, hx]
  generalize lnNames ls = f at *
  clear h hg hn
  have t1 : decide ((200 : Int) < (m : Int)) = false := decide_eq_false (by omega)
  have t1' : decide (200 < m) = false := decide_eq_false (by omega)
  have hE := enters Tryz.func87 (by kernel_rfl) rfl
  have HEA : Hid (∀ (w : World) (b gp : Nat), St W w [mapS b (seenE f 0) 0, blk gp 110 #[.map (some b)]] → Calls Tryz.prog 86 #[.slice A m c, .func (.func 87) #[] #[.pointer (some ⟨gp, 0, none⟩)]] w fun e w' => e = .returned (.int .i64 0) ∧ Below W.heap.size W w') := by
    intro w b gp S
    unfold Enters at hE
    have HS := Lib.hid S
    clear S
    go_enter Tryz.func86, Tryz.ntmps86
    go_wp2_with fail
    go_loopw [10] (fun i w' => ∃ k : Nat, k ≤ m ∧ i = .int .i64 k ∧ St W w' [mapS b (seenE f k) k, blk gp 110 #[.map (some b)]]) (fun i _ => m - (intOf i).toNat)
    case atStart => exact ⟨0, Nat.zero_le _, rfl, HS.out⟩
    case round =>
      obtain ⟨k, hk, rfl, S⟩ := hrel
      clear HS
      by_cases hlt : k < m
      · obtain ⟨b', o, x, hA, hx, c0, c1, c2, c3⟩ := (H.out.later S.bel).elem hlt
        subst hA
        have hxl := List.mem_of_getElem? hx
        have hnk := HNK.out k x hx
        have hgn := HN.out.ok k hlt
        rw [hnk] at hgn
        have S1 := (S.blk_new #[.string x.name, .bool false, .slice x.a 1 x.c, .string ⟨#[]⟩] 89)
        simp only [List.cons_append, List.nil_append] at S1
        have HC := Lib.hid (checkLine_ok W _ b gp k f x (S1.sub (List.sublist_append_left [_, _] [_])) (HG.out x hxl) ((H.out.later S1.bel).2 x hxl) hgn.1 hgn.2 hnk (fun j hj e => HN.out.two k j hlt hj (by rw [hnk]; exact e)))
        have d0 := S1.blk_cell (i := 2) rfl 0
        have d1 := S1.blk_cell (i := 2) rfl 1
        have d2 := S1.blk_cell (i := 2) rfl 2
        have d3 := S1.blk_cell (i := 2) rfl 3
        obtain ⟨nx, ax, cx, sx⟩ := x
        unfold LnI.val at HC
        simp only at HC c0 c1 c2 c3 d0 d1 d2 d3
        clear S S1 hx hxl hnk hgn
        generalize seenE f k = es at *
        obtain ⟨es1, hes1⟩ : ∃ e, e = seenE f (k + 1) := ⟨_, rfl⟩
        rw [← hes1] at HC
        have HES := Lib.hid hes1
        clear hes1
        go_wp2_with fail
        refine HC.out.mono ?_
        rintro e w2 ⟨rfl, S2⟩
        have HS2 := Lib.hid S2
        clear S2 HC d0 d1 d2 d3 c0 c1 c2 c3
        go_wp2_with fail
        go_roundw
        case rel => exact ⟨k + 1, by omega, by go_num, by rw [← HES.out]; exact HS2.out⟩
        case measure => simp [intOf]; omega
      · obtain rfl : m = k := by omega
        have HB := Lib.hid S.bel
        clear S
        go_wp2_with fail
        go_ret
        exact ⟨rfl, HB.out⟩
  have hmm := @run_makeMap Tryz.prog
  have S0 := (St.refl W).mapS_new
  simp only [List.nil_append] at S0
  have S1 := S0.blk_new #[.map (some W.heap.size)] 110
  simp only [List.cons_append, List.nil_append, World.size_alloc] at S1
  have HS1 : Hid (St W _ [mapS W.heap.size (seenE f 0) 0, blk (W.heap.size + 1) 110 #[.map (some W.heap.size)]]) := S1
  clear S0 S1 hE
  go_enter Tryz.func38, Tryz.ntmps38
  go_wp2_with fail
  go_at_call 86
  refine (HEA.out _ _ _ HS1.out).mono ?_
  rintro e w2 ⟨rfl, hb⟩
  have HB := Lib.hid hb
  clear hb HS1 HEA
  go_wp2_with fail
  go_ret
  exact ⟨rfl, HB.out⟩
end Go.Proofs.YtkkkfjinflepmaaGreatDoor
/- Chapter 7: a purse without an error. -/
namespace Go.Proofs.YtkkkfjinflepmaaGreatDoor
open Go.RowKit Go.Mem Go.Sheet Go.Adj
theorem eventWithin_ok (x lo hi : Int) (hx : lo ≤ x ∧ x ≤ hi) (w : World) : Calls Tryz.prog 59 #[.int .i64 x, .int .i64 lo, .int .i64 hi] w fun e w' => e = .returned (.int .i64 0) ∧ w = w' := by
  have t1 : decide (x < lo) = false := decide_eq_false (by omega)
  have t2 : decide (hi < x) = false := decide_eq_false (by omega)
  go_enter Tryz.func59, Tryz.ntmps59
  go_wp2_with (go_at_call 52; refine (eventNo _ _).mono ?_; rintro e w' ⟨rfl, rfl⟩)
  go_ret
  exact ⟨rfl, rfl⟩
structure GoodPu (g : Nat → Int) (n : Nat) : Prop where
  bd : ∀ i, i < n → 0 ≤ g i ∧ g i ≤ 999999999
  dn : ∀ i, i + 1 < n → g (i + 1) ≤ g i
  sm : sumTo g n ≤ 999999999
theorem sumTo_nn {g : Nat → Int} {n : Nat} (h : ∀ i, i < n → 0 ≤ g i) : ∀ k, k ≤ n → 0 ≤ sumTo g k ∧ sumTo g k ≤ sumTo g n := by
  have h0 : ∀ k, k ≤ n → 0 ≤ sumTo g k := fun k => by
    induction k with
    | zero => intro _; exact Int.le_refl _
    | succ k ih =>
      intro hk
      have h1 := ih (by omega)
      have h2 := h k (by omega)
      show 0 ≤ sumTo g k + g k
      omega
  intro k hk
  refine ⟨h0 k hk, ?_⟩
  obtain ⟨d, rfl⟩ : ∃ d, n = k + d := ⟨n - k, by omega⟩
  clear hk
  induction d with
  | zero => exact Int.le_refl _
  | succ d ih =>
    have h1 := ih (fun i hi => h i (by omega)) (fun k hk => h0 k (by omega))
    have h2 := h (k + d) (by omega)
    show sumTo g k ≤ sumTo g (k + d) + g (k + d)
    omega
set_option maxRecDepth 100000 in
set_option maxHeartbeats 4000000 in
theorem checkPurse_ok (W : World) (v : Value) (n : Nat) (g : Nat → Int) (hn : n ≤ 200) (hg : GoodPu g n) (h : Rd W (· < W.heap.size) 1 v n (intsI (gl g n))) :
    Calls Tryz.prog 39 #[v] W fun e w' => e = .returned (.int .i64 0) ∧ Below W.heap.size W w' := by
  obtain ⟨A, c, rfl, _, _, _⟩ := h.open_
  have HS := Lib.hid (fun k (hk : k ≤ n) => sumTo_nn (g := g) (fun i hi => (hg.bd i hi).1) k hk)
  have HST : Hid (∀ k, sumTo g (k + 1) = sumTo g k + g k) := fun _ => rfl
  have hsm := hg.sm
  have HG := Lib.hid hg
  have HC : Hid (∀ k, k < n → ∀ w, Below W.heap.size W w → ∃ b o, A = some ⟨b, o, none⟩ ∧ w.cell? ⟨b, o + k, none⟩ = some (.int .i64 (g k))) := fun k hk w hw => by
    obtain ⟨b, o, x, hA, hx, hc⟩ := Rd.int (q := .i64) (h.later hw) hk
    rw [gl_at g hk] at hx
    cases hx
    exact ⟨b, o, hA, hc⟩
  have t1 : decide ((200 : Int) < (n : Int)) = false := decide_eq_false (by omega)
  have t1' : decide (200 < n) = false := decide_eq_false (by omega)
  clear h hg
  go_enter Tryz.func39, Tryz.ntmps39
  go_wp2_with fail
  go_loopw [12, 3] (fun i s w' => ∃ k : Nat, k ≤ n ∧ i = .int .i64 k ∧ s = .int .i64 (sumTo g k) ∧ Below W.heap.size W w') (fun i _ _ => n - (intOf i).toNat)
  case atStart => exact ⟨0, Nat.zero_le _, rfl, rfl, Below.refl _ _⟩
  case round =>
    obtain ⟨k, hk, rfl, rfl, hb⟩ := hrel
    have hs := HS.out k hk
    by_cases hlt : k < n
    · obtain ⟨b, o, hA, c0⟩ := HC.out k hlt _ hb
      subst hA
      have hgk := HG.out.bd k hlt
      have hs1 := HS.out (k + 1) hlt
      have hst := HST.out k
      have HB := Lib.hid (hb.alloc hb.size (.cells #[.int .i64 0, .int .i64 0] 48))
      by_cases hk0 : k = 0
      · subst hk0
        rw [Nat.add_zero] at c0
        have HST1 := Lib.hid hst
        rw [hst] at hs1
        generalize g 0 = x at *
        generalize sumTo g 0 = sx at *
        have hw : IntKind.i64.wrap (sx + x) = sx + x := IntWalk.i64_in _ (by omega)
        clear hst hb
        go_wp2_with (first
          | (go_at_call 59; refine (eventWithin_ok _ _ _ hgk _).mono ?_; rintro e w' ⟨rfl, rfl⟩)
          | (go_at_call 52; refine (eventNo _ _).mono ?_; rintro e w' ⟨rfl, rfl⟩)
          | (go_at_call 37; refine (eventOk2 _ _ (by simp) (by simp) (by simp)).mono ?_; rintro e w' ⟨rfl, rfl⟩))
        go_roundw
        case rel => exact ⟨1, by omega, by go_num, by rw [HST1.out], HB.out⟩
        case measure => simp [intOf]; omega
      · obtain ⟨kp, hkp⟩ : ∃ kp, kp = k - 1 := ⟨_, rfl⟩
        obtain ⟨b', o', hA', c1⟩ := HC.out kp (by omega) _ hb
        cases hA'
        have hdn := HG.out.dn kp (by omega)
        rw [show kp + 1 = k by omega] at hdn
        have HST1 := Lib.hid hst
        rw [hst] at hs1
        have t3 : decide (0 < k) = true := decide_eq_true (by omega)
        have t4 : decide ((0 : Int) < (k : Int)) = true := decide_eq_true (by omega)
        have t5 : IntKind.i64.wrap ((k : Int) - 1) = (kp : Int) := by rw [show (k : Int) - 1 = (kp : Int) by omega]; exact IntWalk.i64_in _ (by omega)
        have t6 : decide (g kp < g k) = false := decide_eq_false (by omega)
        have t7 : decide ((n : Int) ≤ (kp : Int)) = false := decide_eq_false (by omega)
        have t8 : decide (n ≤ kp) = false := decide_eq_false (by omega)
        have hkn : kp < n := by omega
        generalize g k = x at *
        generalize g kp = xp at *
        generalize sumTo g k = sx at *
        have hw : IntKind.i64.wrap (sx + x) = sx + x := IntWalk.i64_in _ (by omega)
        clear hst hb hkp hk0
        go_wp2_with (first
          | (go_at_call 59; refine (eventWithin_ok _ _ _ hgk _).mono ?_; rintro e w' ⟨rfl, rfl⟩)
          | (go_at_call 52; refine (eventNo _ _).mono ?_; rintro e w' ⟨rfl, rfl⟩)
          | (go_at_call 37; refine (eventOk2 _ _ (by simp) (by simp) (by simp)).mono ?_; rintro e w' ⟨rfl, rfl⟩))
        go_roundw
        case rel => exact ⟨k + 1, by omega, by go_num, by rw [HST1.out], HB.out⟩
        case measure => simp [intOf]; omega
    · obtain rfl : n = k := by omega
      have t2 : decide ((999999999 : Int) < sumTo g n) = false := decide_eq_false (by omega)
      generalize sumTo g n = sx at *
      have HB := Lib.hid hb
      clear hb
      go_wp2_with (go_at_call 52; refine (eventNo _ _).mono ?_; rintro e w' ⟨rfl, rfl⟩)
      go_ret
      exact ⟨rfl, HB.out⟩
end Go.Proofs.YtkkkfjinflepmaaGreatDoor
