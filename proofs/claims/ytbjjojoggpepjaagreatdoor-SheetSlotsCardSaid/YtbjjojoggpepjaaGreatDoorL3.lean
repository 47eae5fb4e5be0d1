/- Walks of the reference: Starts, Shotgun, Daylight; sameSlots. -/
import Derived.Test.YtbjjojoggpepjaaGreatDoorB10
import Derived.Test.YtbjjojoggpepjaaGreatDoorB09
import Derived.Test.YtbjjojoggpepjaaGreatDoorB05
import Derived.BigQuiet
import Derived.Deep.QuietTactic
import Derived.Test.YtbjjojoggpepjaaGreatDoorB11
import Derived.Test.YtbjjojoggpepjaaGreatDoorB23
set_option linter.unusedVariables false
set_option linter.unusedSimpArgs false
set_option linter.unusedSectionVars false
set_option linter.constructorNameAsVariable false
namespace Go.Proofs.YtbjjojoggpepjaaGreatDoor
open Go.RowKit Go.Mem Go.Sheet
/-- slots of the reference's type, and an error -/
def RetRSlots (W : World) (res : List Slot × Int) (e : Ending) (w' : World) : Prop :=
  ∃ v', e = .returned (.tuple #[v', .int .i64 res.2]) ∧ St W w' [row 90 3 v' res.1.length (res.1.flatMap Slot.cells)]
theorem RetRSlots.err {W w' : World} {e : Int} (h : Below W.heap.size W w') : RetRSlots W ([], e) (.returned (.tuple #[.slice none 0 0, .int .i64 e])) w' :=
  ⟨_, rfl, (St.of_below h).row_nil 90 3⟩
theorem fst_outs3 (a b c : Bool) : fst [if a = true then 3 else 0, if b = true then 3 else 0, if c = true then 3 else 0] = if (a || (b || c)) = true then 3 else 0 := by
  cases a <;> cases b <;> cases c <;> rfl
theorem fst_outs4 (a b c d : Bool) : fst [if a = true then 3 else 0, if b = true then 3 else 0, if c = true then 3 else 0, if d = true then 3 else 0] = if (a || (b || (c || d))) = true then 3 else 0 := by
  cases a <;> cases b <;> cases c <;> cases d <;> rfl
set_option maxRecDepth 100000 in
set_option maxHeartbeats 4000000 in
theorem refShotgun_any (W : World) (m h p : Int) : Calls Tryz.prog 44 #[.int .i64 m, .int .i64 h, .int .i64 p] W (RetRSlots W (shotgun m h p)) := by
  have HE : Hid (shotgunE m h p = if (outB m 0 10000 || (outB h 1 24 || outB p 1 8)) = true then 3 else 0) := by
    show _ = _
    rw [shotgunE, outE_outB, outE_outB, outE_outB, fst_outs3]
  have HS : Hid (shotgun m h p = if shotgunE m h p ≠ 0 then ([], shotgunE m h p) else (shotgunL m p h.toNat, 0)) := rfl
  have H3 : Hid ((outB m 0 10000 || (outB h 1 24 || outB p 1 8)) = true → shotgun m h p = ([], 3)) := fun h0 => by
    rw [HS.out, HE.out, if_pos h0]; rfl
  have H0 : Hid (outB m 0 10000 = false → outB h 1 24 = false → outB p 1 8 = false → shotgun m h p = (shotgunL m p h.toNat, 0)) := fun h1 h2 h3 => by
    rw [HS.out, HE.out, h1, h2, h3]; rfl
  go_enter Tryz.func44, Tryz.ntmps44
  by_cases g1 : outB m 0 10000 = true
  · have HV := Lib.hid (H3.out (by rw [g1]; rfl))
    go_wp2_with (go_at_call 47; refine (outB_any _ _ _ _).mono ?_; rintro e w' ⟨rfl, rfl⟩)
    go_ret2
    rw [HV.out]
    exact RetRSlots.err (Below.refl _ _)
  · have g1' : outB m 0 10000 = false := by simpa using g1
    clear g1
    by_cases g2 : outB h 1 24 = true
    · have HV := Lib.hid (H3.out (by rw [g1', g2]; rfl))
      go_wp2_with (go_at_call 47; refine (outB_any _ _ _ _).mono ?_; rintro e w' ⟨rfl, rfl⟩)
      go_ret2
      rw [HV.out]
      exact RetRSlots.err (Below.refl _ _)
    · have g2' : outB h 1 24 = false := by simpa using g2
      clear g2
      by_cases g3 : outB p 1 8 = true
      · have HV := Lib.hid (H3.out (by rw [g1', g2', g3]; rfl))
        go_wp2_with (go_at_call 47; refine (outB_any _ _ _ _).mono ?_; rintro e w' ⟨rfl, rfl⟩)
        go_ret2
        rw [HV.out]
        exact RetRSlots.err (Below.refl _ _)
      · have g3' : outB p 1 8 = false := by simpa using g3
        have hb2 := outB_false.1 g2'
        obtain ⟨n, rfl⟩ : ∃ n : Nat, h = n := ⟨h.toNat, by omega⟩
        have HV := Lib.hid (H0.out g1' g2' g3')
        have S0 := (St.refl W).row_nil 90 3
        clear g3 H0 H3 HS HE
        go_wp2_with (go_at_call 47; refine (outB_any _ _ _ _).mono ?_; rintro e w' ⟨rfl, rfl⟩)
        go_loopw [9, 8] (fun i v w' => ∃ k : Nat, k ≤ n ∧ i = .int .i64 (k + 1) ∧ St W w' [row 90 3 v k ((shotgunL m p k).flatMap Slot.cells)]) (fun i _ _ => n + 1 - (intOf i).toNat)
        case atStart => exact ⟨0, Nat.zero_le _, rfl, S0⟩
        case round =>
          obtain ⟨k, hk, rfl, S⟩ := hrel
          clear S0
          by_cases hlt : k < n
          · have hle : decide ((k : Int) + 1 ≤ n) = true := by simp; omega
            go_wp2_with (first
              | (at_builtin
                 refine wpList_append_st eltRS rfl _ _ rfl rfl (S.alloc _) (k := 0) rfl rfl (rd_new wr #[.int .i64 m, .int .i64 (k + 1), .int .i64 p] 90 rfl (by omega) (fun _ => True) trivial) (by simp [Value.oneCell']) (by omega) (by omega) ?_
                 intro v' w' S' _))
            go_roundw
            case rel => exact ⟨k + 1, by omega, by go_num, by rw [shotgunL_succ, List.flatMap_append]; simpa [Slot.cells] using S'⟩
            case measure => simp [intOf]; omega
          · obtain rfl : k = n := by omega
            have hle : decide ((k : Int) + 1 ≤ k) = false := by rw [decide_eq_false_iff_not]; omega
            have HSS := Lib.hid S
            clear S
            go_wp2
            go_ret2
            rw [HV.out]
            refine ⟨_, rfl, ?_⟩
            simpa [shotgunL_len] using HSS.out
theorem startsN_big {f l i : Int} (hi : 1 ≤ i) (hfl : f ≤ l) : 24 < (l - f).tdiv i + 1 ↔ 24 < startsN f l i := by
  have h0 : 0 ≤ (l - f) / i := Int.ediv_nonneg (by omega) (by omega)
  rw [Int.tdiv_eq_ediv_of_nonneg (by omega), startsN]
  omega
set_option maxRecDepth 100000 in
set_option maxHeartbeats 4000000 in
theorem refStarts_any (W : World) (f l i p : Int) : Calls Tryz.prog 42 #[.int .i64 f, .int .i64 l, .int .i64 i, .int .i64 p] W (RetRSlots W (starts f l i p)) := by
  have HE : Hid (startsE1 f l i p = if (outB f 0 10000 || (outB l 0 10000 || (outB i 1 10000 || outB p 1 8))) = true then 3 else 0) := by
    show _ = _
    rw [startsE1, outE_outB, outE_outB, outE_outB, outE_outB, fst_outs4]
  have HS : Hid (starts f l i p = if startsE1 f l i p ≠ 0 then ([], startsE1 f l i p) else if startsE2 f l i ≠ 0 then ([], startsE2 f l i) else (startsL f i p (startsN f l i), 0)) := rfl
  have H3 : Hid ((outB f 0 10000 || (outB l 0 10000 || (outB i 1 10000 || outB p 1 8))) = true → starts f l i p = ([], 3)) := fun h0 => by
    rw [HS.out, HE.out, if_pos h0]; rfl
  have H0 : Hid (outB f 0 10000 = false → outB l 0 10000 = false → outB i 1 10000 = false → outB p 1 8 = false → starts f l i p = if startsE2 f l i ≠ 0 then ([], startsE2 f l i) else (startsL f i p (startsN f l i), 0)) := fun h1 h2 h3 h4 => by
    rw [HS.out, HE.out, h1, h2, h3, h4]; rfl
  clear HS HE
  go_enter Tryz.func42, Tryz.ntmps42
  by_cases g1 : outB f 0 10000 = true
  · have HV := Lib.hid (H3.out (by rw [g1]; rfl))
    go_wp2_with (go_at_call 47; refine (outB_any _ _ _ _).mono ?_; rintro e w' ⟨rfl, rfl⟩)
    go_ret2
    rw [HV.out]
    exact RetRSlots.err (Below.refl _ _)
  · have g1' : outB f 0 10000 = false := by simpa using g1
    clear g1
    by_cases g2 : outB l 0 10000 = true
    · have HV := Lib.hid (H3.out (by rw [g1', g2]; rfl))
      go_wp2_with (go_at_call 47; refine (outB_any _ _ _ _).mono ?_; rintro e w' ⟨rfl, rfl⟩)
      go_ret2
      rw [HV.out]
      exact RetRSlots.err (Below.refl _ _)
    · have g2' : outB l 0 10000 = false := by simpa using g2
      clear g2
      by_cases g3 : outB i 1 10000 = true
      · have HV := Lib.hid (H3.out (by rw [g1', g2', g3]; rfl))
        go_wp2_with (go_at_call 47; refine (outB_any _ _ _ _).mono ?_; rintro e w' ⟨rfl, rfl⟩)
        go_ret2
        rw [HV.out]
        exact RetRSlots.err (Below.refl _ _)
      · have g3' : outB i 1 10000 = false := by simpa using g3
        clear g3
        by_cases g4 : outB p 1 8 = true
        · have HV := Lib.hid (H3.out (by rw [g1', g2', g3', g4]; rfl))
          go_wp2_with (go_at_call 47; refine (outB_any _ _ _ _).mono ?_; rintro e w' ⟨rfl, rfl⟩)
          go_ret2
          rw [HV.out]
          exact RetRSlots.err (Below.refl _ _)
        · have g4' : outB p 1 8 = false := by simpa using g4
          have HV := Lib.hid (H0.out g1' g2' g3' g4')
          have b1 := outB_false.1 g1'
          have b2 := outB_false.1 g2'
          have b3 := outB_false.1 g3'
          have b4 := outB_false.1 g4'
          clear g4 H0 H3
          by_cases hfl : l < f
          · have hfl' : decide (l < f) = true := by simpa using hfl
            have HV2 : Hid (starts f l i p = ([], 11)) := by
              show _ = _
              have e : startsE2 f l i = 11 := by rw [startsE2, hfl']; rfl
              rw [HV.out, e]; rfl
            go_wp2_with (go_at_call 47; refine (outB_any _ _ _ _).mono ?_; rintro e w' ⟨rfl, rfl⟩)
            go_ret2
            rw [HV2.out]
            exact RetRSlots.err (Below.refl _ _)
          · have hfl' : decide (l < f) = false := by simpa using hfl
            have HV2 : Hid (starts f l i p = if 24 < startsN f l i then ([], 5) else (startsL f i p (startsN f l i), 0)) := by
              show _ = _
              have e : startsE2 f l i = if 24 < startsN f l i then 5 else 0 := by
                rw [startsE2, hfl']
                by_cases h : 24 < startsN f l i
                · rw [if_pos h, decide_eq_true ((startsN_big (by omega) (by omega)).2 h)]; rfl
                · rw [if_neg h, decide_eq_false (fun h' => h ((startsN_big (by omega) (by omega)).1 h'))]; rfl
              rw [HV.out, e]
              by_cases h : 24 < startsN f l i
              · rw [if_pos h, if_pos h]; rfl
              · rw [if_neg h, if_neg h]; rfl
            have HLE := Lib.hid (fun k : Nat => starts_le (f := f) (l := l) (i := i) (k := k) b3.1 (by omega))
            generalize startsN f l i = n at *
            have S0 := (St.refl W).row_nil 90 3
            clear HV
            go_wp2_with (go_at_call 47; refine (outB_any _ _ _ _).mono ?_; rintro e w' ⟨rfl, rfl⟩)
            go_loopw [11, 10] (fun j v w' => ∃ k : Nat, k ≤ 24 ∧ k ≤ n ∧ j = .int .i64 (f + k * i) ∧ St W w' [row 90 3 v k ((startsL f i p k).flatMap Slot.cells)]) (fun j _ _ => (l + 1 - intOf j).toNat)
            case atStart => exact ⟨0, by omega, Nat.zero_le _, by simp, S0⟩
            case round =>
              obtain ⟨k, hk24, hk, rfl, S⟩ := hrel
              clear S0
              have hle := HLE.out k
              have HNX : Hid (f + (k : Int) * i + i = f + ((k + 1 : Nat) : Int) * i) := by show _ = _; rw [Int.natCast_add, Int.add_mul]; simp; omega
              by_cases hlt : k < n
              · have hin : f + (k : Int) * i ≤ l := hle.2 hlt
                have hin0 : f ≤ f + (k : Int) * i := by
                  have := Int.mul_nonneg (show (0 : Int) ≤ k by omega) (show 0 ≤ i by omega)
                  omega
                generalize HX : f + (k : Int) * i = x at *
                have HX := Lib.hid HX
                have hin' : decide (x ≤ l) = true := by simpa using hin
                clear hle
                obtain ⟨A', c', rfl, _, _, _⟩ := (S.row_rd (i := 0) rfl).open_
                by_cases hk2 : k = 24
                · subst hk2
                  have HV3 := Lib.hid (HV2.out.trans (if_pos hlt))
                  have hbw := S.bel
                  clear S
                  go_wp2
                  go_ret2
                  rw [HV3.out]
                  exact RetRSlots.err hbw
                · have hk2' : ((k : Int) == 24) = false := by simp; omega
                  go_wp2_with (first
                    | (at_builtin
                       refine wpList_append_st eltRS rfl _ _ rfl rfl (S.alloc _) (k := 0) rfl rfl (rd_new wr #[.int .i64 x, .int .i64 1, .int .i64 p] 90 rfl (by omega) (fun _ => True) trivial) (by simp [Value.oneCell']) (by omega) (by omega) ?_
                       intro v' w' S' _))
                  go_roundw
                  case rel => exact ⟨k + 1, by omega, by omega, by rw [← HNX.out], by rw [startsL_succ, List.flatMap_append, HX.out]; simpa [Slot.cells] using S'⟩
                  case measure => simp [intOf]; omega
              · obtain rfl : k = n := by omega
                have hin : ¬ f + (k : Int) * i ≤ l := fun h => hlt (hle.1 h)
                have HV3 := Lib.hid (HV2.out.trans (if_neg (by omega)))
                generalize HX : f + (k : Int) * i = x at *
                have hin' : decide (x ≤ l) = false := by simpa using hin
                have HSS := Lib.hid S
                clear S hle HX
                go_wp2
                go_ret2
                rw [HV3.out]
                refine ⟨_, rfl, ?_⟩
                simpa [startsL_len] using HSS.out
end Go.Proofs.YtbjjojoggpepjaaGreatDoor
/- Walks: the reference's Daylight; sameSlots. -/
namespace Go.Proofs.YtbjjojoggpepjaaGreatDoor
open Go.RowKit Go.Mem Go.Sheet
/-- the reference's test, with the machine's sum -/
def dayOkW (a b r : Int) (s : Slot) : Bool := decide (a ≤ s.m) && decide (wrap64 (s.m + r) ≤ b)
def dayLW (a b r : Int) : Nat → List Slot → List Int
  | _, [] => []
  | k, s :: l => if dayOkW a b r s then (k : Int) :: dayLW a b r (k + 1) l else dayLW a b r (k + 1) l
theorem dayLW_eq {a b r : Int} (hr : 0 ≤ r ∧ r ≤ 10000) : ∀ (l : List Slot) (k : Nat), (∀ s ∈ l, 0 ≤ s.m ∧ s.m ≤ 10000) → dayLW a b r k l = dayL a b r k l := by
  intro l
  induction l with
  | nil => intro k _; rfl
  | cons s l ih =>
    intro k h
    have hs := h s (by simp)
    rw [dayLW, dayL, ih (k + 1) (fun x hx => h x (by simp [hx]))]
    have e : dayOkW a b r s = dayOk a b r s := by
      rw [dayOkW, dayOk, Go.IntWalk.wrap64_in _ (by omega)]
    rw [e]
theorem dayLW_len (a b r : Int) : ∀ (l : List Slot) (k : Nat), (dayLW a b r k l).length ≤ l.length := by
  intro l
  induction l with
  | nil => intro k; simp [dayLW]
  | cons s l ih =>
    intro k
    rw [dayLW]
    have := ih (k + 1)
    split <;> simp <;> omega
set_option maxRecDepth 100000 in
set_option maxHeartbeats 4000000 in
theorem refDaylight_any (W : World) (v : Value) (n : Nat) (l : List Slot) (a b r : Int) (h : Rd W (· < W.heap.size) 3 v n (l.flatMap Slot.cells)) (hn24 : n ≤ 1000) :
    Calls Tryz.prog 48 #[v, .int .i64 a, .int .i64 b, .int .i64 r] W fun e w' => ∃ v', e = .returned v' ∧ St W w' [row 3 1 v' (dayLW a b r 0 l).length ((dayLW a b r 0 l).map (Value.int .i64))] := by
  have HL := Lib.hid (h.count (f := Slot.cells) (size := 3) (fun _ => rfl) (by decide))
  obtain ⟨A, c, rfl, _, _, h⟩ := h.open_
  have H := Lib.hid h
  clear h
  have S0 := (St.refl W).row_nil 3 1
  go_enter Tryz.func48, Tryz.ntmps48
  go_wp2
  go_loopw [10, 9] (fun i v w' => ∃ (k : Nat) (out : List Int), k ≤ n ∧ out.length ≤ k ∧ i = .int .i64 k ∧ Hid (out ++ dayLW a b r k (l.drop k) = dayLW a b r 0 l) ∧ St W w' [row 3 1 v out.length (out.map (Value.int .i64))]) (fun i _ _ => n - (intOf i).toNat)
  case atStart => exact ⟨0, [], Nat.zero_le _, Nat.zero_le _, rfl, rfl, S0⟩
  case round =>
    obtain ⟨k, out, hk, hol, rfl, he, S⟩ := hrel
    clear S0
    by_cases hlt : k < n
    · obtain ⟨b', o, x, rfl, hx, c0, c1, c2⟩ := (H.out.below S.bel).elem3 (k := k) (fun s : Slot => .int .i64 s.m) (fun s : Slot => .int .i64 s.h) (fun s : Slot => .int .i64 s.p) (fun _ => rfl) hlt
      have HST : Hid (out ++ (if dayOkW a b r x then (k : Int) :: dayLW a b r (k + 1) (l.drop (k + 1)) else dayLW a b r (k + 1) (l.drop (k + 1))) = dayLW a b r 0 l) := by
        show _ = _
        rw [← he.out, drop_at hx, dayLW]
      have HD : Hid (dayOkW a b r x = (decide (a ≤ x.m) && decide (wrap64 (x.m + r) ≤ b))) := rfl
      obtain ⟨xm, xh, xp⟩ := x
      dsimp only at c0 c1 c2 HD
      clear hx he
      generalize hsum : wrap64 (xm + r) = sm at *
      by_cases g1 : a ≤ xm
      · have g1' : decide (a ≤ xm) = true := by simpa using g1
        by_cases g2 : sm ≤ b
        · have g2' : decide (sm ≤ b) = true := by simpa using g2
          have HN : Hid ((out ++ [(k : Int)]) ++ dayLW a b r (k + 1) (l.drop (k + 1)) = dayLW a b r 0 l) := by
            have h1 := HST.out
            rw [HD.out, g1', g2'] at h1
            show _ = _
            rw [← h1]; simp
          clear HST HD g1 g2
          go_wp2_with (first
            | (at_builtin
               refine wpList_append_st eltI rfl _ _ rfl rfl (S.alloc _) (k := 0) rfl rfl (rd_new (m := 1) wr #[.int .i64 k] 3 rfl (by omega) (fun _ => True) trivial) (by simp [Value.oneCell']) (by omega) (by omega) ?_
               intro v' w' S' _))
          have HS' := Lib.hid S'
          clear S' S
          go_roundw
          case rel =>
            refine ⟨k + 1, out ++ [(k : Int)], by omega, by simp; omega, by go_num, HN.out, ?_⟩
            have := HS'.out
            rw [List.length_append, List.map_append]
            exact this
          case measure => simp [intOf]; omega
        · have g2' : decide (sm ≤ b) = false := by simpa using g2
          have HN : Hid (out ++ dayLW a b r (k + 1) (l.drop (k + 1)) = dayLW a b r 0 l) := by
            have h1 := HST.out
            rw [HD.out, g1', g2'] at h1
            exact h1
          have HSS := Lib.hid S
          clear HST HD g1 g2 S
          go_wp2
          go_roundw
          case rel => exact ⟨k + 1, out, by omega, by omega, by go_num, HN.out, HSS.out⟩
          case measure => simp [intOf]; omega
      · have g1' : decide (a ≤ xm) = false := by simpa using g1
        have HN : Hid (out ++ dayLW a b r (k + 1) (l.drop (k + 1)) = dayLW a b r 0 l) := by
          have h1 := HST.out
          rw [HD.out, g1'] at h1
          exact h1
        have HSS := Lib.hid S
        clear HST HD g1 S
        go_wp2
        go_roundw
        case rel => exact ⟨k + 1, out, by omega, by omega, by go_num, HN.out, HSS.out⟩
        case measure => simp [intOf]; omega
    · obtain rfl : k = n := by omega
      have HE : Hid (out = dayLW a b r 0 l) := by
        show _ = _
        have := he.out
        rw [List.drop_of_length_le (by have := HL.out; omega), dayLW, List.append_nil] at this
        exact this
      have HSS := Lib.hid S
      clear S he
      go_wp2
      go_ret
      refine ⟨_, rfl, ?_⟩
      rw [← HE.out]
      exact HSS.out
set_option maxRecDepth 100000 in
set_option maxHeartbeats 4000000 in
theorem sameSlots_yes (w : World) (va vb : Value) (n : Nat) (l : List Slot) (ha : Rd w (· < w.heap.size) 3 va n (l.flatMap Slot.cells)) (hb : Rd w (· < w.heap.size) 3 vb n (l.flatMap Slot.cells)) :
    Calls Tryz.prog 45 #[va, vb] w fun r w' => r = .returned (.bool true) ∧ ∃ q, w' = w.drewN q := by
  have hn := ha.le
  have HL := Lib.hid (ha.count (f := Slot.cells) (size := 3) (fun _ => rfl) (by decide))
  obtain ⟨A, c, rfl, _, _, ha⟩ := ha.open_
  obtain ⟨A', c', rfl, _, _, hb⟩ := hb.open_
  go_enter Tryz.func45, Tryz.ntmps45
  go_wp2
  go_loopw [5] (fun i w' => ∃ (k q : Nat), k ≤ n ∧ i = .int .i64 k ∧ w' = w.drewN q) (fun i _ => n - (intOf i).toNat)
  case atStart => exact ⟨0, 0, Nat.zero_le _, rfl, rfl⟩
  case round =>
    obtain ⟨k, q, hk, rfl, rfl⟩ := hrel
    by_cases hlt : k < n
    · obtain ⟨b1, o, x, rfl, hx, c0, c1, c2⟩ := ha.elem3 (k := k) (fun s : Slot => .int .i64 s.m) (fun s : Slot => .int .i64 s.h) (fun s : Slot => .int .i64 s.p) (fun _ => rfl) hlt
      obtain ⟨b2, o2, y, rfl, hy, d0, d1, d2⟩ := hb.elem3 (k := k) (fun s : Slot => .int .i64 s.m) (fun s : Slot => .int .i64 s.h) (fun s : Slot => .int .i64 s.p) (fun _ => rfl) hlt
      cases Option.some.inj (hy.symm.trans hx)
      obtain ⟨xm, xh, xp⟩ := x
      dsimp only at c0 c1 c2 d0 d1 d2
      clear hx hy ha hb
      go_wp2_with fail
      go_quiet (fail)
      go_wp2
      go_roundw
      case rel => exact ⟨k + 1, _, by omega, by go_num, by first | rfl | exact World.drewN_drewN _ _ _⟩
      case measure => simp [intOf]; omega
    · obtain rfl : k = n := by omega
      clear ha hb
      go_wp2
      go_ret
      exact ⟨rfl, q, rfl⟩
end Go.Proofs.YtbjjojoggpepjaaGreatDoor
/- The law SheetSlots, walked. -/
namespace Go.Proofs.YtbjjojoggpepjaaGreatDoor
open Go.RowKit Go.Mem Go.Sheet
theorem starts_len (f l i p : Int) : (starts f l i p).1.length ≤ 24 := by
  rw [starts]
  by_cases h1 : startsE1 f l i p ≠ 0
  · rw [if_pos h1]; simp
  · rw [if_neg h1]
    by_cases h2 : startsE2 f l i ≠ 0
    · rw [if_pos h2]; simp
    · rw [if_neg h2]
      show (startsL f i p (startsN f l i)).length ≤ 24
      rw [startsL_len]
      simp only [ne_eq, Classical.not_not] at h1 h2
      rw [startsE1, fst_zero] at h1
      simp only [List.mem_cons, List.not_mem_nil, or_false, forall_eq_or_imp, forall_eq, outE_zero] at h1
      rw [startsE2, fst_zero] at h2
      simp only [List.mem_cons, List.not_mem_nil, or_false, forall_eq_or_imp, forall_eq, whenE_zero _ _ (show (11 : Int) ≠ 0 by decide), whenE_zero _ _ (show (5 : Int) ≠ 0 by decide)] at h2
      have h3 : f ≤ l := by simpa using h2.1
      have h4 := h2.2
      rw [decide_eq_false_iff_not, startsN_big (by omega) h3] at h4
      omega
theorem shotgun_len (m h p : Int) : (shotgun m h p).1.length ≤ 24 := by
  rw [shotgun]
  by_cases h1 : shotgunE m h p ≠ 0
  · rw [if_pos h1]; simp
  · rw [if_neg h1]
    show (shotgunL m p h.toNat).length ≤ 24
    rw [shotgunL_len]
    simp only [ne_eq, Classical.not_not] at h1
    rw [shotgunE, fst_zero] at h1
    simp only [List.mem_cons, List.not_mem_nil, or_false, forall_eq_or_imp, forall_eq, outE_zero] at h1
    omega
theorem fst_snoc (l : List Int) (x : Int) (h : fst l = 0) : fst (l ++ [x]) = x := by
  induction l with
  | nil =>
    show fst [x] = x
    rw [fst]
    by_cases h : x = 0
    · rw [if_neg (by simpa using h), h]; rfl
    · rw [if_pos h]
  | cons y l ih =>
    rw [fst] at h
    by_cases hy : y ≠ 0
    · rw [if_pos hy] at h; exact absurd h hy
    · rw [if_neg hy] at h
      rw [List.cons_append, fst, if_neg hy]
      exact ih h
theorem fst_take : ∀ {l : List Int} {m : Nat}, fst (l.take m) ≠ 0 → fst (l.take m) = fst l := by
  intro l
  induction l with
  | nil => intro m _; simp
  | cons y l ih =>
    intro m h
    cases m with
    | zero => simp [fst] at h
    | succ m =>
      rw [List.take_succ_cons] at h ⊢
      rw [fst] at h ⊢
      rw [fst]
      by_cases hy : y ≠ 0
      · rw [if_pos hy, if_pos hy]
      · rw [if_neg hy] at h ⊢
        rw [if_neg hy]
        exact ih h
set_option maxRecDepth 100000 in
set_option maxHeartbeats 0 in
theorem sheetSlots_any (W : World) (vl : Value) (nl : Nat) (l : List Slot) (f la i p d0 d1 d2 : Int) (hl : Rd W (· < W.heap.size) 3 vl nl (l.flatMap Slot.cells)) (hrl : nl * 24 ≤ 140737488351232) :
    Calls Tryz.prog 8 #[vl, .agg #[.int .i64 f, .int .i64 la, .int .i64 i, .int .i64 p], .agg #[.int .i64 d0, .int .i64 d1, .int .i64 d2]] W fun e w' => e = .returned (.bool true) ∧ Below W.heap.size W w' := by
  have hnl := hl.le
  have HNL := Lib.hid (hl.count (f := Slot.cells) (size := 3) (fun _ => rfl) (by decide))
  obtain ⟨A, c, rfl, _, _, _⟩ := hl.open_
  have HL := Lib.hid hl
  have S0 := ((St.refl W).blk_new #[.int .i64 f, .int .i64 la, .int .i64 i, .int .i64 p] 74).blk_new #[.int .i64 d0, .int .i64 d1, .int .i64 d2] 75
  simp only [List.nil_append, List.cons_append, World.size_alloc] at S0
  have HS0 := Lib.hid S0
  clear hl S0
  go_enter Tryz.func8, Tryz.ntmps8
  go_wp2_with fail
  generalize (W.alloc (.cells #[.int .i64 f, .int .i64 la, .int .i64 i, .int .i64 p] 74)).alloc (.cells #[.int .i64 d0, .int .i64 d1, .int .i64 d2] 75) = w0 at *
  refine (awake_any w0).mono ?_
  rintro e w1 ⟨rfl, hb1⟩
  have HS1 := Lib.hid (HS0.out.ext hb1)
  clear HS0 hb1
  by_cases h28 : 28 < nl
  · have h28' : decide (28 < (nl : Int)) = true := by simp; omega
    go_wp2_with fail
    refine (awake_any w1).mono ?_
    rintro e w4 ⟨rfl, hb4⟩
    have hbW := HS1.out.bel.trans (hb4.mono HS1.out.size)
    go_wp2
    go_ret
    exact ⟨rfl, hbW⟩
  · have h28' : decide (28 < (nl : Int)) = false := by simp; omega
    go_wp2_with fail
    refine (ownSlots_any w1 _ nl l (HL.out.later HS1.out.bel) hrl).mono ?_
    rintro e w2 ⟨v2, rfl, S2⟩
    have HS2 := Lib.hid (HS1.out.ext S2.bel)
    have HX2 := Lib.hid (S2.row_rd (i := 0) rfl).now
    clear S2 HS1
    have HC2 := Lib.hid (refCheckSlots_any w2 v2 nl l HX2.out)
    go_wp2_with fail
    refine HC2.out.mono ?_
    rintro e w3 ⟨rfl, q, rfl⟩
    have HS3 := Lib.hid (HS2.out.drewN q)
    clear HC2 HX2 HS2
    generalize w2.drewN q = w3 at *
    have HC3 := Lib.hid (checkSlots_any w3 l nl _ (HL.out.later HS3.out.bel))
    generalize hCS : checkSlots l = CS at *
    have HCS := Lib.hid hCS
    clear hCS
    go_wp2_with fail
    refine HC3.out.mono ?_
    rintro e w4 ⟨rfl, hb4⟩
    have HS4 := Lib.hid (HS3.out.ext hb4)
    clear HC3 hb4 HS3
    have c0 := HS4.out.blk_cell (i := 0) rfl 0
    have c1 := HS4.out.blk_cell (i := 0) rfl 1
    have c2 := HS4.out.blk_cell (i := 0) rfl 2
    have c3 := HS4.out.blk_cell (i := 0) rfl 3
    go_wp2_with fail
    refine (starts_any w4 f la i p).mono ?_
    rintro e w5 ⟨v5, rfl, S5⟩
    have HS5 := Lib.hid (HS4.out.ext S5.bel)
    have HX5 := Lib.hid (S5.row_rd (i := 0) rfl).now
    clear S5 HS4 c0 c1 c2 c3
    have c0 := HS5.out.blk_cell (i := 0) rfl 0
    have c1 := HS5.out.blk_cell (i := 0) rfl 1
    have c2 := HS5.out.blk_cell (i := 0) rfl 2
    have c3 := HS5.out.blk_cell (i := 0) rfl 3
    go_wp2_with fail
    refine (refStarts_any w5 f la i p).mono ?_
    rintro e w6 ⟨v6, rfl, S6⟩
    have HS6 := Lib.hid (HS5.out.ext S6.bel)
    have HX6 := Lib.hid (S6.row_rd (i := 0) rfl).now
    have HX5' := Lib.hid (HX5.out.later S6.bel)
    clear S6 HS5 HX5 c0 c1 c2 c3
    have hlen := starts_len f la i p
    generalize starts f la i p = RS at *
    obtain ⟨ss, se⟩ := RS
    dsimp only at HX5' HX6 hlen
    have c0 := HS6.out.blk_cell (i := 0) rfl 0
    have c2 := HS6.out.blk_cell (i := 0) rfl 2
    have c3 := HS6.out.blk_cell (i := 0) rfl 3
    go_wp2_with fail
    refine (shotgun_any w6 f i p).mono ?_
    rintro e w7 ⟨v7, rfl, S7⟩
    have HS7 := Lib.hid (HS6.out.ext S7.bel)
    have HY7 := Lib.hid (S7.row_rd (i := 0) rfl).now
    have HX5 := Lib.hid (HX5'.out.later S7.bel)
    have HX6' := Lib.hid (HX6.out.later S7.bel)
    clear S7 HS6 HX5' HX6 c0 c2 c3
    have c0 := HS7.out.blk_cell (i := 0) rfl 0
    have c2 := HS7.out.blk_cell (i := 0) rfl 2
    have c3 := HS7.out.blk_cell (i := 0) rfl 3
    go_wp2_with fail
    refine (refShotgun_any w7 f i p).mono ?_
    rintro e w8 ⟨v8, rfl, S8⟩
    have HS8 := Lib.hid (HS7.out.ext S8.bel)
    have HY8 := Lib.hid (S8.row_rd (i := 0) rfl).now
    have HY7' := Lib.hid (HY7.out.later S8.bel)
    have HX58 := Lib.hid (HX5.out.later S8.bel)
    have HX68 := Lib.hid (HX6'.out.later S8.bel)
    clear S8 HS7 HX5 HX6' HY7 c0 c2 c3
    have hlen2 := shotgun_len f i p
    generalize shotgun f i p = RG at *
    obtain ⟨gs, ge⟩ := RG
    dsimp only at HY7' HY8 hlen2
    go_wp2_with fail
    refine (ownSlots_any w8 _ _ ss HX58.out (by omega)).mono ?_
    rintro e w9 ⟨v9, rfl, S9⟩
    have HS9 := Lib.hid (HS8.out.ext S9.bel)
    have HZ9 := Lib.hid (S9.row_rd (i := 0) rfl).now
    have HX69 := Lib.hid (HX68.out.later S9.bel)
    have HY79 := Lib.hid (HY7'.out.later S9.bel)
    have HY89 := Lib.hid (HY8.out.later S9.bel)
    clear S9 HS8 HX58 HX68 HY7' HY8
    have HSS := Lib.hid (sameSlots_yes w9 _ _ _ ss HZ9.out HX69.out)
    go_wp2_with fail
    refine HSS.out.mono ?_
    rintro e w' ⟨rfl, q, rfl⟩
    have hbd := below_drewN (Below.refl w9.heap.size w9) q
    have HS10 := Lib.hid (HS9.out.drewN q)
    have HY710 := Lib.hid (HY79.out.later hbd)
    have HY810 := Lib.hid (HY89.out.later hbd)
    clear hbd HS9 HY79 HY89 HSS HZ9 HX69
    generalize w9.drewN q = w10 at *
    go_wp2_with fail
    refine (ownSlots_any w10 _ _ gs HY710.out (by omega)).mono ?_
    rintro e w11 ⟨v11, rfl, S11⟩
    have HS11 := Lib.hid (HS10.out.ext S11.bel)
    have HZ11 := Lib.hid (S11.row_rd (i := 0) rfl).now
    have HY811 := Lib.hid (HY810.out.later S11.bel)
    clear S11 HS10 HY710 HY810
    have HSS := Lib.hid (sameSlots_yes w11 _ _ _ gs HZ11.out HY811.out)
    go_wp2_with fail
    refine HSS.out.mono ?_
    rintro e w' ⟨rfl, q, rfl⟩
    have HS12 := Lib.hid (HS11.out.drewN q)
    clear HS11 HSS HZ11 HY811
    generalize w11.drewN q = w12 at *
    have c0 := HS12.out.blk_cell (i := 1) rfl 0
    have c1 := HS12.out.blk_cell (i := 1) rfl 1
    have c2 := HS12.out.blk_cell (i := 1) rfl 2
    have HD := Lib.hid (daylight_any w12 _ nl l d0 d1 d2 (HL.out.below HS12.out.bel).now)
    have HDV : Hid (daylight l d0 d1 d2 = if fst [CS, outE d0 0 10000, outE d1 0 10000, outE d2 0 10000] ≠ 0 then ([], fst [CS, outE d0 0 10000, outE d1 0 10000, outE d2 0 10000]) else (dayL d0 d1 d2 0 l, 0)) := by
      show _ = _
      rw [daylight, dayE, HCS.out]
    generalize daylight l d0 d1 d2 = RD at *
    obtain ⟨dl, de⟩ := RD
    go_wp2_with fail
    refine HD.out.mono ?_
    rintro e w13 ⟨v13, rfl, S13⟩
    dsimp only at S13
    have HS13 := Lib.hid (HS12.out.ext S13.bel)
    have HV13 := Lib.hid (S13.row_rd (i := 0) rfl).now
    clear HD S13 HS12 c0 c1 c2
    have c0 := HS13.out.blk_cell (i := 1) rfl 0
    have c1 := HS13.out.blk_cell (i := 1) rfl 1
    have c2 := HS13.out.blk_cell (i := 1) rfl 2
    go_wp2_with fail
    go_loop [18, 7] (fun j b => ∃ (k : Nat) (B : Int), k ≤ 3 ∧ j = .int .i64 k ∧ b = .int .i64 B ∧ Hid (fst ([CS, outE d0 0 10000, outE d1 0 10000, outE d2 0 10000].take (k + 1)) = B)) (fun j _ => 3 - (intOf j).toNat)
    case atStart => exact ⟨0, CS, by omega, rfl, rfl, by
      show fst [CS] = CS
      rw [fst]
      by_cases h : CS = 0
      · rw [if_neg (by simpa using h), h]; rfl
      · rw [if_pos h]⟩
    case round =>
      obtain ⟨k, B, hk, rfl, rfl, hB⟩ := hrel
      by_cases hgo : k < 3 ∧ B = 0
      · obtain ⟨hk3, hB0⟩ := hgo
        subst hB0
        have hB1 := hB.out
        have hcase : k = 0 ∨ k = 1 ∨ k = 2 := by omega
        rcases hcase with rfl | rfl | rfl
        · have HN : Hid (fst [CS, outE d0 0 10000] = whenE (outB d0 0 10000) 3) := fst_snoc [CS] _ hB1
          clear hB hB1
          go_wp2_with (first
            | (go_at_call 47; refine (outB_any _ _ _ _).mono ?_; rintro e w' ⟨rfl, rfl⟩)
            | (go_at_call 20; refine (lwhen_any _ _ _).mono ?_; rintro e w' ⟨rfl, rfl⟩))
          go_round
          case rel => exact ⟨1, _, by omega, by go_num, rfl, HN.out⟩
          case measure => simp [intOf]
        · have HN : Hid (fst [CS, outE d0 0 10000, outE d1 0 10000] = whenE (outB d1 0 10000) 3) := fst_snoc [CS, outE d0 0 10000] _ hB1
          clear hB hB1
          go_wp2_with (first
            | (go_at_call 47; refine (outB_any _ _ _ _).mono ?_; rintro e w' ⟨rfl, rfl⟩)
            | (go_at_call 20; refine (lwhen_any _ _ _).mono ?_; rintro e w' ⟨rfl, rfl⟩))
          go_round
          case rel => exact ⟨2, _, by omega, by go_num, rfl, HN.out⟩
          case measure => simp [intOf]
        · have HN : Hid (fst [CS, outE d0 0 10000, outE d1 0 10000, outE d2 0 10000] = whenE (outB d2 0 10000) 3) := fst_snoc [CS, outE d0 0 10000, outE d1 0 10000] _ hB1
          clear hB hB1
          go_wp2_with (first
            | (go_at_call 47; refine (outB_any _ _ _ _).mono ?_; rintro e w' ⟨rfl, rfl⟩)
            | (go_at_call 20; refine (lwhen_any _ _ _).mono ?_; rintro e w' ⟨rfl, rfl⟩))
          go_round
          case rel => exact ⟨3, _, by omega, by go_num, rfl, HN.out⟩
          case measure => simp [intOf]
      · have HBB : Hid (fst [CS, outE d0 0 10000, outE d1 0 10000, outE d2 0 10000] = B) := by
          show _ = _
          by_cases hB0 : B = 0
          · obtain rfl : k = 3 := by omega
            exact hB.out
          · have h1 := hB.out
            rw [← h1]
            exact (fst_take (by rw [h1]; exact hB0)).symm
        rw [HBB.out] at HDV
        have HLO : Hid (listOk dl de B (dayLW d0 d1 d2 0 l) = true) := by
          refine list_yes (fun h => ?_) (fun h => ?_)
          · have h1 := HDV.out
            rw [if_pos h] at h1
            injection h1 with e1 e2
            exact ⟨e1, e2⟩
          · have h1 := HDV.out
            rw [if_neg (by simpa using h)] at h1
            injection h1 with e1 e2
            have h2 := HBB.out
            rw [h, fst_zero] at h2
            simp only [List.mem_cons, List.not_mem_nil, or_false, forall_eq_or_imp, forall_eq, outE_zero] at h2
            refine ⟨e2, ?_⟩
            rw [e1, dayLW_eq h2.2.2.2]
            intro s hs
            have := (checkSlots_slot (HCS.out.trans h2.1)).2 s hs
            omega
        have hex : (decide ((k : Int) < 3) = false ∧ decide (k < 3) = false) ∨ ((decide ((k : Int) < 3) = true ∧ decide (k < 3) = true) ∧ (B == 0) = false) := by
          by_cases hk3 : k < 3
          · right
            exact ⟨⟨by rw [decide_eq_true_iff]; omega, by simpa using hk3⟩, by simp; omega⟩
          · left
            exact ⟨by rw [decide_eq_false_iff_not]; omega, by simpa using hk3⟩
        clear hB hgo HBB HDV
        generalize (k : Int) = kk at *
        generalize decide (k < 3) = dk at *
        rcases hex with ⟨x1, _⟩ | ⟨⟨x1, _⟩, x2⟩
        all_goals
          go_wp2_with fail
          have hblt := World.block_lt_of_cell? _ _ c0
          refine wp_head_tail' 3 11 1 [0, 1, 2] [3, 5, 6, 7, 8, 9, 10] rfl (fun w' => Below w13.heap.size w13 w') (by kernel_rfl) (by kernel_rfl) (Below.refl _ _).drew ?_
          simp only [pick, List.filterMap_cons, List.filterMap_nil, List.getElem?_toArray, List.getElem?_cons_succ, List.getElem?_cons_zero]
          generalize hK : (fun w' => Below w13.heap.size w13 w') = K
          have kb : ∀ z : Wd K, Below w13.heap.size w13 z.w := by subst hK; exact fun z => z.h
          have hK2 : ∀ w', Below w13.heap.size w13 w' → K w' := by subst hK; exact fun _ h => h
          have hne : Nonempty (Wd K) := ⟨⟨w13, hK2 _ (Below.refl _ _)⟩⟩
          have y0 : ∀ z : Wd K, z.w.cell? ⟨W.heap.size + 1, 0, none⟩ = some (.int .i64 d0) := fun z => ((kb z).cell (p := ⟨W.heap.size + 1, 0, none⟩) hblt).trans c0
          have y1 : ∀ z : Wd K, z.w.cell? ⟨W.heap.size + 1, 1, none⟩ = some (.int .i64 d1) := fun z => ((kb z).cell (p := ⟨W.heap.size + 1, 1, none⟩) hblt).trans c1
          have y2 : ∀ z : Wd K, z.w.cell? ⟨W.heap.size + 1, 2, none⟩ = some (.int .i64 d2) := fun z => ((kb z).cell (p := ⟨W.heap.size + 1, 2, none⟩) hblt).trans c2
          clear hK c0 c1 c2
          change wpQuiet _ _ _ _ (_ :: _ :: _ :: []) _
          repeat (go_big_quiet_step ((fail)))
          refine wpQuiet_nil ?_
          change wpQuiet _ _ _ _ (_ :: _ :: _ :: _ :: _ :: _ :: _ :: []) _
          repeat (go_big_quiet_step ((fail)))
          refine wpQuiet_nil ?_
          clear y0 y1 y2 hne kb
          refine headW_all (rs := [4]) (by kernel_rfl) (by simp) (by kernel_rfl) ?_
          intro i4 hi4
          obtain rfl := List.mem_singleton.1 hi4
          refine wpOp_list rfl ?_
          intro Q' hQ'
          have HS14 := Lib.hid HS13.out.drew
          have HV14 := Lib.hid (HV13.out.later (Below.refl _ _).drew)
          have HOS := Lib.hid (ownSlots_any w13.drew _ nl l (HL.out.below HS14.out.bel).now hrl)
          have hdr : Below w13.heap.size w13 w13.drew := (Below.refl _ _).drew
          clear HS13 HV13
          generalize w13.drew = w14 at *
          go_wp2_with fail
          refine HOS.out.mono ?_
          rintro e w15 ⟨v15, rfl, S15⟩
          have hb15 := hdr.trans (S15.bel.mono hdr.size)
          have HV15 := Lib.hid (HV14.out.later S15.bel)
          have HX15 := Lib.hid (S15.row_rd (i := 0) rfl).now
          have hbW := HS14.out.bel.trans (S15.bel.mono HS14.out.size)
          clear S15 HS14 HV14 hdr HOS
          go_wp2_with fail
          refine ⟨hK2 _ hb15, by kernel_rfl, ?_⟩
          clear hK2 hb15
          have HRD := Lib.hid (refDaylight_any w15 v15 nl l d0 d1 d2 HX15.out (by omega))
          go_wp2_with fail
          refine HRD.out.mono ?_
          rintro e w16 ⟨v16, rfl, S16⟩
          have HV16 := Lib.hid (HV15.out.later S16.bel)
          have HR16 := Lib.hid (S16.row_rd (i := 0) rfl).now
          have hbW2 := hbW.trans (S16.bel.mono hbW.size)
          clear S16 HV15 HX15 HRD hbW
          go_wp2_with (first
            | (go_at_call 22; refine (list_any _ _ _ _ _ dl (dayLW d0 d1 d2 0 l) de B HV16.out HR16.out).mono ?_; rw [HLO.out]; rintro e w' ⟨rfl, q, rfl⟩))
          refine NoPanic.normal ?_
          go_wp2
          go_ret
          exact ⟨rfl, hbW2.trans (below_drewN (Below.refl _ _) q)⟩
end Go.Proofs.YtbjjojoggpepjaaGreatDoor
