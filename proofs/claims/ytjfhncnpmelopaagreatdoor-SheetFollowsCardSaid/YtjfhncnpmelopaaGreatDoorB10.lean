/- Part 10 of the walks of the golf union's program: R8, WR1, WR2, WR3, S8d. -/
import Derived.Test.YtjfhncnpmelopaaGreatDoorB04
import Derived.Test.YtjfhncnpmelopaaGreatDoorB05
import Derived.Test.YtjfhncnpmelopaaGreatDoorB03
import Derived.BigQuiet
import Derived.Deep.QuietTactic
set_option linter.unusedVariables false
set_option linter.unusedSimpArgs false
set_option linter.unusedSectionVars false
set_option linter.constructorNameAsVariable false
/- What the reference's checks answer, in the terms of the program's plain functions. -/
namespace Go.Sheet
def outB (n lo hi : Int) : Bool := decide (n < lo) || decide (hi < n)
theorem outE_outB (n lo hi : Int) : outE n lo hi = if outB n lo hi = true then 3 else 0 := rfl
theorem outB_false {n lo hi : Int} : outB n lo hi = false ↔ lo ≤ n ∧ n ≤ hi := by
  rw [outB]; simp
theorem slotE_out {l : List Slot} {i : Nat} {s : Slot} (h : (outB s.m 0 10000 || (outB s.h 1 36 || outB s.p 1 8)) = true) : slotE l i s = 3 := by
  have e : fst [outE s.m 0 10000, outE s.h 1 36, outE s.p 1 8] = 3 := by
    simp only [outE_outB, fst]
    by_cases h1 : outB s.m 0 10000 = true
    · simp [h1]
    · by_cases h2 : outB s.h 1 36 = true
      · simp [h1, h2]
      · by_cases h3 : outB s.p 1 8 = true
        · simp [h1, h2, h3]
        · simp [h1, h2, h3] at h
  rw [slotE, e]; rfl
theorem slotE_in {l : List Slot} {i : Nat} {s : Slot} (h1 : outB s.m 0 10000 = false) (h2 : outB s.h 1 36 = false) (h3 : outB s.p 1 8 = false) :
    slotE l i s = if i = 0 then 0 else match l[i - 1]? with
    | some b => whenE (decide (s.m < b.m) || (s.m == b.m && decide (s.h ≤ b.h))) 11
    | none => 0 := by
  have e : fst [outE s.m 0 10000, outE s.h 1 36, outE s.p 1 8] = 0 := by
    simp only [outE_outB, fst, h1, h2, h3]; simp
  rw [slotE, e]; rfl
theorem wishE_eq (nl : Nat) (ws : List Wish) (k : Nat) (x : Wish) : wishE nl ws k x = if outB x.s 0 ((nl : Int) - 1) = true then 10 else if prevWish ws k x = true then 11 else if outB x.w 1 10000 = true then 3 else 0 := by
  have e : (decide (x.s < 0) || decide ((nl : Int) ≤ x.s)) = outB x.s 0 ((nl : Int) - 1) := by
    rw [outB]; congr 1; rw [decide_eq_decide]; omega
  rw [wishE, e, outE_outB]
  by_cases h1 : outB x.s 0 ((nl : Int) - 1) = true
  · simp [fst, whenE, h1]
  · by_cases h2 : prevWish ws k x = true
    · simp [fst, whenE, h1, h2]
    · by_cases h3 : outB x.w 1 10000 = true
      · simp [fst, whenE, h1, h2, h3]
      · simp [fst, whenE, h1, h2, h3]
theorem reqE_name {nl : Nat} {rs : List RQ} {i : Nat} {x : RQ} (h : nameL x.name = false) : reqE nl rs i x = 8 := by
  have e : fst [whenE (!nameL x.name) 8, whenE ((rs.take i).any fun y => y.name == x.name) 9] = 8 := by simp [fst, whenE, h]
  rw [reqE, e]; rfl
theorem reqE_twice {nl : Nat} {rs : List RQ} {i : Nat} {x : RQ} (h : nameL x.name = true) (h2 : ((rs.take i).any fun y => y.name == x.name) = true) : reqE nl rs i x = 9 := by
  have e : fst [whenE (!nameL x.name) 8, whenE ((rs.take i).any fun y => y.name == x.name) 9] = 9 := by rw [h, h2]; rfl
  rw [reqE, e]; rfl
theorem reqE_else {nl : Nat} {rs : List RQ} {i : Nat} {x : RQ} (h : nameL x.name = true) (h2 : ((rs.take i).any fun y => y.name == x.name) = false) : reqE nl rs i x = eachF (wishE nl x.ws) 0 x.ws := by
  have e : fst [whenE (!nameL x.name) 8, whenE ((rs.take i).any fun y => y.name == x.name) 9] = 0 := by rw [h, h2]; rfl
  rw [reqE, e]; rfl
/-- the weight of a wish for a slot, or -1 -/
def refW (x : RQ) (s : Int) : Int := match x.ws.find? fun y => y.s == s with | some y => y.w | none => -1
theorem refW_cases {l : List Slot} {rs : List RQ} (h : Okay l rs) {x : RQ} (hx : x ∈ rs) (s : Int) :
    (hasWish x s = true ∧ 1 ≤ refW x s ∧ refW x s ≤ 10000 ∧ 0 ≤ s ∧ s < l.length) ∨ (hasWish x s = false ∧ refW x s = -1) := by
  rw [hasWish, refW]
  cases hf : x.ws.find? fun y => y.s == s with
  | none => right; exact ⟨rfl, rfl⟩
  | some y =>
    obtain ⟨hm, hs⟩ := find_mem hf
    have := h.wish x hx y hm
    left
    refine ⟨rfl, this.2.1, this.2.2, ?_, ?_⟩ <;> omega
/-- what Weight searches from place k on -/
def refWk (s : Int) (ws : List Wish) : Int := match ws.find? fun y => y.s == s with | some y => y.w | none => -1
theorem refWk_stop {s : Int} {ws : List Wish} {k : Nat} {y : Wish} (hy : ws[k]? = some y) (h : y.s = s) (e : refWk s (ws.drop k) = refWk s ws) : refWk s ws = y.w := by
  rw [← e, drop_at hy, refWk, List.find?_cons]; simp [h]
theorem refWk_go {s : Int} {ws : List Wish} {k : Nat} {y : Wish} (hy : ws[k]? = some y) (h : y.s ≠ s) (e : refWk s (ws.drop k) = refWk s ws) : refWk s (ws.drop (k + 1)) = refWk s ws := by
  rw [← e, drop_at hy]
  have h0 : (y.s == s) = false := by simpa using h
  simp only [refWk]
  rw [List.find?_cons, h0]
theorem refWk_end {s : Int} {ws : List Wish} {k : Nat} (hk : ws.length ≤ k) (e : refWk s (ws.drop k) = refWk s ws) : refWk s ws = -1 := by
  rw [← e, List.drop_of_length_le hk]; rfl
theorem caE_free (x : RQ) : caE x (-1) = whenE x.g 23 := by rw [caE, if_pos rfl]
theorem caE_none {x : RQ} {s : Int} (h0 : s ≠ -1) (h : hasWish x s = false) : caE x s = 10 := by
  rw [hasWish] at h
  rw [caE, if_neg h0, h]; rfl
theorem caE_some {x : RQ} {s : Int} (h0 : s ≠ -1) (h : hasWish x s = true) : caE x s = 0 := by
  rw [hasWish] at h
  rw [caE, if_neg h0, h]; rfl
theorem caUp_has {x : RQ} {s : Int} {st : Int × List Int} (h : hasWish x s = true) : caUp x s st = (st.1 + refW x s, st.2.set s.toNat (st.2.getD s.toNat 0 + 1)) := by
  rw [hasWish] at h
  rw [caUp, refW]
  cases hf : x.ws.find? fun y => y.s == s with
  | none => rw [hf] at h; cases h
  | some y => rfl
/-- the numbers while the reference counts -/
theorem caSt_bd {l : List Slot} {rs : List RQ} (h : Okay l rs) : ∀ (xs : List RQ) (a : List Int) (st : Int × List Int) (B : Nat), (∀ x ∈ xs, x ∈ rs) → (0 ≤ st.1 ∧ st.1 ≤ 10000 * B) → (∀ k, 0 ≤ st.2.getD k 0 ∧ st.2.getD k 0 ≤ B) →
    (0 ≤ (caSt st xs a).1 ∧ (caSt st xs a).1 ≤ 10000 * ((B + xs.length : Nat) : Int)) ∧ ((∀ k, 0 ≤ (caSt st xs a).2.getD k 0 ∧ (caSt st xs a).2.getD k 0 ≤ ((B + xs.length : Nat) : Int)) ∧ (caSt st xs a).2.length = st.2.length) := by
  intro xs
  induction xs with
  | nil =>
    intro a st B _ h1 h2
    rw [caSt.eq_def]
    exact ⟨by simpa using h1, by simpa using h2, rfl⟩
  | cons x xs ih =>
    intro a st B hm h1 h2
    cases a with
    | nil =>
      have e : caSt st (x :: xs) [] = st := by rw [caSt]; intros; contradiction
      rw [e]
      refine ⟨⟨h1.1, by simp only [List.length_cons]; push_cast; omega⟩, fun k => ⟨(h2 k).1, by have := (h2 k).2; simp only [List.length_cons]; push_cast; omega⟩, rfl⟩
    | cons s a =>
      rw [caSt]
      have key : ∀ st', (0 ≤ st'.1 ∧ st'.1 ≤ 10000 * ((B + 1 : Nat) : Int)) → (∀ k, 0 ≤ st'.2.getD k 0 ∧ st'.2.getD k 0 ≤ ((B + 1 : Nat) : Int)) → st'.2.length = st.2.length → (0 ≤ (caSt st' xs a).1 ∧ (caSt st' xs a).1 ≤ 10000 * ((B + (x :: xs).length : Nat) : Int)) ∧ ((∀ k, 0 ≤ (caSt st' xs a).2.getD k 0 ∧ (caSt st' xs a).2.getD k 0 ≤ ((B + (x :: xs).length : Nat) : Int)) ∧ (caSt st' xs a).2.length = st.2.length) := by
        intro st' h3 h4 h5
        have := ih a st' (B + 1) (fun y hy => hm y (by simp [hy])) h3 h4
        rw [h5] at this
        rw [show B + (x :: xs).length = B + 1 + xs.length by simp only [List.length_cons]; omega]
        exact this
      split
      · exact key st ⟨h1.1, by push_cast; omega⟩ (fun k => ⟨(h2 k).1, by have := (h2 k).2; push_cast; omega⟩) rfl
      · rcases refW_cases h (hm x (by simp)) s with ⟨hw, w1, w2, s0, _⟩ | ⟨hw, _⟩
        · rw [caUp_has hw]
          refine key _ ⟨by show 0 ≤ st.1 + _; omega, by show st.1 + _ ≤ _; push_cast; omega⟩ (fun k => ?_) (by simp)
          show 0 ≤ (st.2.set _ _).getD k 0 ∧ (st.2.set _ _).getD k 0 ≤ _
          rw [getD_set]
          have a1 := h2 s.toNat
          have a2 := h2 k
          split <;> push_cast <;> omega
        · have e : caUp x s st = st := by
            rw [hasWish] at hw
            rw [caUp]
            cases hf : x.ws.find? fun y => y.s == s with
            | none => rfl
            | some y => rw [hf] at hw; cases hw
          rw [e]
          exact key st ⟨h1.1, by push_cast; omega⟩ (fun k => ⟨(h2 k).1, by have := (h2 k).2; push_cast; omega⟩) rfl
/-- what the reference gives behind its own check -/
theorem checkAssignment_shape {l : List Slot} {rs : List RQ} {a : List Int} (h : checkRequests l rs = 0) (hn : a.length ≠ rs.length) : checkAssignment l rs a = (0, 2) := by
  have e : caE0 l rs a = 2 := by
    have : ((a.length : Int) != rs.length) = true := by simp; omega
    rw [caE0, h, this]; rfl
  rw [checkAssignment, if_pos (by rw [e]; decide), e]
theorem checkAssignment_bad {l : List Slot} {rs : List RQ} {a : List Int} (h : checkRequests l rs = 0) (hn : a.length = rs.length) (he : eachF (caAt rs) 0 a ≠ 0) : checkAssignment l rs a = (0, eachF (caAt rs) 0 a) := by
  have e : caE0 l rs a = 0 := by
    have : ((a.length : Int) != rs.length) = false := by simp [hn]
    rw [caE0, h, this]; rfl
  rw [checkAssignment, if_neg (by rw [e]; decide), if_pos he]
theorem checkAssignment_end {l : List Slot} {rs : List RQ} {a : List Int} (h : checkRequests l rs = 0) (hn : a.length = rs.length) (he : eachF (caAt rs) 0 a = 0) : checkAssignment l rs a = if overAt (caEnd l rs a).2 l then (0, 29) else ((caEnd l rs a).1, 0) := by
  have e : caE0 l rs a = 0 := by
    have : ((a.length : Int) != rs.length) = false := by simp [hn]
    rw [caE0, h, this]; rfl
  rw [checkAssignment, if_neg (by rw [e]; decide), if_neg (by rw [he]; decide)]
theorem checkAssignment_first {l : List Slot} {rs : List RQ} {a : List Int} (h : checkRequests l rs ≠ 0) : checkAssignment l rs a = (0, checkRequests l rs) := by
  have e : caE0 l rs a = checkRequests l rs := by rw [caE0, fst, if_pos h]
  rw [checkAssignment, if_pos (by rw [e]; exact h), e]
theorem checkAssignment_err {l : List Slot} {rs : List RQ} {a : List Int} (h : (checkAssignment l rs a).2 ≠ 0) : (checkAssignment l rs a).1 = 0 := by
  rw [checkAssignment] at h ⊢
  by_cases h1 : caE0 l rs a ≠ 0
  · rw [if_pos h1]
  · rw [if_neg h1] at h ⊢
    by_cases h2 : eachF (caAt rs) 0 a ≠ 0
    · rw [if_pos h2]
    · rw [if_neg h2] at h ⊢
      split
      · rfl
      · rename_i h3; rw [if_neg h3] at h; exact absurd rfl h
end Go.Sheet
/- Walks of the reference: Outside, Weight, CheckSlots. -/
namespace Go.Proofs.YtjfhncnpmelopaaGreatDoor
open Go.RowKit Go.Mem Go.Sheet
theorem outB_any (n lo hi : Int) (w : World) : Calls Tryz.prog 52 #[.int .i64 n, .int .i64 lo, .int .i64 hi] w fun r w' => r = .returned (.bool (outB n lo hi)) ∧ w = w' := Outside_any n lo hi w
set_option maxRecDepth 100000 in
set_option maxHeartbeats 1000000 in
theorem refWeight_any (w : World) (r : Req) (s : Int) (h : Rd w (· < w.heap.size) 2 r.wv r.wn (r.ws.flatMap Wish.cells)) :
    Calls Tryz.prog 88 #[r.val, .int .i64 s] w fun e w' => e = .returned (.int .i64 (refW r.rq s)) ∧ Below w.heap.size w w' := by
  obtain ⟨name, g, wa, wn, wc, ws⟩ := r
  change Rd w (· < w.heap.size) 2 (.slice wa wn wc) wn (ws.flatMap Wish.cells) at h
  have hn := h.le
  have HL := Lib.hid (h.count (f := Wish.cells) (size := 2) (fun _ => rfl) (by decide))
  have HF : Hid (refW (Req.rq ⟨name, g, wa, wn, wc, ws⟩) s = refWk s ws) := rfl
  have hb := (Below.refl w.heap.size w).alloc (Nat.le_refl _) (.cells #[.string name, .bool g, .slice wa wn wc] 124)
  have k2 : (w.alloc (.cells #[.string name, .bool g, .slice wa wn wc] 124)).cell? ⟨w.heap.size, 2, none⟩ = some (.slice wa wn wc) := by simp
  have h1 := h.later hb
  clear h
  show Calls Tryz.prog 88 #[.agg #[.string name, .bool g, .slice wa wn wc], .int .i64 s] w _
  go_enter Tryz.func88, Tryz.ntmps88
  go_wp2
  generalize w.alloc (.cells #[.string name, .bool g, .slice wa wn wc] 124) = w1 at *
  go_loop [5] (fun i => ∃ k : Nat, k ≤ wn ∧ i = .int .i64 k ∧ Hid (refWk s (ws.drop k) = refWk s ws)) (fun i => wn - (intOf i).toNat)
  case atStart => exact ⟨0, Nat.zero_le _, rfl, rfl⟩
  case round =>
    obtain ⟨k, hk, rfl, he⟩ := hrel
    by_cases hlt : k < wn
    · obtain ⟨b, o, y, rfl, hy, c0, c1⟩ := h1.elem2 (k := k) (fun s : Wish => .int .i64 s.s) (fun s : Wish => .int .i64 s.w) (fun _ => rfl) hlt
      obtain ⟨ys, yw⟩ := y
      simp only at c0 c1
      by_cases hys : ys = s
      · have HR := Lib.hid (refWk_stop hy hys he.out)
        subst hys
        clear hy he h1
        go_wp2
        go_ret
        exact ⟨ret_i64 (by rw [HF.out, HR.out]), hb⟩
      · have HR := Lib.hid (refWk_go hy hys he.out)
        have hys' : (ys == s) = false := by simpa using hys
        clear hy he h1
        go_wp2
        go_round
        case rel => exact ⟨k + 1, by omega, by go_num, HR.out⟩
        case measure => simp [intOf]; omega
    · obtain rfl : k = wn := by omega
      have HR := Lib.hid (refWk_end (k := k) (by have := HL.out; omega) he.out)
      clear he h1
      go_wp2
      go_ret
      exact ⟨ret_i64 (by rw [HF.out, HR.out]), hb⟩
set_option maxRecDepth 100000 in
set_option maxHeartbeats 2000000 in
theorem refCheckSlots_any (w : World) (v : Value) (n : Nat) (l : List Slot) (h : Rd w (· < w.heap.size) 3 v n (l.flatMap Slot.cells)) :
    Calls Tryz.prog 85 #[v] w fun e w' => e = .returned (.int .i64 (checkSlots l)) ∧ ∃ q, w' = w.drewN q := by
  have HL := Lib.hid (h.count (f := Slot.cells) (size := 3) (fun _ => rfl) (by decide))
  have hn := h.le
  obtain ⟨A, c, rfl, _, _, h⟩ := h.open_
  have HC : Hid (checkSlots l = if 24 < l.length then 5 else eachF (slotE l) 0 l) := rfl
  go_enter Tryz.func85, Tryz.ntmps85
  by_cases h24 : 24 < n
  · go_wp2
    go_ret
    exact ⟨ret_i64 (by rw [HC.out, if_pos (by rw [← HL.out]; exact h24)]), 0, rfl⟩
  · have HC2 : Hid (checkSlots l = eachF (slotE l) 0 l) := by show _ = _; rw [HC.out, if_neg (by rw [← HL.out]; exact h24)]
    clear HC
    go_wp2
    go_loopw [3] (fun i w' => ∃ k q : Nat, k ≤ n ∧ i = .int .i64 k ∧ w' = w.drewN q ∧ Hid (eachF (slotE l) k (l.drop k) = eachF (slotE l) 0 l)) (fun i _ => n - (intOf i).toNat)
    case atStart => exact ⟨0, 0, Nat.zero_le _, rfl, rfl, rfl⟩
    case round =>
      obtain ⟨k, q, hk, rfl, rfl, he⟩ := hrel
      by_cases hlt : k < n
      · obtain ⟨b, o, x, rfl, hx, c0, c1, c2⟩ := h.elem3 (k := k) (fun s : Slot => .int .i64 s.m) (fun s : Slot => .int .i64 s.h) (fun s : Slot => .int .i64 s.p) (fun _ => rfl) hlt
        have HX := Lib.hid hx
        clear hx
        have HR3 : Hid ((outB x.m 0 10000 || (outB x.h 1 36 || outB x.p 1 8)) = true → checkSlots l = 3) := fun h0 => by
          rw [HC2.out, ← eachF_stop HX.out (by rw [slotE_out h0]; decide) he.out, slotE_out h0]
        by_cases g1 : outB x.m 0 10000 = true
        · have HR := Lib.hid (HR3.out (by rw [g1]; rfl))
          clear he h HR3
          go_wp2_with (go_at_call 52; refine (outB_any _ _ _ _).mono ?_; rintro e w' ⟨rfl, rfl⟩)
          go_ret
          exact ⟨ret_i64 HR.out.symm, q, rfl⟩
        · have g1' : outB x.m 0 10000 = false := by simpa using g1
          clear g1
          by_cases g2 : outB x.h 1 36 = true
          · have HR := Lib.hid (HR3.out (by rw [g1', g2]; rfl))
            clear he h HR3
            go_wp2_with (go_at_call 52; refine (outB_any _ _ _ _).mono ?_; rintro e w' ⟨rfl, rfl⟩)
            go_ret
            exact ⟨ret_i64 HR.out.symm, q, rfl⟩
          · have g2' : outB x.h 1 36 = false := by simpa using g2
            clear g2
            by_cases g3 : outB x.p 1 8 = true
            · have HR := Lib.hid (HR3.out (by rw [g1', g2', g3]; rfl))
              clear he h HR3
              go_wp2_with (go_at_call 52; refine (outB_any _ _ _ _).mono ?_; rintro e w' ⟨rfl, rfl⟩)
              go_ret
              exact ⟨ret_i64 HR.out.symm, q, rfl⟩
            · have g3' : outB x.p 1 8 = false := by simpa using g3
              clear g3 HR3
              have HI := Lib.hid (slotE_in (l := l) (i := k) g1' g2' g3')
              have hsm : ∀ q', w.drewN q' = w.drewN q' := fun _ => rfl
              cases k with
              | zero =>
                have HN : Hid (eachF (slotE l) (0 + 1) (l.drop (0 + 1)) = eachF (slotE l) 0 l) := eachF_go HX.out (by rw [HI.out]; simp) he.out
                simp only [Nat.zero_mul, Nat.add_zero] at c0 c1 c2
                clear he h HI
                go_wp2_with (go_at_call 52; refine (outB_any _ _ _ _).mono ?_; rintro e w' ⟨rfl, rfl⟩)
                go_quiet (fail)
                go_wp2
                go_roundw
                case rel => exact ⟨0 + 1, _, by omega, by go_num, rfl, HN.out⟩
                case measure => simp [intOf]; omega
              | succ j =>
                obtain ⟨b', o', z, hA, hz, d0, d1, d2⟩ := h.elem3 (k := j) (fun s : Slot => .int .i64 s.m) (fun s : Slot => .int .i64 s.h) (fun s : Slot => .int .i64 s.p) (fun _ => rfl) (by omega)
                cases hA
                have HI2 : Hid (slotE l (j + 1) x = whenE (decide (x.m < z.m) || (x.m == z.m && decide (x.h ≤ z.h))) 11) := by
                  show _ = _
                  rw [HI.out, if_neg (by omega), Nat.add_sub_cancel, hz]
                have HS : Hid (whenE (decide (x.m < z.m) || (x.m == z.m && decide (x.h ≤ z.h))) 11 ≠ 0 → checkSlots l = 11) := fun h0 => by
                  have h1 := eachF_stop HX.out (by rw [HI2.out]; exact h0) he.out
                  rw [HC2.out, ← h1, HI2.out]
                  unfold whenE at h0 ⊢
                  split
                  · rfl
                  · rename_i h2; rw [if_neg h2] at h0; exact absurd rfl h0
                have HN : Hid (whenE (decide (x.m < z.m) || (x.m == z.m && decide (x.h ≤ z.h))) 11 = 0 → eachF (slotE l) (j + 1 + 1) (l.drop (j + 1 + 1)) = eachF (slotE l) 0 l) := fun h0 => eachF_go HX.out (by rw [HI2.out, h0]; simp) he.out
                clear he h HI HI2 hz HX
                by_cases m1 : x.m < z.m
                · have HR := Lib.hid (HS.out (by simp [whenE, m1]))
                  clear HS HN
                  go_wp2_with (go_at_call 52; refine (outB_any _ _ _ _).mono ?_; rintro e w' ⟨rfl, rfl⟩)
                  go_quiet (fail)
                  go_wp2
                  go_ret
                  exact ⟨ret_i64 HR.out.symm, _, World.drewN_drewN _ _ _⟩
                · have m1' : decide (x.m < z.m) = false := by simpa using m1
                  by_cases m2 : x.m = z.m
                  · have m2' : (x.m == z.m) = true := by simpa using m2
                    by_cases m3 : x.h ≤ z.h
                    · have HR := Lib.hid (HS.out (by simp [whenE, m2, m3]))
                      have m3' : decide (x.h ≤ z.h) = true := by simpa using m3
                      clear HS HN m2 m3 m1
                      go_wp2_with (go_at_call 52; refine (outB_any _ _ _ _).mono ?_; rintro e w' ⟨rfl, rfl⟩)
                      go_quiet (fail)
                      go_wp2
                      go_ret
                      exact ⟨ret_i64 HR.out.symm, _, World.drewN_drewN _ _ _⟩
                    · have HR := Lib.hid (HN.out (by simp [whenE, m2, m3]))
                      have m3' : decide (x.h ≤ z.h) = false := by simpa using m3
                      clear HS HN m2 m3 m1
                      go_wp2_with (go_at_call 52; refine (outB_any _ _ _ _).mono ?_; rintro e w' ⟨rfl, rfl⟩)
                      go_quiet (fail)
                      go_wp2
                      go_roundw
                      case rel => exact ⟨j + 1 + 1, _, by omega, by go_num, rfl, HR.out⟩
                      case measure => simp [intOf]; omega
                  · have m2' : (x.m == z.m) = false := by simpa using m2
                    have HR := Lib.hid (HN.out (by simp [whenE, m1, m2]))
                    clear HS HN m2 m1
                    go_wp2_with (go_at_call 52; refine (outB_any _ _ _ _).mono ?_; rintro e w' ⟨rfl, rfl⟩)
                    go_quiet (fail)
                    go_wp2
                    go_roundw
                    case rel => exact ⟨j + 1 + 1, _, by omega, by go_num, rfl, HR.out⟩
                    case measure => simp [intOf]; omega
      · obtain rfl : k = n := by omega
        have HR : Hid (checkSlots l = 0) := by
          show _ = _
          rw [HC2.out]
          exact eachF_end (n := k) (by have := HL.out; omega) he.out
        clear he h
        go_wp2
        go_ret
        exact ⟨ret_i64 HR.out.symm, q, rfl⟩
end Go.Proofs.YtjfhncnpmelopaaGreatDoor
/- Walks of the reference: Short, CheckRequests. -/
namespace Go.Proofs.YtjfhncnpmelopaaGreatDoor
open Go.RowKit Go.Mem Go.Sheet
/-- a bool is returned -/
def IsB (e : Ending) : Prop := ∃ b, e = .returned (.bool b)
set_option maxRecDepth 100000 in
set_option maxHeartbeats 1000000 in
theorem refShort_any (w : World) (vl vr : Value) (nl n : Nat) (l : List Slot) (rs : List Req) (hl : Rd w (· < w.heap.size) 3 vl nl (l.flatMap Slot.cells)) (h : RdReqs w (· < w.heap.size) vr n rs) :
    Calls Tryz.prog 76 #[vl, vr] w fun e w' => IsB e ∧ w = w' := by
  have hn := h.1.le
  have hnl := hl.le
  obtain ⟨A, c, rfl, _, _, hr⟩ := h.1.open_
  obtain ⟨Al, cl, rfl, _, _, _⟩ := hl.open_
  have HR := Lib.hid h.2
  have HLN := Lib.hid (h.1.count (f := Req.cells) (size := 3) (fun _ => rfl) (by decide))
  clear h hl
  go_enter Tryz.func76, Tryz.ntmps76
  by_cases h1 : 28 < nl
  · go_wp2
    go_ret
    exact ⟨⟨_, rfl⟩, rfl⟩
  · by_cases h2 : 28 < n
    · go_wp2
      go_ret
      exact ⟨⟨_, rfl⟩, rfl⟩
    · go_wp2
      go_loop [5] (fun i => ∃ k : Nat, k ≤ n ∧ i = .int .i64 k) (fun i => n - (intOf i).toNat)
      case atStart => exact ⟨0, Nat.zero_le _, rfl⟩
      case round =>
        obtain ⟨k, hk, rfl⟩ := hrel
        by_cases hlt : k < n
        · obtain ⟨b, o, x, rfl, hx, c0, c1, c2⟩ := hr.elem3 (k := k) (fun s : Req => .string s.name) (fun s : Req => .bool s.g) (fun s : Req => .slice s.wa s.wn s.wc) (fun _ => rfl) hlt
          obtain ⟨name, g, wa, wn, wc, ws⟩ := x
          simp only at c0 c1 c2
          by_cases h3 : 60 < name.size
          · have h3' : decide (60 < (name.size : Int)) = true := by simp; omega
            clear hr h3
            go_wp2
            go_ret
            exact ⟨⟨_, rfl⟩, rfl⟩
          · have h3' : decide (60 < (name.size : Int)) = false := by simp; omega
            by_cases h4 : 40 < wn
            · have h4' : decide (40 < (wn : Int)) = true := by simp; omega
              clear hr h3 h4
              go_wp2
              go_ret
              exact ⟨⟨_, rfl⟩, rfl⟩
            · have h4' : decide (40 < (wn : Int)) = false := by simp; omega
              clear hr h3 h4
              go_wp2
              go_round
              case rel => exact ⟨k + 1, by omega, by go_num⟩
              case measure => simp [intOf]; omega
        · obtain rfl : k = n := by omega
          clear hr
          go_wp2
          go_ret
          exact ⟨⟨_, rfl⟩, rfl⟩
set_option maxRecDepth 100000 in
set_option maxHeartbeats 4000000 in
theorem refCheckRequests_any (w : World) (vl vr : Value) (nl n : Nat) (l : List Slot) (rs : List Req) (hl : Rd w (· < w.heap.size) 3 vl nl (l.flatMap Slot.cells)) (h : RdReqs w (· < w.heap.size) vr n rs) :
    Calls Tryz.prog 20 #[vl, vr] w fun e w' => e = .returned (.int .i64 (checkRequests l (rs.map Req.rq))) ∧ ∃ q, w' = w.drewN q := by
  have HC := Lib.hid (refCheckSlots_any w vl nl l hl)
  have HNL := Lib.hid (hl.count (f := Slot.cells) (size := 3) (fun _ => rfl) (by decide))
  have HN := Lib.hid (h.1.count (f := Req.cells) (size := 3) (fun _ => rfl) (by decide))
  have hn := h.1.le
  have hnl := hl.le
  obtain ⟨A, c, rfl, _, _, hr⟩ := h.1.open_
  obtain ⟨Al, cl, rfl, _, _, _⟩ := hl.open_
  have HR := Lib.hid h.2
  have HV : Hid (checkRequests l (rs.map Req.rq) = if checkSlots l ≠ 0 then checkSlots l else if 24 < n then 5 else eachF (reqE nl (rs.map Req.rq)) 0 (rs.map Req.rq)) := by
    show _ = _
    rw [checkRequests, List.length_map, ← HN.out, ← HNL.out]
    by_cases e1 : checkSlots l ≠ 0
    · simp [fst, e1]
    · by_cases e2 : 24 < n
      · simp [fst, e1, e2, whenE]
      · simp [fst, e1, e2, whenE]
  generalize checkSlots l = E at *
  generalize HRS : rs.map Req.rq = RS at *
  have HRS := Lib.hid HRS
  clear h hl
  go_enter Tryz.func20, Tryz.ntmps20
  by_cases hE : (E != 0) = true
  · go_wp2_with (go_at_call 85; refine HC.out.mono ?_; rintro e w' ⟨rfl, q, rfl⟩)
    go_ret
    exact ⟨ret_i64 (by rw [HV.out, if_pos (by simpa using hE)]), q, rfl⟩
  · have hE' : (E != 0) = false := by simpa using hE
    have hE0 : ¬ E ≠ 0 := by simpa using hE
    have HV1 : Hid (checkRequests l RS = if 24 < n then 5 else eachF (reqE nl RS) 0 RS) := by
      show _ = _
      rw [HV.out, if_neg hE0]
    clear HV hE hE0
    by_cases h24 : 24 < n
    · go_wp2_with (go_at_call 85; refine HC.out.mono ?_; rintro e w' ⟨rfl, q, rfl⟩)
      go_ret
      exact ⟨ret_i64 (by rw [HV1.out, if_pos h24]), q, rfl⟩
    · have HV2 : Hid (checkRequests l RS = eachF (reqE nl RS) 0 RS) := by
        show _ = _
        rw [HV1.out, if_neg h24]
      clear HV1
      go_wp2_with (go_at_call 85; refine HC.out.mono ?_; rintro e w' ⟨rfl, q0, rfl⟩)
      go_loopw [6] (fun i w' => ∃ k q : Nat, k ≤ n ∧ i = .int .i64 k ∧ w' = w.drewN q ∧ Hid (eachF (reqE nl RS) k (RS.drop k) = eachF (reqE nl RS) 0 RS)) (fun i _ => n - (intOf i).toNat)
      case atStart => exact ⟨0, q0, Nat.zero_le _, rfl, rfl, rfl⟩
      case round =>
        obtain ⟨k, q, hk, rfl, rfl, he⟩ := hrel
        by_cases hlt : k < n
        · obtain ⟨b, o, x, rfl, hx, c0, c1, c2⟩ := hr.elem3 (k := k) (fun s : Req => .string s.name) (fun s : Req => .bool s.g) (fun s : Req => .slice s.wa s.wn s.wc) (fun _ => rfl) hlt
          obtain ⟨hws, hname⟩ := HR.out x (List.mem_of_getElem? hx)
          obtain ⟨name, g, wa, wn, wc, ws⟩ := x
          simp only at c0 c1 c2 hname
          change Rd w (· < w.heap.size) 2 (.slice wa wn wc) wn (ws.flatMap Wish.cells) at hws
          have HX : Hid (RS[k]? = some ⟨name.data.toList, g, ws⟩) := by
            show _ = _
            rw [← HRS.out, List.getElem?_map, hx]; rfl
          have HIS := Lib.hid (fun w => refIsName_any name w hname)
          have HNM := Lib.hid (nameB_eq name)
          clear hx c1 hname
          by_cases hnm : nameB name = false
          · have HV3 : Hid (checkRequests l RS = 8) := by
              show _ = _
              have h8 := reqE_name (nl := nl) (rs := RS) (i := k) (x := ⟨name.data.toList, g, ws⟩) (by show nameL name.data.toList = false; rw [← HNM.out]; exact hnm)
              rw [HV2.out, ← eachF_stop HX.out (by rw [h8]; decide) he.out, h8]
            clear he hr hws
            go_wp2_with (go_at_call 86; refine (HIS.out _).mono ?_; rintro e w' ⟨rfl, rfl⟩)
            go_ret
            exact ⟨ret_i64 HV3.out.symm, q, rfl⟩
          · have hnm' : nameB name = true := by simpa using hnm
            clear hnm
            go_wp2_with (go_at_call 86; refine (HIS.out _).mono ?_; rintro e w' ⟨rfl, rfl⟩)
            go_loopw [7] (fun i w' => ∃ j q : Nat, j ≤ k ∧ i = .int .i64 j ∧ w' = w.drewN q ∧ Hid (((RS.take j).any fun y => y.name == name.data.toList) = false)) (fun i _ => k - (intOf i).toNat)
            case atStart => exact ⟨0, q, Nat.zero_le _, rfl, rfl, rfl⟩
            case round =>
              obtain ⟨j, q1, hj, rfl, rfl, he1⟩ := hrel
              by_cases hlj : j < k
              · obtain ⟨b', o', z, hA, hz, d0, d1, d2⟩ := hr.elem3 (k := j) (fun s : Req => .string s.name) (fun s : Req => .bool s.g) (fun s : Req => .slice s.wa s.wn s.wc) (fun _ => rfl) (by omega)
                cases hA
                obtain ⟨zn, zg, za, zk, zc, zs⟩ := z
                simp only at d0 d1 d2
                have HZ : Hid (RS[j]? = some ⟨zn.data.toList, zg, zs⟩) := by
                  show _ = _
                  rw [← HRS.out, List.getElem?_map, hz]; rfl
                clear hz d1 d2
                by_cases hz : (zn.toList == name.toList) = true
                · have HV3 : Hid (checkRequests l RS = 9) := by
                    show _ = _
                    have h9 := reqE_twice (nl := nl) (rs := RS) (i := k) (x := ⟨name.data.toList, g, ws⟩) (by show nameL name.data.toList = true; rw [← HNM.out]; exact hnm') (by
                      rw [List.any_eq_true]
                      refine ⟨_, List.mem_of_getElem? (show (RS.take k)[j]? = _ by rw [List.getElem?_take_of_lt hlj]; exact HZ.out), ?_⟩
                      rw [ByteArray.toList_eq, ByteArray.toList_eq] at hz
                      exact hz)
                    rw [HV2.out, ← eachF_stop HX.out (by rw [h9]; decide) he.out, h9]
                  clear he he1 hr hws
                  go_wp2_with fail
                  go_quiet (fail)
                  go_wp2
                  go_ret
                  exact ⟨ret_i64 HV3.out.symm, _, by first | rfl | exact World.drewN_drewN _ _ _⟩
                · have hz' : (zn.toList == name.toList) = false := by simpa using hz
                  have HJ : Hid (((RS.take (j + 1)).any fun y => y.name == name.data.toList) = false) := by
                    show _ = _
                    rw [take_at HZ.out, List.any_append, he1.out, List.any_cons, List.any_nil, Bool.or_false, Bool.false_or]
                    rw [ByteArray.toList_eq, ByteArray.toList_eq] at hz'
                    exact hz'
                  clear he1 hr hws hz
                  go_wp2_with fail
                  go_quiet (fail)
                  go_wp2
                  go_roundw
                  case rel => exact ⟨j + 1, _, by omega, by go_num, by first | rfl | exact World.drewN_drewN _ _ _, HJ.out⟩
                  case measure => simp [intOf]; omega
              · obtain rfl : j = k := by omega
                have HQ : Hid (reqE nl RS j ⟨name.data.toList, g, ws⟩ = eachF (wishE nl ws) 0 ws) := reqE_else (by show nameL name.data.toList = true; rw [← HNM.out]; exact hnm') he1.out
                have HS3 : Hid (∀ e, e ≠ 0 → eachF (wishE nl ws) 0 ws = e → checkRequests l RS = e) := fun e h0 h1 => by
                  rw [HV2.out, ← eachF_stop HX.out (by rw [HQ.out, h1]; exact h0) he.out, HQ.out, h1]
                have HS0 : Hid (eachF (wishE nl ws) 0 ws = 0 → eachF (reqE nl RS) (j + 1) (RS.drop (j + 1)) = eachF (reqE nl RS) 0 RS) := fun h1 => eachF_go HX.out (by rw [HQ.out, h1]; simp) he.out
                have HWL := Lib.hid (hws.count (f := Wish.cells) (size := 2) (fun _ => rfl) (by decide))
                have hwn := hws.le
                clear he he1 hr HQ HNM HX
                go_wp2
                go_loopw [9] (fun i w' => ∃ m q : Nat, m ≤ wn ∧ i = .int .i64 m ∧ w' = w.drewN q ∧ Hid (eachF (wishE nl ws) m (ws.drop m) = eachF (wishE nl ws) 0 ws)) (fun i _ => wn - (intOf i).toNat)
                case atStart => exact ⟨0, q1, Nat.zero_le _, rfl, rfl, rfl⟩
                case round =>
                  obtain ⟨m, q2, hm, rfl, rfl, he⟩ := hrel
                  by_cases hlm : m < wn
                  · obtain ⟨b3, o3, y, rfl, hy, e0, e1⟩ := hws.elem2 (k := m) (fun s : Wish => .int .i64 s.s) (fun s : Wish => .int .i64 s.w) (fun _ => rfl) hlm
                    have HY := Lib.hid hy
                    have HWE := Lib.hid (wishE_eq nl ws m y)
                    clear hy
                    by_cases g1 : outB y.s 0 ((nl : Int) - 1) = true
                    · have HV3 := Lib.hid (HS3.out 10 (by decide) (by
                        have h1 : wishE nl ws m y = 10 := by rw [HWE.out, if_pos g1]
                        rw [← eachF_stop HY.out (by rw [h1]; decide) he.out, h1]))
                      clear he hws
                      go_wp2_with (go_at_call 52; refine (outB_any _ _ _ _).mono ?_; rintro e w' ⟨rfl, rfl⟩)
                      go_ret
                      exact ⟨ret_i64 HV3.out.symm, q2, rfl⟩
                    · have g1' : outB y.s 0 ((nl : Int) - 1) = false := by simpa using g1
                      have HG : Hid (prevWish ws m y = false → outB y.w 1 10000 = true → checkRequests l RS = 3) := fun h1 h2 => HS3.out 3 (by decide) (by
                        have h1 : wishE nl ws m y = 3 := by rw [HWE.out, if_neg g1, if_neg (by rw [h1]; decide), if_pos h2]
                        rw [← eachF_stop HY.out (by rw [h1]; decide) he.out, h1])
                      have HG2 : Hid (prevWish ws m y = false → outB y.w 1 10000 = false → eachF (wishE nl ws) (m + 1) (ws.drop (m + 1)) = eachF (wishE nl ws) 0 ws) := fun h1 h2 => eachF_go HY.out (by
                        rw [HWE.out, if_neg g1, if_neg (by rw [h1]; decide), if_neg (by rw [h2]; decide)]; decide) he.out
                      have HG3 : Hid (prevWish ws m y = true → checkRequests l RS = 11) := fun h1 => HS3.out 11 (by decide) (by
                        have h1 : wishE nl ws m y = 11 := by rw [HWE.out, if_neg g1, if_pos h1]
                        rw [← eachF_stop HY.out (by rw [h1]; decide) he.out, h1])
                      clear g1 he
                      cases m with
                      | zero =>
                        have HP : Hid (prevWish ws 0 y = false) := rfl
                        simp only [Nat.zero_mul, Nat.add_zero] at e0 e1
                        clear hws
                        by_cases g2 : outB y.w 1 10000 = true
                        · have HV3 := Lib.hid (HG.out HP.out g2)
                          go_wp2_with (go_at_call 52; refine (outB_any _ _ _ _).mono ?_; rintro e w' ⟨rfl, rfl⟩)
                          go_quiet (fail)
                          go_wp2_with (go_at_call 52; refine (outB_any _ _ _ _).mono ?_; rintro e w' ⟨rfl, rfl⟩)
                          go_ret
                          exact ⟨ret_i64 HV3.out.symm, _, by first | rfl | exact World.drewN_drewN _ _ _⟩
                        · have g2' : outB y.w 1 10000 = false := by simpa using g2
                          have HN := Lib.hid (HG2.out HP.out g2')
                          clear g2
                          go_wp2_with (go_at_call 52; refine (outB_any _ _ _ _).mono ?_; rintro e w' ⟨rfl, rfl⟩)
                          go_quiet (fail)
                          go_wp2_with (go_at_call 52; refine (outB_any _ _ _ _).mono ?_; rintro e w' ⟨rfl, rfl⟩)
                          go_roundw
                          case rel => exact ⟨0 + 1, _, by omega, by go_num, by first | rfl | exact World.drewN_drewN _ _ _, HN.out⟩
                          case measure => simp [intOf]; omega
                      | succ m =>
                        obtain ⟨b4, o4, z, hA, hz, f0, f1⟩ := hws.elem2 (k := m) (fun s : Wish => .int .i64 s.s) (fun s : Wish => .int .i64 s.w) (fun _ => rfl) (by omega)
                        cases hA
                        have HP : Hid (prevWish ws (m + 1) y = decide (y.s ≤ z.s)) := by
                          show _ = _
                          rw [prevWish, Nat.add_sub_cancel, hz]; simp
                        clear hws hz f1
                        by_cases g3 : y.s ≤ z.s
                        · have g3' : decide (y.s ≤ z.s) = true := by simpa using g3
                          have HV3 := Lib.hid (HG3.out (by rw [HP.out, g3']))
                          clear g3
                          go_wp2_with (go_at_call 52; refine (outB_any _ _ _ _).mono ?_; rintro e w' ⟨rfl, rfl⟩)
                          go_quiet (fail)
                          go_wp2
                          go_ret
                          exact ⟨ret_i64 HV3.out.symm, _, by first | rfl | exact World.drewN_drewN _ _ _⟩
                        · have g3' : decide (y.s ≤ z.s) = false := by simpa using g3
                          clear g3
                          by_cases g2 : outB y.w 1 10000 = true
                          · have HV3 := Lib.hid (HG.out (by rw [HP.out, g3']) g2)
                            go_wp2_with (go_at_call 52; refine (outB_any _ _ _ _).mono ?_; rintro e w' ⟨rfl, rfl⟩)
                            go_quiet (fail)
                            go_wp2_with (go_at_call 52; refine (outB_any _ _ _ _).mono ?_; rintro e w' ⟨rfl, rfl⟩)
                            go_ret
                            exact ⟨ret_i64 HV3.out.symm, _, by first | rfl | exact World.drewN_drewN _ _ _⟩
                          · have g2' : outB y.w 1 10000 = false := by simpa using g2
                            have HN := Lib.hid (HG2.out (by rw [HP.out, g3']) g2')
                            clear g2
                            go_wp2_with (go_at_call 52; refine (outB_any _ _ _ _).mono ?_; rintro e w' ⟨rfl, rfl⟩)
                            go_quiet (fail)
                            go_wp2_with (go_at_call 52; refine (outB_any _ _ _ _).mono ?_; rintro e w' ⟨rfl, rfl⟩)
                            go_roundw
                            case rel => exact ⟨m + 1 + 1, _, by omega, by go_num, by first | rfl | exact World.drewN_drewN _ _ _, HN.out⟩
                            case measure => simp [intOf]; omega
                  · obtain rfl : m = wn := by omega
                    have HV3 := Lib.hid (HS0.out (eachF_end (n := m) (by have := HWL.out; omega) he.out))
                    clear he hws
                    go_wp2
                    go_roundw
                    case rel => exact ⟨j + 1, q2, by omega, by go_num, rfl, HV3.out⟩
                    case measure => simp [intOf]; omega
        · obtain rfl : k = n := by omega
          have HV3 : Hid (checkRequests l RS = 0) := by
            show _ = _
            rw [HV2.out]
            exact eachF_end (n := k) (by rw [← HRS.out, List.length_map]; have := HN.out; omega) he.out
          clear he hr
          go_wp2
          go_ret
          exact ⟨ret_i64 HV3.out.symm, q, rfl⟩
end Go.Proofs.YtjfhncnpmelopaaGreatDoor
/- Walk of the reference's CheckAssignment. -/
namespace Go.Proofs.YtjfhncnpmelopaaGreatDoor
open Go.RowKit Go.Mem Go.Sheet
set_option maxRecDepth 100000 in
set_option maxHeartbeats 4000000 in
theorem refCheckAssignment_any (W : World) (vl vr va : Value) (nl n na : Nat) (l : List Slot) (rs : List Req) (a : List Int) (hl : Rd W (· < W.heap.size) 3 vl nl (l.flatMap Slot.cells)) (h : RdReqs W (· < W.heap.size) vr n rs) (ha : Rd W (· < W.heap.size) 1 va na (a.map (Value.int .i64))) (h0 : checkRequests l (rs.map Req.rq) = 0) :
    Calls Tryz.prog 24 #[vl, vr, va] W fun e w' => e = .returned (.tuple #[.int .i64 (checkAssignment l (rs.map Req.rq) a).1, .int .i64 (checkAssignment l (rs.map Req.rq) a).2]) ∧ Below W.heap.size W w' := by
  have hnl := hl.count (f := Slot.cells) (size := 3) (fun _ => rfl) (by decide)
  have hn := h.1.count (f := Req.cells) (size := 3) (fun _ => rfl) (by decide)
  have hna := ha.count1
  have HOK := Lib.hid (okay_of h0)
  have hnl24 : nl ≤ 24 := by rw [hnl]; exact HOK.out.nl
  have hn24 : n ≤ 24 := by rw [hn]; have := HOK.out.nr; simpa using this
  have hnae := ha.le
  have HSH : Hid (na ≠ n → checkAssignment l (rs.map Req.rq) a = (0, 2)) := fun e => checkAssignment_shape h0 (by rw [List.length_map]; omega)
  have HBD : Hid (na = n → eachF (caAt (rs.map Req.rq)) 0 a ≠ 0 → checkAssignment l (rs.map Req.rq) a = (0, eachF (caAt (rs.map Req.rq)) 0 a)) := fun e => checkAssignment_bad h0 (by rw [List.length_map]; omega)
  have HEN : Hid (na = n → eachF (caAt (rs.map Req.rq)) 0 a = 0 → checkAssignment l (rs.map Req.rq) a = if overAt (caEnd l (rs.map Req.rq) a).2 l then (0, 29) else ((caEnd l (rs.map Req.rq) a).1, 0)) := fun e => checkAssignment_end h0 (by rw [List.length_map]; omega)
  obtain ⟨A, c, rfl, _, _, _⟩ := h.1.open_
  obtain ⟨Al, cl, rfl, _, _, _⟩ := hl.open_
  obtain ⟨Aa, ca, rfl, _, _, _⟩ := ha.open_
  have HH := Lib.hid h
  have HA := Lib.hid ha
  have HLL := Lib.hid hl
  have HNL := Lib.hid hnl
  have HN := Lib.hid hn
  have HNA := Lib.hid hna
  clear h ha hl hnl hn hna h0
  go_enter Tryz.func24, Tryz.ntmps24
  by_cases hne : na = n
  · subst hne
    have S0 := St.refl W
    go_wp2_with (at_make; refine wpList_make_st eltI rfl _ _ rfl rfl rfl S0 (by omega) (by omega) ?_; intro w4 g S4 hg4 hb4)
    have hmc : (madeCells (Value.int .i64 0).cells (nl * 1)).toList = (List.replicate nl 0).map (Value.int .i64) := by
      show (madeCells #[.int .i64 0] (nl * 1)).toList = _
      rw [toList_madeCells_one]; simp
    rw [hmc] at S4
    simp only [List.nil_append] at S4
    clear hmc S0 hg4 hb4
    have hmk : caSt (0, List.replicate nl 0) ((rs.map Req.rq).take 0) (a.take 0) = (0, List.replicate nl 0) := by rw [List.take_zero, List.take_zero, caSt]; intros; contradiction
    go_loopw [10, 8] (fun i v w' => ∃ (k : Nat) (V : Int) (ts : List Int), k ≤ na ∧ i = .int .i64 k ∧ v = .int .i64 V ∧ Hid (caSt (0, List.replicate nl 0) ((rs.map Req.rq).take k) (a.take k) = (V, ts)) ∧
        Hid (eachF (caAt (rs.map Req.rq)) k (a.drop k) = eachF (caAt (rs.map Req.rq)) 0 a) ∧ St W w' [row 3 1 (.slice (some ⟨g, 0, none⟩) nl nl) nl (ts.map (Value.int .i64))]) (fun i _ _ => na - (intOf i).toNat)
    case atStart => exact ⟨0, 0, List.replicate nl 0, Nat.zero_le _, rfl, rfl, hmk, rfl, S4⟩
    case round =>
      obtain ⟨k, V, ts, hk, rfl, rfl, hst, he, S⟩ := hrel
      clear hmk S4
      have hbd := caSt_bd HOK.out ((rs.map Req.rq).take k) (a.take k) (0, List.replicate nl 0) 0 (fun x hx => List.mem_of_mem_take hx) (by simp) (fun j => by
        rw [List.getD_eq_getElem?_getD, List.getElem?_replicate]
        split <;> simp)
      rw [hst.out] at hbd
      have hlen : ((rs.map Req.rq).take k).length ≤ 24 := by rw [List.length_take, List.length_map]; have := HN.out; omega
      obtain ⟨⟨hV0, hV1⟩, hts, htl⟩ := hbd
      rw [List.length_replicate] at htl
      dsimp only at hV0 hV1 hts htl
      have hV2 : V ≤ 240000 := by omega
      have HTS : Hid (∀ j, 0 ≤ ts.getD j 0 ∧ ts.getD j 0 ≤ 24) := fun j => by have := hts j; omega
      have HTL := Lib.hid htl
      clear hts htl hV1 hlen
      by_cases hlt : k < na
      · obtain ⟨b, o, s, rfl, hs, hc⟩ := (HA.out.below S.bel).int hlt
        obtain ⟨b2, o2, x, rfl, hx, c0, c1, c2⟩ := (HH.out.1.below S.bel).elem3 (k := k) (fun s : Req => .string s.name) (fun s : Req => .bool s.g) (fun s : Req => .slice s.wa s.wn s.wc) (fun _ => rfl) hlt
        have hxm := List.mem_of_getElem? hx
        have HX : Hid ((rs.map Req.rq)[k]? = some x.rq) := by
          show _ = _
          rw [List.getElem?_map, hx]; rfl
        have HSA := Lib.hid hs
        have HWR := Lib.hid ((HH.out.2 x hxm).1.later S.bel)
        have HCA : Hid (caAt (rs.map Req.rq) k s = caE x.rq s) := by
          show _ = _
          rw [caAt, HX.out]
        have HSN := Lib.hid (caSt_snoc (rs.map Req.rq) a k (0, List.replicate nl 0) x.rq s HX.out hs)
        have HW := Lib.hid (refW_cases HOK.out (List.mem_map_of_mem hxm) s)
        obtain ⟨name, gg, wa, wn, wc, ws⟩ := x
        simp only at c0 c1 c2
        clear hx hs hxm
        by_cases hs1 : s = -1
        · subst hs1
          cases gg with
          | true =>
            have HV : Hid (checkAssignment l (rs.map Req.rq) a = (0, 23)) := by
              show _ = _
              have h23 : caAt (rs.map Req.rq) k (-1) = 23 := by rw [HCA.out, caE_free]; rfl
              have h1 := eachF_stop HSA.out (by rw [h23]; decide) he.out
              rw [HBD.out (by trivial) (by rw [← h1, h23]; decide), ← h1, h23]
            have hbw := S.bel
            clear S he hst
            go_wp2
            go_ret2
            exact ⟨by rw [HV.out]; rfl, hbw⟩
          | false =>
            have h00 : caAt (rs.map Req.rq) k (-1) = 0 := by rw [HCA.out, caE_free]; rfl
            have HE := Lib.hid (eachF_go HSA.out (by rw [h00]; simp) he.out)
            have HS2 : Hid (caSt (0, List.replicate nl 0) ((rs.map Req.rq).take (k + 1)) (a.take (k + 1)) = (V, ts)) := by
              show _ = _
              rw [HSN.out, if_pos rfl, hst.out]
            have HS := Lib.hid S
            clear S he hst h00
            go_wp2
            go_roundw
            case rel => exact ⟨k + 1, V, ts, by omega, by go_num, rfl, HS2.out, HE.out, HS.out⟩
            case measure => simp [intOf]; omega
        · have hs1' : (s == -1) = false := by simpa using hs1
          rcases HW.out with ⟨hw, w1, w2, s0, s1⟩ | ⟨hw, w1⟩
          · obtain ⟨m, rfl⟩ : ∃ m : Nat, s = m := ⟨s.toNat, by omega⟩
            have hm : m < nl := by have := HNL.out; omega
            have h00 : caAt (rs.map Req.rq) k (m : Int) = 0 := by rw [HCA.out, caE_some hs1 hw]
            have HE := Lib.hid (eachF_go HSA.out (by rw [h00]; simp) he.out)
            have HS2 := HSN.out
            rw [if_neg hs1, hst.out, caUp_has hw] at HS2
            dsimp only at HS2
            rw [Int.toNat_natCast] at HS2
            have HCW0 := Lib.hid (fun (w' : World) (hb : Below wr.heap.size wr w') => refWeight_any w' ⟨name, gg, wa, wn, wc, ws⟩ m (HWR.out.later hb))
            generalize refW (Req.rq ⟨name, gg, wa, wn, wc, ws⟩) (m : Int) = R at *
            obtain ⟨t, ht⟩ : ∃ t, ts[m]? = some t := ⟨_, List.getElem?_eq_getElem (by have := HTL.out; omega)⟩
            have hgd : ts.getD m 0 = t := by rw [List.getD_eq_getElem?_getD, ht]; rfl
            have htb := HTS.out m
            rw [hgd] at htb HS2
            have HS2 := Lib.hid HS2
            have hblk := World.block_lt_of_cell? wr _ hc
            have hblk2 := World.block_lt_of_cell? wr _ c0
            clear he hst h00 hgd HSN HW HWR hs1 hw s0 s1
            go_wp2_with fail
            refine wp_cls 9 (fun w' => Below wr.heap.size wr w') (by kernel_rfl) (by kernel_rfl) (Below.refl _ _).drew ?_
            simp only [List.take_succ_cons, List.take_zero, List.drop_succ_cons, List.drop_zero]
            generalize hK : (fun w' => Below wr.heap.size wr w') = K
            intro hne
            have kb : ∀ z : Wd K, Below wr.heap.size wr z.w := by subst hK; exact fun z => z.h
            have hK3 : ∀ w w' : World, K w → Below w.heap.size w w' → K w' := by subst hK; exact fun w w' h h' => h.trans (h'.mono h.size)
            have y0 : ∀ z : Wd K, z.w.cell? ⟨b2, o2 + k * 3, none⟩ = some (.string name) := fun z => ((kb z).cell (p := ⟨b2, o2 + k * 3, none⟩) hblk2).trans c0
            have y1 : ∀ z : Wd K, z.w.cell? ⟨b2, o2 + k * 3 + 1, none⟩ = some (.bool gg) := fun z => ((kb z).cell (p := ⟨b2, o2 + k * 3 + 1, none⟩) hblk2).trans c1
            have y2 : ∀ z : Wd K, z.w.cell? ⟨b2, o2 + k * 3 + 2, none⟩ = some (.slice wa wn wc) := fun z => ((kb z).cell (p := ⟨b2, o2 + k * 3 + 2, none⟩) hblk2).trans c2
            have y3 : ∀ z : Wd K, z.w.cell? ⟨b, o + k, none⟩ = some (.int .i64 m) := fun z => ((kb z).cell (p := ⟨b, o + k, none⟩) hblk).trans hc
            have HCW : Hid (∀ z : Wd K, Calls Tryz.prog 88 #[.agg #[.string name, .bool gg, .slice wa wn wc], .int .i64 m] z.w fun e w' => e = .returned (.int .i64 R) ∧ ∃ u : Wd K, w' = u.w) := fun z => cls_below hK3 (HCW0.out _ (kb z))
            clear hK hK3 HCW0 c0 c1 c2 hc
            repeat (go_big_quiet_step ((go_at_call 88; exact HCW.out _)))
            refine wpQuiet_nil ?_
            intro z
            have hb := kb z
            have S2 := S.ext hb
            have x3 := y3 z
            clear kb y0 y1 y2 y3 hne HCW S
            generalize z.w = w2 at *
            obtain ⟨g', c', hv, _, _, _, hcc, hfr⟩ := S2.row_form (i := 0) rfl (by omega)
            cases hv
            have k0 := hcc m (by omega)
            rw [List.getElem?_map, ht] at k0
            have f0 := hfr m
            have S3 := S2.row_set (i := 0) rfl m (.int .i64 (t + 1))
            rw [show (ts.map (Value.int .i64)).set m (.int .i64 (t + 1)) = (ts.set m (t + 1)).map (Value.int .i64) by rw [List.map_set]] at S3
            have HS3 := Lib.hid S3
            clear S3 S2 hcc hfr ht hb
            simp only [Option.map_some] at k0
            go_wp2
            go_roundw
            case rel => exact ⟨k + 1, V + R, ts.set m (t + 1), by omega, by go_num, by go_num, HS2.out, HE.out, HS3.out⟩
            case measure => simp [intOf]; omega
          · have HV : Hid (checkAssignment l (rs.map Req.rq) a = (0, 10)) := by
              show _ = _
              have h10 : caAt (rs.map Req.rq) k s = 10 := by rw [HCA.out, caE_none hs1 hw]
              have h1 := eachF_stop HSA.out (by rw [h10]; decide) he.out
              rw [HBD.out (by trivial) (by rw [← h1, h10]; decide), ← h1, h10]
            have HCW0 := Lib.hid (fun (w' : World) (hb : Below wr.heap.size wr w') => refWeight_any w' ⟨name, gg, wa, wn, wc, ws⟩ s (HWR.out.later hb))
            rw [w1] at HCW0
            have hbw := S.bel
            have hblk := World.block_lt_of_cell? wr _ hc
            have hblk2 := World.block_lt_of_cell? wr _ c0
            clear he hst HSN HW HWR hs1 hw w1 S
            by_cases hsn : s < 0
            · have hsn' : decide (0 ≤ s) = false := by simp; omega
              go_wp2
              go_ret2
              exact ⟨by rw [HV.out]; rfl, hbw⟩
            · have hsn' : decide (0 ≤ s) = true := by simp; omega
              go_wp2_with fail
              refine wp_cls 9 (fun w' => Below wr.heap.size wr w') (by kernel_rfl) (by kernel_rfl) (Below.refl _ _).drew ?_
              simp only [List.take_succ_cons, List.take_zero, List.drop_succ_cons, List.drop_zero]
              generalize hK : (fun w' => Below wr.heap.size wr w') = K
              intro hne
              have kb : ∀ z : Wd K, Below wr.heap.size wr z.w := by subst hK; exact fun z => z.h
              have hK3 : ∀ w w' : World, K w → Below w.heap.size w w' → K w' := by subst hK; exact fun w w' h h' => h.trans (h'.mono h.size)
              have y0 : ∀ z : Wd K, z.w.cell? ⟨b2, o2 + k * 3, none⟩ = some (.string name) := fun z => ((kb z).cell (p := ⟨b2, o2 + k * 3, none⟩) hblk2).trans c0
              have y1 : ∀ z : Wd K, z.w.cell? ⟨b2, o2 + k * 3 + 1, none⟩ = some (.bool gg) := fun z => ((kb z).cell (p := ⟨b2, o2 + k * 3 + 1, none⟩) hblk2).trans c1
              have y2 : ∀ z : Wd K, z.w.cell? ⟨b2, o2 + k * 3 + 2, none⟩ = some (.slice wa wn wc) := fun z => ((kb z).cell (p := ⟨b2, o2 + k * 3 + 2, none⟩) hblk2).trans c2
              have y3 : ∀ z : Wd K, z.w.cell? ⟨b, o + k, none⟩ = some (.int .i64 s) := fun z => ((kb z).cell (p := ⟨b, o + k, none⟩) hblk).trans hc
              have HCW : Hid (∀ z : Wd K, Calls Tryz.prog 88 #[.agg #[.string name, .bool gg, .slice wa wn wc], .int .i64 s] z.w fun e w' => e = .returned (.int .i64 (-1)) ∧ ∃ u : Wd K, w' = u.w) := fun z => cls_below hK3 (HCW0.out _ (kb z))
              clear hK hK3 HCW0 c0 c1 c2 hc
              repeat (go_big_quiet_step ((go_at_call 88; exact HCW.out _)))
              refine wpQuiet_nil ?_
              intro z
              have hb := hbw.trans ((kb z).mono hbw.size)
              clear kb y0 y1 y2 y3 hne HCW
              go_wp2
              go_ret2
              exact ⟨by rw [HV.out]; rfl, hb⟩
      · obtain rfl : k = na := by omega
        have h00 := eachF_end (n := k) (by have := HNA.out; omega) he.out
        have HV := HEN.out (by trivial) h00
        have hend : caEnd l (rs.map Req.rq) a = (V, ts) := by
          have h1 := hst.out
          rw [List.take_of_length_le (by rw [List.length_map]; have := HN.out; omega), List.take_of_length_le (by have := HNA.out; omega)] at h1
          rw [caEnd, ← HNL.out, h1]
        rw [hend] at HV
        dsimp only at HV
        have HV := Lib.hid HV
        have HRT := Lib.hid (S.row_rd (i := 0) rfl)
        have hbw := S.bel
        have HLW := Lib.hid (HLL.out.below S.bel)
        clear he hst h00 hend S
        generalize wr = wb at *
        go_wp2
        go_loopw [12] (fun i w' => ∃ (j q : Nat), j ≤ nl ∧ i = .int .i64 j ∧ w' = wb.drewN q ∧ Hid (overAt (ts.drop j) (l.drop j) = overAt ts l)) (fun i _ => nl - (intOf i).toNat)
        case atStart => exact ⟨0, 0, Nat.zero_le _, rfl, rfl, rfl⟩
        case round =>
          obtain ⟨j, q, hj, rfl, rfl, he⟩ := hrel
          have hbq := hbw.trans (below_drewN (Below.refl W.heap.size wb) q)
          by_cases hlj : j < nl
          · obtain ⟨b, o, t, hA, ht, hc⟩ := HRT.out.int hlj
            cases hA
            simp only [Nat.zero_add] at hc
            obtain ⟨b2, o2, s, rfl, hs, c0, c1, c2⟩ := HLW.out.elem3 (k := j) (fun s : Slot => .int .i64 s.m) (fun s : Slot => .int .i64 s.h) (fun s : Slot => .int .i64 s.p) (fun _ => rfl) hlj
            have HT := Lib.hid ht
            have HS := Lib.hid hs
            clear ht hs
            by_cases hgt : s.p < t
            · have HO := Lib.hid (overAt_stop HT.out HS.out hgt he.out)
              have hgt' : decide (s.p < t) = true := by simpa using hgt
              clear he
              go_wp2_with fail
              go_quiet (fail)
              go_wp2
              go_ret2
              exact ⟨by rw [HV.out, HO.out]; rfl, hbq.trans (below_drewN (Below.refl _ _) _)⟩
            · have HO := Lib.hid (overAt_go HT.out HS.out hgt he.out)
              have hgt' : decide (s.p < t) = false := by simpa using hgt
              clear he
              go_wp2_with fail
              go_quiet (fail)
              go_wp2
              go_roundw
              case rel => exact ⟨j + 1, _, by omega, by go_num, by first | rfl | exact World.drewN_drewN _ _ _, HO.out⟩
              case measure => simp [intOf]; omega
          · have HO := Lib.hid (overAt_end (k := j) (by have := HTL.out; omega) he.out)
            clear he
            go_wp2
            go_ret2
            exact ⟨by rw [HV.out, HO.out]; rfl, hbq⟩
  · have HV := Lib.hid (HSH.out hne)
    have hne' : ((na : Int) != (n : Int)) = true := by simp; omega
    clear hne
    go_wp2
    go_ret2
    exact ⟨by rw [HV.out]; rfl, Below.refl _ _⟩
end Go.Proofs.YtjfhncnpmelopaaGreatDoor
/- The pace of play as plain functions. -/
namespace Go.Sheet
/-- a pace as plain data -/
structure PC where
  rd : List Int
  mi : List (List Int)
  ho : List Int
  deriving DecidableEq
def paceE1 (p : PC) : Int := fst [whenE (decide (p.rd.length = 0)) 12, whenE (decide (24 < p.rd.length)) 5, eachF (fun _ n => outE n 0 10000) 0 p.rd, whenE (decide (p.mi.length ≠ p.rd.length)) 2]
def paceE2 (p : PC) : Int := fst [whenE (decide (p.ho.length = 0)) 12, whenE (decide (36 < p.ho.length)) 5, eachF (fun _ n => outE n 1 8) 0 p.ho]
def paceR (nh : Nat) (row : List Int) : Int := if row.length ≠ nh then 2 else eachF (fun _ n => outE n 1 10000) 0 row
def checkPace (p : PC) : Int := if paceE1 p ≠ 0 then paceE1 p else if paceE2 p ≠ 0 then paceE2 p else eachF (fun _ r => paceR p.ho.length r) 0 p.mi
def at2 (B : List (List Int)) (g h : Nat) : Int := (B.getD g []).getD h 0
def beginF (g : Nat) (B E : List (List Int)) (hd : Int) (h : Nat) (at_ : Int) : Int :=
  let b := if 0 < g then max at_ (at2 B (g - 1) h) else at_
  if hd ≤ (g : Int) then max b (at2 E (g - hd.toNat) h) else b
def endF (g : Nat) (E : List (List Int)) (h : Nat) (b m : Int) : Int := if 0 < g then max (b + m) (at2 E (g - 1) h) else b + m
/-- a group on the holes from h on: it comes, begins, ends -/
def playH (g : Nat) (B E : List (List Int)) (mi : List Int) : Nat → List Int → Int → List (Int × Int × Int)
  | _, [], _ => []
  | h, hd :: ho, at_ => (at_, beginF g B E hd h at_, endF g E h (beginF g B E hd h at_) (mi.getD h 0)) :: playH g B E mi (h + 1) ho (endF g E h (beginF g B E hd h at_) (mi.getD h 0))
structure Tab where
  c : List (List Int)
  b : List (List Int)
  e : List (List Int)
def playG (mi : List (List Int)) (ho : List Int) : Nat → List Int → Tab → Tab
  | _, [], T => T
  | g, rd :: rds, T => let row := playH g T.b T.e (mi.getD g []) 0 ho rd
    playG mi ho (g + 1) rds ⟨T.c ++ [row.map (·.1)], T.b ++ [row.map (·.2.1)], T.e ++ [row.map (·.2.2)]⟩
def played (p : PC) : Tab := playG p.mi p.ho 0 p.rd ⟨[], [], []⟩
def delayL (p : PC) : Nat → List (List Int) → List Int
  | _, [] => []
  | g, e :: l => (e.getD (e.length - 1) 0 - p.rd.getD g 0 - sumF (p.mi.getD g [])) :: delayL p (g + 1) l
def waitH (C B : List (List Int)) (n h : Nat) : Int := sumF ((List.range n).map fun g => at2 B g h - at2 C g h)
def waits (p : PC) : List Int := (List.range p.ho.length).map (waitH (played p).c (played p).b p.rd.length)
end Go.Sheet
