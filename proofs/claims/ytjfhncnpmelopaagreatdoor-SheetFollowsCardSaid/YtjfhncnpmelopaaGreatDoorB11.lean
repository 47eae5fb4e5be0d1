/- Part 11 of the walks of the golf union's program: S8e, WL1, WQ0, WP1, WP2. -/
import Derived.Test.YtjfhncnpmelopaaGreatDoorB10
import Derived.Test.YtjfhncnpmelopaaGreatDoorB01
import Derived.Test.YtjfhncnpmelopaaGreatDoorB03
import Derived.WalkSpells
import Derived.Outline
import Derived.Test.YtjfhncnpmelopaaGreatDoorB09
set_option linter.unusedVariables false
set_option linter.unusedSimpArgs false
set_option linter.unusedSectionVars false
set_option linter.constructorNameAsVariable false
/- The pace of play: what a valid pace is, and bounds. -/
namespace Go.Sheet
structure POk (p : PC) : Prop where
  rd0 : 0 < p.rd.length
  rd24 : p.rd.length ≤ 24
  rdb : ∀ x ∈ p.rd, 0 ≤ x ∧ x ≤ 10000
  mil : p.mi.length = p.rd.length
  ho0 : 0 < p.ho.length
  ho36 : p.ho.length ≤ 36
  hob : ∀ x ∈ p.ho, 1 ≤ x ∧ x ≤ 8
  mib : ∀ r ∈ p.mi, r.length = p.ho.length ∧ ∀ x ∈ r, 1 ≤ x ∧ x ≤ 10000
theorem eachF_out {lo hi : Int} {l : List Int} (h : eachF (fun _ n => outE n lo hi) 0 l = 0) : ∀ x ∈ l, lo ≤ x ∧ x ≤ hi := by
  intro x hx
  obtain ⟨i, hi, rfl⟩ := List.mem_iff_getElem.1 hx
  exact (outE_zero _ _ _).1 ((eachF_zero _ _ _).1 h i _ (List.getElem?_eq_getElem hi))
theorem pok_of {p : PC} (h : checkPace p = 0) : POk p := by
  unfold checkPace at h
  by_cases h1 : paceE1 p = 0
  · by_cases h2 : paceE2 p = 0
    · simp only [h1, h2, ne_eq, not_true_eq_false, if_false] at h
      have e1 := (fst_zero _).1 h1
      have e2 := (fst_zero _).1 h2
      simp only [List.mem_cons, List.not_mem_nil, or_false, forall_eq_or_imp, forall_eq] at e1 e2
      obtain ⟨a1, a2, a3, a4⟩ := e1
      obtain ⟨b1, b2, b3⟩ := e2
      rw [whenE_zero _ _ (by decide)] at a1 a2 a4 b1 b2
      simp only [decide_eq_false_iff_not] at a1 a2 a4 b1 b2
      refine ⟨by omega, by omega, eachF_out a3, by omega, by omega, by omega, eachF_out b3, fun r hr => ?_⟩
      obtain ⟨i, hi, rfl⟩ := List.mem_iff_getElem.1 hr
      have hz := (eachF_zero _ _ _).1 h i _ (List.getElem?_eq_getElem hi)
      simp only [paceR] at hz
      split at hz
      · cases hz
      · rename_i hl; exact ⟨by omega, eachF_out hz⟩
    · simp [h1, h2] at h
  · simp [h1] at h
/-- the rows made so far: as many as groups, each as long as the holes, entries between 0 and m -/
structure TOk (n : Nat) (B : List (List Int)) (m : Int) : Prop where
  len : ∀ r ∈ B, r.length = n
  bd : ∀ r ∈ B, ∀ x ∈ r, 0 ≤ x ∧ x ≤ m
theorem TOk.nil (n : Nat) (m : Int) : TOk n [] m := ⟨(fun _ h => by cases h), (fun _ h => by cases h)⟩
theorem TOk.mono {n : Nat} {B : List (List Int)} {m m' : Int} (h : TOk n B m) (hm : m ≤ m') : TOk n B m' :=
  ⟨h.len, fun r hr x hx => ⟨(h.bd r hr x hx).1, Int.le_trans (h.bd r hr x hx).2 hm⟩⟩
theorem TOk.snoc {n : Nat} {B : List (List Int)} {m : Int} {r : List Int} (h : TOk n B m) (hl : r.length = n) (hr : ∀ x ∈ r, 0 ≤ x ∧ x ≤ m) : TOk n (B ++ [r]) m := by
  refine ⟨fun x hx => ?_, fun x hx => ?_⟩
  · rcases List.mem_append.1 hx with hx | hx
    · exact h.len x hx
    · obtain rfl := List.mem_singleton.1 hx; exact hl
  · rcases List.mem_append.1 hx with hx | hx
    · exact h.bd x hx
    · obtain rfl := List.mem_singleton.1 hx; exact hr
theorem TOk.at_ {n : Nat} {B : List (List Int)} {m : Int} (h : TOk n B m) (hm : 0 ≤ m) (g i : Nat) : 0 ≤ at2 B g i ∧ at2 B g i ≤ m := by
  unfold at2
  cases hb : B[g]? with
  | none => simp [hb, hm]
  | some r =>
    simp only [List.getD_eq_getElem?_getD, hb, Option.getD_some]
    cases hx : r[i]? with
    | none => simp [hm]
    | some x => exact h.bd r (List.mem_of_getElem? hb) x (List.mem_of_getElem? hx)
theorem beginF_bd {n g i : Nat} {B E : List (List Int)} {hd a m : Int} (hB : TOk n B m) (hE : TOk n E m) (h0 : 0 ≤ m) (ha : 0 ≤ a ∧ a ≤ m) : 0 ≤ beginF g B E hd i a ∧ beginF g B E hd i a ≤ m := by
  have h1 := hB.at_ h0 (g - 1) i
  have h2 := hE.at_ h0 (g - hd.toNat) i
  unfold beginF
  simp only
  split <;> split <;> omega
theorem endF_bd {n g i : Nat} {E : List (List Int)} {b x m : Int} (hE : TOk n E m) (h0 : 0 ≤ m) (hb : 0 ≤ b ∧ b ≤ m) (hx : 0 ≤ x ∧ x ≤ 10000) : 0 ≤ endF g E i b x ∧ endF g E i b x ≤ m + 10000 := by
  have h2 := hE.at_ h0 (g - 1) i
  unfold endF
  split <;> omega
/-- a row of play: its length and bounds -/
theorem playH_len (g : Nat) (B E : List (List Int)) (mi : List Int) : ∀ (ho : List Int) (h : Nat) (a : Int), (playH g B E mi h ho a).length = ho.length
  | [], _, _ => rfl
  | _ :: ho, h, a => by rw [playH, List.length_cons, playH_len g B E mi ho, List.length_cons]
theorem playH_bd {n g : Nat} {B E : List (List Int)} {mi : List Int} {m : Int} (hB : TOk n B m) (hE : TOk n E m) (h0 : 0 ≤ m) (hmi : ∀ x ∈ mi, 0 ≤ x ∧ x ≤ 10000) :
    ∀ (ho : List Int) (h : Nat) (a : Int), 0 ≤ a → a ≤ m + 10000 * h → ∀ y ∈ playH g B E mi h ho a,
      (0 ≤ y.1 ∧ y.1 ≤ m + 10000 * (h + ho.length)) ∧ (0 ≤ y.2.1 ∧ y.2.1 ≤ m + 10000 * (h + ho.length)) ∧ (0 ≤ y.2.2 ∧ y.2.2 ≤ m + 10000 * (h + ho.length))
  | [], _, _, _, _ => fun y hy => by cases hy
  | hd :: ho, h, a, ha0, ha => fun y hy => by
    have hx : 0 ≤ mi.getD h 0 ∧ mi.getD h 0 ≤ 10000 := by
      rw [List.getD_eq_getElem?_getD]
      cases hm : mi[h]? with
      | none => simp
      | some x => exact hmi x (List.mem_of_getElem? hm)
    have hb := beginF_bd (g := g) (i := h) (hd := hd) (hB.mono (m' := m + 10000 * h) (by omega)) (hE.mono (m' := m + 10000 * h) (by omega)) (by omega) ⟨ha0, ha⟩
    have he := endF_bd (g := g) (i := h) (hE.mono (m' := m + 10000 * h) (by omega)) (by omega) hb hx
    rw [playH] at hy
    rcases List.mem_cons.1 hy with rfl | hy
    · simp only [List.length_cons, Int.natCast_add, Int.natCast_one] at *
      refine ⟨⟨ha0, by omega⟩, ⟨hb.1, by omega⟩, ⟨he.1, by omega⟩⟩
    · have := playH_bd hB hE h0 hmi ho (h + 1) _ he.1 (by rw [Int.natCast_add]; omega) y hy
      simp only [List.length_cons, Int.natCast_add] at *
      omega
end Go.Sheet
/- Walks of small functions on lists: total, Max, Index, SameInts, and the law's helpers integer, list. -/
namespace Go.Sheet
theorem sumF_go {l : List Int} {k : Nat} {x s : Int} (h : l[k]? = some x) (e : s + sumF (l.drop k) = sumF l) : s + x + sumF (l.drop (k + 1)) = sumF l := by
  rw [← e, drop_at h, sumF]; omega
theorem sumF_end {l : List Int} {n : Nat} {s : Int} (h : l.length ≤ n) (e : s + sumF (l.drop n) = sumF l) : s = sumF l := by
  rw [← e, List.drop_of_length_le h, sumF]; omega
def maxF : Int → List Int → Int
  | a, [] => a
  | a, x :: l => maxF (max a x) l
def maxL (l : List Int) : Int := maxF (l.getD 0 0) (l.drop 1)
theorem max_if (a b : Int) : (if a < b then b else a) = max a b := by omega
theorem maxF_go {l : List Int} {k : Nat} {x s t : Int} (h : l[k]? = some x) (e : maxF s (l.drop k) = t) : maxF (if s < x then x else s) (l.drop (k + 1)) = t := by
  rw [← e, drop_at h, maxF, max_if]
theorem maxF_end {l : List Int} {n : Nat} {s t : Int} (h : l.length ≤ n) (e : maxF s (l.drop n) = t) : s = t := by
  rw [← e, List.drop_of_length_le h, maxF]
end Go.Sheet
namespace Go.Proofs.YtjfhncnpmelopaaGreatDoor
open Go.RowKit Go.Mem Go.Sheet
set_option maxHeartbeats 400000 in
theorem total_any (w : World) (F : Nat → Prop) (v : Value) (l : List Int) (h : Rd w F 1 v l.length (l.map (Value.int .i64))) (hb : ∀ x ∈ l, -1000000 ≤ x ∧ x ≤ 1000000) (hl : l.length ≤ 1000) :
    Calls Tryz.prog 90 #[v] w fun r w' => r = .returned (.int .i64 (sumF l)) ∧ w = w' := by
  have HB := Lib.hid hb
  generalize HL : l.length = n at *
  obtain ⟨A, c, rfl, _, _, h⟩ := h.open_
  go_enter Tryz.func90, Tryz.ntmps90
  have HL := Lib.hid HL
  clear hb
  go_wp2
  go_loop [8, 3] (fun i s => ∃ (k : Nat) (t : Int), k ≤ n ∧ i = .int .i64 k ∧ s = .int .i64 t ∧ -1000000 * (k : Int) ≤ t ∧ t ≤ 1000000 * (k : Int) ∧ Hid (t + sumF (l.drop k) = sumF l)) (fun i _ => n - (intOf i).toNat)
  case atStart => exact ⟨0, 0, Nat.zero_le _, rfl, rfl, by omega, by omega, by show _ = _; simp⟩
  case round =>
    obtain ⟨k, t, hk, rfl, rfl, h1, h2, he⟩ := hrel
    by_cases hlt : k < n
    · obtain ⟨b, o, x, rfl, hx, hc⟩ := h.int hlt
      have hxb := HB.out x (List.mem_of_getElem? hx)
      have HG := Lib.hid (sumF_go hx he.out)
      clear hx
      go_wp2
      go_round
      case rel => exact ⟨k + 1, _, by omega, by go_num, rfl, by omega, by omega, HG.out⟩
      case measure => simp [intOf]; omega
    · go_wp2
      go_ret
      obtain rfl : k = n := by omega
      exact ⟨ret_i64 (sumF_end (Nat.le_of_eq HL.out) he.out), rfl⟩
set_option maxHeartbeats 400000 in
theorem max_any (w : World) (F : Nat → Prop) (v : Value) (l : List Int) (h : Rd w F 1 v l.length (l.map (Value.int .i64))) (h0 : 0 < l.length) :
    Calls Tryz.prog 91 #[v] w fun r w' => r = .returned (.int .i64 (maxL l)) ∧ w = w' := by
  generalize HL : l.length = n at *
  have hn := h.le
  obtain ⟨A, c, rfl, _, _, h⟩ := h.open_
  obtain ⟨b, o, x0, rfl, hx0, hc0⟩ := h.int h0
  have HX0 := Lib.hid hx0
  have HL := Lib.hid HL
  rw [Nat.add_zero] at hc0
  clear hx0
  go_enter Tryz.func91, Tryz.ntmps91
  have hn1 : ¬ (n : Int) < 1 := by omega
  go_wp2
  go_loop [4, 3] (fun i s => ∃ (k : Nat) (t : Int), 0 < k ∧ k ≤ n ∧ i = .int .i64 k ∧ s = .int .i64 t ∧ Hid (maxF t (l.drop k) = maxL l)) (fun i _ => n - (intOf i).toNat)
  case atStart => exact ⟨1, x0, by omega, h0, rfl, rfl, by show _ = _; rw [maxL, List.getD_eq_getElem?_getD, HX0.out]; rfl⟩
  case round =>
    obtain ⟨k, t, hk0, hk, rfl, rfl, he⟩ := hrel
    by_cases hlt : k < n
    · obtain ⟨b', o', x, hA, hx, hc⟩ := h.int hlt
      cases hA
      have HG := Lib.hid (maxF_go hx he.out)
      clear hx
      go_wp2
      go_round
      case rel => exact ⟨k + 1, _, by omega, by omega, by go_num, rfl, HG.out⟩
      case measure => simp [intOf]; omega
    · go_wp2
      go_ret
      exact ⟨ret_i64 (maxF_end (by have := HL.out; omega) he.out), rfl⟩
set_option maxHeartbeats 400000 in
theorem index_any (w : World) (F : Nat → Prop) (v : Value) (l : List Int) (y : Int) (h : Rd w F 1 v l.length (l.map (Value.int .i64))) :
    Calls Tryz.prog 92 #[v, .int .i64 y] w fun r w' => r = .returned (.int .i64 (idxF (fun x => y == x) 0 l)) ∧ w = w' := by
  generalize HL : l.length = n at *
  have hn := h.le
  obtain ⟨A, c, rfl, _, _, h⟩ := h.open_
  have HL := Lib.hid HL
  go_enter Tryz.func92, Tryz.ntmps92
  go_wp2
  go_loop [8] (fun i => ∃ (k : Nat), k ≤ n ∧ i = .int .i64 k ∧ Hid (idxF (fun x => y == x) k (l.drop k) = idxF (fun x => y == x) 0 l)) (fun i => n - (intOf i).toNat)
  case atStart => exact ⟨0, Nat.zero_le _, rfl, rfl⟩
  case round =>
    obtain ⟨k, hk, rfl, he⟩ := hrel
    by_cases hlt : k < n
    · obtain ⟨b, o, x, rfl, hx, hc⟩ := h.int hlt
      have HX := Lib.hid hx
      clear hx
      go_wp2
      · go_ret
        exact ⟨ret_i64 (idxF_stop HX.out ‹(y == x) = true› he.out), rfl⟩
      · go_round
        case rel => exact ⟨k + 1, by omega, by go_num, idxF_go HX.out ‹(y == x) = false› he.out⟩
        case measure => simp [intOf]; omega
    · go_wp2
      go_ret
      obtain rfl : k = n := by omega
      exact ⟨ret_i64 (idxF_end (Nat.le_of_eq HL.out) he.out), rfl⟩
theorem below_drewN {B : Nat} {a w : World} (h : Below B a w) (n : Nat) : Below B a (w.drewN n) := ⟨h.os, h.tape, h.output, h.size, h.block⟩
set_option maxHeartbeats 400000 in
theorem sameInts_any (w : World) (F F' : Nat → Prop) (va vb : Value) (a b : List Int) (ha : Rd w F 1 va a.length (a.map (Value.int .i64))) (hb : Rd w F' 1 vb b.length (b.map (Value.int .i64))) :
    Calls Tryz.prog 66 #[va, vb] w fun r w' => r = .returned (.bool (decide (a = b))) ∧ ∃ n, w' = w.drewN n := by
  generalize HL : a.length = n at *
  generalize HM : b.length = m at *
  have hn := ha.le
  have hm := hb.le
  obtain ⟨A, c, rfl, _, _, ha⟩ := ha.open_
  obtain ⟨A', c', rfl, _, _, hb⟩ := hb.open_
  have HL := Lib.hid HL
  have HM := Lib.hid HM
  go_enter Tryz.func66, Tryz.ntmps66
  by_cases hnm : n = m
  · subst hnm
    go_wp2
    go_loopw [5] (fun i w' => ∃ (k q : Nat), k ≤ n ∧ i = .int .i64 k ∧ w' = w.drewN q ∧ Hid (∀ j, j < k → a[j]? = b[j]?)) (fun i _ => n - (intOf i).toNat)
    case atStart => exact ⟨0, 0, Nat.zero_le _, rfl, rfl, fun j hj => by omega⟩
    case round =>
      obtain ⟨k, q, hk, rfl, rfl, he⟩ := hrel
      by_cases hlt : k < n
      · obtain ⟨b1, o, x, rfl, hx, hc⟩ := ha.int hlt
        obtain ⟨b2, o2, y, rfl, hy, hd⟩ := hb.int hlt
        have HX := Lib.hid hx
        have HY := Lib.hid hy
        clear hx hy
        go_wp2_with fail
        go_quiet (fail)
        go_wp2
        · go_ret
          exact ⟨ret_bool (by
            have hne : x ≠ y := by simpa using ‹(x != y) = true›
            rw [eq_comm, decide_eq_false_iff_not]
            rintro rfl
            exact hne (Option.some.inj (HX.out.symm.trans HY.out))), _, World.drewN_drewN _ _ _⟩
        · go_roundw
          case rel => exact ⟨k + 1, _, by omega, by go_num, rfl, fun j hj => by
            by_cases e : j = k
            · subst e; rw [HX.out, HY.out, show x = y by simpa using ‹(x != y) = false›]
            · exact he.out j (by omega)⟩
          case measure => simp [intOf]; omega
      · go_wp2
        go_ret
        exact ⟨ret_bool (by
          rw [eq_comm, decide_eq_true_iff]
          refine List.ext_getElem? fun j => ?_
          by_cases hj : j < k
          · exact he.out j hj
          · rw [List.getElem?_eq_none (by have := HL.out; omega), List.getElem?_eq_none (by have := HM.out; omega)]), q, rfl⟩
  · have hne : ((n : Int) != (m : Int)) = true := by simp; omega
    have HNE := Lib.hid hnm
    clear hnm
    go_wp2
    go_ret
    exact ⟨ret_bool (by
      rw [eq_comm, decide_eq_false_iff_not]
      rintro rfl
      exact HNE.out (HL.out.symm.trans HM.out)), 0, rfl⟩
/-- a list and an error are the wanted ones -/
def listOk (l : List Int) (e bad : Int) (want : List Int) : Bool := if bad ≠ 0 then decide (l.length = 0) && (e == bad) else (e == 0) && decide (l = want)
def intOk (n e bad want : Int) : Bool := if bad ≠ 0 then (n == 0) && (e == bad) else (e == 0) && (n == want)
theorem integer_any (w : World) (n e bad want : Int) : Calls Tryz.prog 21 #[.int .i64 n, .int .i64 e, .int .i64 bad, .int .i64 want] w fun r w' => r = .returned (.bool (intOk n e bad want)) ∧ w = w' := by
  go_enter Tryz.func21, Tryz.ntmps21
  have HD : Hid (intOk n e bad want = if bad ≠ 0 then (n == 0) && (e == bad) else (e == 0) && (n == want)) := rfl
  cases h1 : (bad != 0)
  · have h1' : ¬ bad ≠ 0 := by simpa using h1
    have HV : Hid (intOk n e bad want = ((e == 0) && (n == want))) := by show _ = _; rw [HD.out, if_neg h1']
    clear h1' HD
    cases h2 : (e == 0)
    all_goals
      go_wp2
      go_ret
      exact ⟨ret_bool (by rw [HV.out, h2]; simp), rfl⟩
  · have h1' : bad ≠ 0 := by simpa using h1
    have HV : Hid (intOk n e bad want = ((n == 0) && (e == bad))) := by show _ = _; rw [HD.out, if_pos h1']
    clear h1' HD
    cases h2 : (n == 0)
    all_goals
      go_wp2
      go_ret
      exact ⟨ret_bool (by rw [HV.out, h2]; simp), rfl⟩
theorem list_any (w : World) (F F' : Nat → Prop) (va vb : Value) (l want : List Int) (e bad : Int) (ha : Rd w F 1 va l.length (l.map (Value.int .i64))) (hb : Rd w F' 1 vb want.length (want.map (Value.int .i64))) :
    Calls Tryz.prog 22 #[va, .int .i64 e, .int .i64 bad, vb] w fun r w' => r = .returned (.bool (listOk l e bad want)) ∧ ∃ n, w' = w.drewN n := by
  have HC := Lib.hid (sameInts_any w F F' va vb l want ha hb)
  generalize HL : l.length = n at *
  obtain ⟨A, c, rfl, _, _, _⟩ := ha.open_
  have hn := ha.le
  clear ha hb
  have HL := Lib.hid HL
  go_enter Tryz.func22, Tryz.ntmps22
  have HD : Hid (listOk l e bad want = if bad ≠ 0 then decide (l.length = 0) && (e == bad) else (e == 0) && decide (l = want)) := rfl
  cases h1 : (bad != 0)
  · have h1' : ¬ bad ≠ 0 := by simpa using h1
    have HV : Hid (listOk l e bad want = ((e == 0) && decide (l = want))) := by show _ = _; rw [HD.out, if_neg h1']
    clear h1' HD
    generalize decide (l = want) = r at *
    cases h2 : (e == 0)
    all_goals
      go_wp2_with (go_at_call 66; refine HC.out.mono ?_; rintro e w' ⟨rfl, ⟨q, rfl⟩⟩)
      go_ret
      exact ⟨ret_bool (by rw [HV.out, h2]; simp), by first | exact ⟨0, rfl⟩ | exact ⟨_, rfl⟩⟩
  · have h1' : bad ≠ 0 := by simpa using h1
    have HV : Hid (listOk l e bad want = (((n : Int) == 0) && (e == bad))) := by show _ = _; rw [HD.out, if_pos h1', HL.out]; congr 1; rw [Bool.eq_iff_iff]; simp
    clear h1' HD
    cases h2 : ((n : Int) == 0)
    all_goals
      go_wp2
      go_ret
      exact ⟨ret_bool (by rw [HV.out, h2]; simp), 0, rfl⟩
end Go.Proofs.YtjfhncnpmelopaaGreatDoor
/- What the laws' own copies of slots and requests are. -/
namespace Go.Proofs.YtjfhncnpmelopaaGreatDoor
open Go.RowKit Go.Mem Go.Sheet
theorem own_reqs {w1 w2 : World} {n : Nat} {v : Value} {rs' : List Req} (S : St w1 w2 [row 124 3 v n (rs'.flatMap Req.cells), wis w1 rs']) (hn : ∀ r ∈ rs', r.name.size ≤ 9223372036854775807) : RdReqs w2 (· < w2.heap.size) v n rs' := by
  refine ⟨(S.row_rd (i := 0) rfl).now, fun r hr => ⟨?_, hn r hr⟩⟩
  obtain ⟨F, h1, h2⟩ := S.get (i := 1) rfl
  rcases h2 r hr with h | h
  · exact (h.below S.bel).now
  · exact h.now
theorem integer_yes {n e bad want : Int} (h1 : bad ≠ 0 → n = 0 ∧ e = bad) (h2 : bad = 0 → e = 0 ∧ n = want) : intOk n e bad want = true := by
  rw [intOk]
  by_cases h : bad ≠ 0
  · rw [if_pos h]; obtain ⟨a, b⟩ := h1 h; simp [a, b]
  · rw [if_neg h]; obtain ⟨a, b⟩ := h2 (by simpa using h); simp [a, b]
theorem list_yes {l : List Int} {e bad : Int} {want : List Int} (h1 : bad ≠ 0 → l = [] ∧ e = bad) (h2 : bad = 0 → e = 0 ∧ l = want) : listOk l e bad want = true := by
  rw [listOk]
  by_cases h : bad ≠ 0
  · rw [if_pos h]; obtain ⟨a, b⟩ := h1 h; simp [a, b]
  · rw [if_neg h]; obtain ⟨a, b⟩ := h2 (by simpa using h); simp [a, b]
/-- what the law's first lines give: the copies -/
structure Own (W w : World) (vx vy : Value) (nl n : Nat) (l : List Slot) (RS : List RQ) : Prop where
  bel : Below W.heap.size W w
  x : Rd w (· < w.heap.size) 3 vx nl (l.flatMap Slot.cells)
  y : ∃ rs', rs'.map Req.rq = RS ∧ RdReqs w (· < w.heap.size) vy n rs'
theorem Own.later {W w w' : World} {vx vy : Value} {nl n : Nat} {l : List Slot} {RS : List RQ} (h : Own W w vx vy nl n l RS) (hb : Below w.heap.size w w') : Own W w' vx vy nl n l RS :=
  ⟨h.bel.trans (hb.mono h.bel.size), h.x.later hb, let ⟨rs', h1, h2⟩ := h.y; ⟨rs', h1, reqs_later h2 hb⟩⟩
theorem Own.short {W w : World} {vx vy : Value} {nl n : Nat} {l : List Slot} {RS : List RQ} (h : Own W w vx vy nl n l RS) :
    Calls Tryz.prog 76 #[vx, vy] w fun e w' => IsB e ∧ w = w' :=
  let ⟨rs', _, h2⟩ := h.y; refShort_any w vx vy nl n l rs' h.x h2
theorem Own.check {W w : World} {vx vy : Value} {nl n : Nat} {l : List Slot} {RS : List RQ} (h : Own W w vx vy nl n l RS) :
    Calls Tryz.prog 20 #[vx, vy] w fun e w' => e = .returned (.int .i64 (checkRequests l RS)) ∧ Below w.heap.size w w' :=
  let ⟨rs', h1, h2⟩ := h.y
  h1 ▸ (refCheckRequests_any w vx vy nl n l rs' h.x h2).mono fun _ _ ⟨a, q, b⟩ => ⟨a, b ▸ below_drewN (Below.refl _ _) q⟩
theorem Own.assignment {W w : World} {vx vy va : Value} {nl n na : Nat} {l : List Slot} {RS : List RQ} {a : List Int} (h : Own W w vx vy nl n l RS) (ha : Rd w (· < w.heap.size) 1 va na (a.map (Value.int .i64))) (h0 : checkRequests l RS = 0) :
    Calls Tryz.prog 24 #[vx, vy, va] w fun e w' => e = .returned (.tuple #[.int .i64 (checkAssignment l RS a).1, .int .i64 (checkAssignment l RS a).2]) ∧ Below w.heap.size w w' := by
  obtain ⟨rs', h1, h2⟩ := h.y
  subst h1
  exact refCheckAssignment_any w vx vy va nl n na l rs' a h.x h2 ha h0
end Go.Proofs.YtjfhncnpmelopaaGreatDoor
/- Walks: CheckPace. -/
namespace Go.Sheet
open Go.RowKit Go.Mem
def ints (l : List Int) : List Value := l.map (Value.int .i64)
def RdRows (w : World) (S : Nat → Prop) (v : Value) (ms : List (List Int)) : Prop :=
  ∃ vs : List Value, Rd w S 1 v ms.length (vs.map id) ∧ ∀ (i : Nat) (x : Value) (r : List Int), vs[i]? = some x → ms[i]? = some r → Rd w S 1 x r.length (ints r)
theorem RdRows.later {w w' : World} {v : Value} {ms : List (List Int)} (h : RdRows w (· < w.heap.size) v ms) (hb : Below w.heap.size w w') : RdRows w' (· < w'.heap.size) v ms :=
  let ⟨vs, h1, h2⟩ := h
  ⟨vs, h1.later hb, fun i x r hx hr => (h2 i x r hx hr).later hb⟩
structure RdPace (w : World) (S : Nat → Prop) (vr vm vh : Value) (p : PC) : Prop where
  rd : Rd w S 1 vr p.rd.length (p.rd.map (Value.int .i64))
  mi : RdRows w S vm p.mi
  ho : Rd w S 1 vh p.ho.length (p.ho.map (Value.int .i64))
theorem RdPace.later {w w' : World} {vr vm vh : Value} {p : PC} (h : RdPace w (· < w.heap.size) vr vm vh p) (hb : Below w.heap.size w w') : RdPace w' (· < w'.heap.size) vr vm vh p :=
  ⟨h.1.later hb, h.2.later hb, h.3.later hb⟩
theorem eachF_two {α β : Type} (f : Nat → α → Int) (g : Nat → β → Int) : ∀ (l : List α) (m : List β) (k : Nat), l.length = m.length → (∀ i a b, l[i]? = some a → m[i]? = some b → f (k + i) a = g (k + i) b) → eachF f k l = eachF g k m
  | [], [], _, _, _ => rfl
  | [], _ :: _, _, h, _ => by simp at h
  | _ :: _, [], _, h, _ => by simp at h
  | a :: l, b :: m, k, h, hfg => by
    have e0 := hfg 0 a b rfl rfl
    have e1 := eachF_two f g l m (k + 1) (by simpa using h) (fun i a b ha hb => by have := hfg (i + 1) a b (by simpa using ha) (by simpa using hb); rwa [show k + (i + 1) = k + 1 + i by omega] at this)
    simp only [Nat.add_zero] at e0
    simp only [eachF, e0, e1]
end Go.Sheet
namespace Go.Proofs.YtjfhncnpmelopaaGreatDoor
open Go.RowKit Go.Mem Go.Sheet
theorem pace1_any (W : World) (k n : Int) : Calls Tryz.prog 96 #[.int .i64 k, .int .i64 n] W fun e w' => e = .returned (.int .i64 (outE n 0 10000)) ∧ Below W.heap.size W w' := by
  go_enter Tryz.func96, Tryz.ntmps96
  go_wp2_with (go_at_call 97; refine (outside_any _ _ _ _).mono ?_; rintro e w' ⟨rfl, rfl⟩)
  go_ret
  exact ⟨rfl, Below.refl _ _⟩
theorem pace2_any (W : World) (k n : Int) : Calls Tryz.prog 98 #[.int .i64 k, .int .i64 n] W fun e w' => e = .returned (.int .i64 (outE n 1 8)) ∧ Below W.heap.size W w' := by
  go_enter Tryz.func98, Tryz.ntmps98
  go_wp2_with (go_at_call 97; refine (outside_any _ _ _ _).mono ?_; rintro e w' ⟨rfl, rfl⟩)
  go_ret
  exact ⟨rfl, Below.refl _ _⟩
theorem pace31_any (W : World) (k n : Int) : Calls Tryz.prog 101 #[.int .i64 k, .int .i64 n] W fun e w' => e = .returned (.int .i64 (outE n 1 10000)) ∧ Below W.heap.size W w' := by
  go_enter Tryz.func101, Tryz.ntmps101
  go_wp2_with (go_at_call 97; refine (outside_any _ _ _ _).mono ?_; rintro e w' ⟨rfl, rfl⟩)
  go_ret
  exact ⟨rfl, Below.refl _ _⟩
theorem each_ints (W : World) (v : Value) (l : List Int) (g : Nat) (eg : Enters Tryz.prog g) (f : Int → Int) (h : Rd W (· < W.heap.size) 1 v l.length (l.map (Value.int .i64)))
    (hC : ∀ (W : World) (k n : Int), Calls Tryz.prog g #[.int .i64 k, .int .i64 n] W fun e w' => e = .returned (.int .i64 (f n)) ∧ Below W.heap.size W w') :
    Calls Tryz.prog 95 #[v, .func (.func g) #[] #[]] W fun e w' => e = .returned (.int .i64 (eachF (fun _ n => f n) 0 l)) ∧ Below W.heap.size W w' :=
  each_Int_pure W v l.length l g eg #[] (fun _ n => f n) h (fun k x w _ _ => hC w k x)
set_option maxRecDepth 100000 in
set_option maxHeartbeats 400000 in
theorem pace3_any (W : World) (k : Int) (x : Value) (r ho : List Int) (g : Nat) (vh : Value) (hx : Rd W (· < W.heap.size) 1 x r.length (r.map (Value.int .i64)))
    (hh : Rd W (· < W.heap.size) 1 vh ho.length (ho.map (Value.int .i64))) (c2 : W.cell? ⟨g, 2, none⟩ = some vh) :
    Calls Tryz.prog 100 #[.int .i64 k, x, .pointer (some ⟨g, 0, none⟩)] W fun e w' => e = .returned (.int .i64 (paceR ho.length r)) ∧ Below W.heap.size W w' := by
  have hE := enters Tryz.func101 (by kernel_rfl) rfl
  have HC := Lib.hid (each_ints W x r 101 hE (fun n => outE n 1 10000) hx pace31_any)
  obtain ⟨A, c, rfl, _, _, _⟩ := hx.open_
  obtain ⟨Ah, ch, rfl, _, _, _⟩ := hh.open_
  have hn := hx.le
  have hn2 := hh.le
  have HP : Hid (paceR ho.length r = if ((r.length : Int) != (ho.length : Int)) = true then 2 else eachF (fun _ n => outE n 1 10000) 0 r) := by
    show _ = _
    simp only [paceR, bne_iff_ne, ne_eq, Int.ofNat_inj]
  clear hx hh
  generalize r.length = rn at *
  generalize ho.length = hl at *
  go_enter Tryz.func100, Tryz.ntmps100
  go_wp2_with (go_at_call 95; refine HC.out.mono ?_; rintro e w' ⟨rfl, hb⟩)
  · go_ret
    exact ⟨ret_i64 (by rw [HP.out, if_pos ‹((rn : Int) != (hl : Int)) = true›]), Below.refl _ _⟩
  · go_ret
    exact ⟨ret_i64 (by rw [HP.out, if_neg (by rw [‹((rn : Int) != (hl : Int)) = false›]; decide)]), hb⟩

set_option maxRecDepth 100000 in
set_option maxHeartbeats 1000000 in
theorem checkPace_any (W : World) (vr vm vh : Value) (p : PC) (h : RdPace W (· < W.heap.size) vr vm vh p) :
    Calls Tryz.prog 32 #[.agg #[vr, vm, vh]] W fun e w' => e = .returned (.int .i64 (checkPace p)) ∧ Below W.heap.size W w' := by
  have HE1 : Hid (paceE1 p = fst [whenE ((p.rd.length : Int) == 0) 12, whenE (decide (24 < (p.rd.length : Int))) 5, eachF (fun _ n => outE n 0 10000) 0 p.rd, whenE ((p.mi.length : Int) != (p.rd.length : Int)) 2]) := by
    show _ = _
    have e1 : ((p.rd.length : Int) == 0) = decide (p.rd.length = 0) := by rw [Bool.eq_iff_iff]; simp
    have e2 : decide (24 < (p.rd.length : Int)) = decide (24 < p.rd.length) := by simp; omega
    have e3 : ((p.mi.length : Int) != (p.rd.length : Int)) = decide (p.mi.length ≠ p.rd.length) := by rw [Bool.eq_iff_iff]; simp only [bne_iff_ne, decide_eq_true_eq, ne_eq, Int.ofNat_inj]
    rw [paceE1, e1, e2, e3]
  have HE2 : Hid (paceE2 p = fst [whenE ((p.ho.length : Int) == 0) 12, whenE (decide (36 < (p.ho.length : Int))) 5, eachF (fun _ n => outE n 1 8) 0 p.ho]) := by
    show _ = _
    have e1 : ((p.ho.length : Int) == 0) = decide (p.ho.length = 0) := by rw [Bool.eq_iff_iff]; simp
    have e2 : decide (36 < (p.ho.length : Int)) = decide (36 < p.ho.length) := by simp; omega
    rw [paceE2, e1, e2]
  have hE1 := enters Tryz.func96 (by kernel_rfl) rfl
  have hE2 := enters Tryz.func98 (by kernel_rfl) rfl
  have hE3 := enters Tryz.func100 (by kernel_rfl) rfl
  have hrd := h.rd
  have hho := h.ho
  obtain ⟨vs, hm1, hm2⟩ := h.mi
  obtain ⟨Ar, cr, rfl, _, _, _⟩ := hrd.open_
  obtain ⟨Ah, ch, rfl, _, _, _⟩ := hho.open_
  obtain ⟨Am, cm, rfl, _, _, _⟩ := hm1.open_
  have hn := hrd.le
  have hn2 := hho.le
  have hn3 := hm1.le
  have hvl : vs.length = p.mi.length := by simpa using hm1.len
  generalize HRN : p.rd.length = rn at *
  generalize HHN : p.ho.length = hn at *
  generalize HMN : p.mi.length = mn at *
  have hb1 := (Below.refl W.heap.size W).alloc (Nat.le_refl _) (.cells #[.slice Ar rn cr, .slice Am mn cm, .slice Ah hn ch] 55)
  have d0 : (W.alloc (.cells #[.slice Ar rn cr, .slice Am mn cm, .slice Ah hn ch] 55)).cell? ⟨W.heap.size, 0, none⟩ = some (.slice Ar rn cr) := by simp
  have d1 : (W.alloc (.cells #[.slice Ar rn cr, .slice Am mn cm, .slice Ah hn ch] 55)).cell? ⟨W.heap.size, 1, none⟩ = some (.slice Am mn cm) := by simp
  have d2 : (W.alloc (.cells #[.slice Ar rn cr, .slice Am mn cm, .slice Ah hn ch] 55)).cell? ⟨W.heap.size, 2, none⟩ = some (.slice Ah hn ch) := by simp
  have hrd1 := hrd.later hb1
  have hho1 := hho.later hb1
  have hm11 := hm1.later hb1
  have hm21 : ∀ (i : Nat) (x : Value) (r : List Int), vs[i]? = some x → p.mi[i]? = some r → Rd _ _ 1 x r.length (ints r) := fun i x r hx hr => (hm2 i x r hx hr).later hb1
  clear hrd hho hm1 hm2 h
  go_enter Tryz.func32, Tryz.ntmps32
  go_wp2_with fail
  generalize W.alloc (.cells #[.slice Ar rn cr, .slice Am mn cm, .slice Ah hn ch] 55) = W1 at *
  have hg0 : W.heap.size < W1.heap.size := World.block_lt_of_cell? W1 ⟨W.heap.size, 0, none⟩ d0
  refine wp_cls 21 (fun w' => Below W1.heap.size W1 w') (by kernel_rfl) (by kernel_rfl) (Below.refl _ _).drew ?_
  simp only [List.take_succ_cons, List.take_zero, List.drop_succ_cons, List.drop_zero]
  have hK2 : ∀ w w' : World, Below W1.heap.size W1 w → Below w.heap.size w w' → Below W1.heap.size W1 w' := fun w w' h h' => h.trans (h'.mono h.size)
  generalize hK : (fun w' => Below W1.heap.size W1 w') = K
  intro hne
  have kb : ∀ y : Wd K, Below W1.heap.size W1 y.w := by subst hK; exact fun y => y.h
  have hK3 : ∀ w w' : World, K w → Below w.heap.size w w' → K w' := by subst hK; exact hK2
  have k0 : ∀ y : Wd K, y.w.cell? ⟨W.heap.size, 0, none⟩ = some (.slice Ar rn cr) := fun y => ((kb y).cell (p := ⟨W.heap.size, 0, none⟩) hg0).trans d0
  have k1 : ∀ y : Wd K, y.w.cell? ⟨W.heap.size, 1, none⟩ = some (.slice Am mn cm) := fun y => ((kb y).cell (p := ⟨W.heap.size, 1, none⟩) hg0).trans d1
  clear hK hK2
  have hC1 : ∀ y : Wd K, Calls Tryz.prog 95 #[.slice Ar rn cr, .func (.func 96) #[] #[]] y.w fun e w' => e = .returned (.int .i64 (eachF (fun _ n => outE n 0 10000) 0 p.rd)) ∧ Below y.w.heap.size y.w w' := fun y => each_ints _ _ p.rd 96 hE1 (fun n => outE n 0 10000) (by rw [HRN]; exact hrd1.later (kb y)) pace1_any
  generalize eachF (fun _ n => outE n 0 10000) 0 p.rd = X1 at *
  repeat (go_big_quiet_step ((first | (go_at_call 94; exact cls_same (when_any _ _ _)) | (go_at_call 95; exact cls_below hK3 (hC1 _)))))
  refine wpQuiet_nil ?_
  intro y
  have hb := kb y
  clear k0 k1 kb hK3 hne hC1 hE1
  generalize y.w = w2 at *
  generalize hF : fst [whenE ((rn : Int) == 0) 12, whenE (decide (24 < (rn : Int))) 5, X1, whenE ((mn : Int) != (rn : Int)) 2] = E1 at *
  have HF := Lib.hid hF
  clear hF
  go_wp2_with (go_at_call 93; refine (first4 _ _ (whenE ((rn : Int) == 0) 12) (whenE (decide (24 < (rn : Int))) 5) X1 (whenE ((mn : Int) != (rn : Int)) 2) (by simp) (by simp) (by simp) (by simp) (by simp)).mono ?_; rw [HF.out]; rintro e w' ⟨rfl, rfl⟩)
  · go_ret
    exact ⟨ret_i64 (by rw [checkPace, HE1.out, if_pos (by simpa using ‹(E1 != 0) = true›)]), hb1.trans ((hb.alloc hb.size _).mono hb1.size)⟩
  · have h0 : ¬ E1 ≠ 0 := by simpa using ‹(E1 != 0) = false›
    have hb3 := hb.alloc hb.size (.cells #[.int .i64 (whenE ((rn : Int) == 0) 12), .int .i64 (whenE (decide (24 < (rn : Int))) 5), .int .i64 X1, .int .i64 (whenE ((mn : Int) != (rn : Int)) 2)] 30)
    generalize w2.alloc (.cells #[.int .i64 (whenE ((rn : Int) == 0) 12), .int .i64 (whenE (decide (24 < (rn : Int))) 5), .int .i64 X1, .int .i64 (whenE ((mn : Int) != (rn : Int)) 2)] 30) = w3 at *
    have hC2 : ∀ y : World, Below W1.heap.size W1 y → Calls Tryz.prog 95 #[.slice Ah hn ch, .func (.func 98) #[] #[]] y fun e w' => e = .returned (.int .i64 (eachF (fun _ n => outE n 1 8) 0 p.ho)) ∧ Below y.heap.size y w' := fun y hy => each_ints _ _ p.ho 98 hE2 (fun n => outE n 1 8) (by rw [HHN]; exact hho1.later hy) pace2_any
    generalize eachF (fun _ n => outE n 1 8) 0 p.ho = X2 at *
    clear HF hb hE2 y K
    refine wp_cls 13 (fun w' => Below W1.heap.size W1 w') (by kernel_rfl) (by kernel_rfl) hb3.drew ?_
    simp only [List.take_succ_cons, List.take_zero, List.drop_succ_cons, List.drop_zero]
    have hK2 : ∀ w w' : World, Below W1.heap.size W1 w → Below w.heap.size w w' → Below W1.heap.size W1 w' := fun w w' h h' => h.trans (h'.mono h.size)
    generalize hK : (fun w' => Below W1.heap.size W1 w') = K
    intro hne
    have kb : ∀ y : Wd K, Below W1.heap.size W1 y.w := by subst hK; exact fun y => y.h
    have hK3 : ∀ w w' : World, K w → Below w.heap.size w w' → K w' := by subst hK; exact hK2
    have k0 : ∀ y : Wd K, y.w.cell? ⟨W.heap.size, 2, none⟩ = some (.slice Ah hn ch) := fun y => ((kb y).cell (p := ⟨W.heap.size, 2, none⟩) hg0).trans d2
    clear hK hK2
    repeat (go_big_quiet_step ((first | (go_at_call 94; exact cls_same (when_any _ _ _)) | (go_at_call 95; exact cls_below hK3 (hC2 _ (kb _))))))
    refine wpQuiet_nil ?_
    intro y
    have hb := kb y
    clear k0 kb hK3 hne hC2 hb3
    generalize y.w = w4 at *
    have f1 := (hb.cell (p := ⟨W.heap.size, 1, none⟩) hg0).trans d1
    have hg4 : W.heap.size < w4.heap.size := World.block_lt_of_cell? w4 _ f1
    generalize hF : fst [whenE ((hn : Int) == 0) 12, whenE (decide (36 < (hn : Int))) 5, X2] = E2 at *
    have HF := Lib.hid hF
    clear hF
    go_wp2_with (go_at_call 93; refine (first3 _ _ (whenE ((hn : Int) == 0) 12) (whenE (decide (36 < (hn : Int))) 5) X2 (by simp) (by simp) (by simp) (by simp)).mono ?_; rw [HF.out]; rintro e w' ⟨rfl, rfl⟩)
    · go_ret
      exact ⟨ret_i64 (by rw [checkPace, if_neg (by rw [HE1.out]; exact h0), HE2.out, if_pos (by simpa using ‹(E2 != 0) = true›)]), hb1.trans ((hb.alloc hb.size _).mono hb1.size)⟩
    · have h20 : ¬ E2 ≠ 0 := by simpa using ‹(E2 != 0) = false›
      have hb5 := hb.alloc hb.size (.cells #[.int .i64 (whenE ((hn : Int) == 0) 12), .int .i64 (whenE (decide (36 < (hn : Int))) 5), .int .i64 X2] 30)
      generalize w4.alloc (.cells #[.int .i64 (whenE ((hn : Int) == 0) 12), .int .i64 (whenE (decide (36 < (hn : Int))) 5), .int .i64 X2] 30) = w5 at *
      have hC : ∀ k x w, vs[k]? = some x → Below w5.heap.size w5 w → Calls Tryz.prog 100 (#[.int .i64 k, x] ++ #[.pointer (some ⟨W.heap.size, 0, none⟩)]) w fun e w' => e = .returned (.int .i64 ((fun k _ => paceR p.ho.length (p.mi.getD k [])) k x)) ∧ Below w.heap.size w w' := by
        intro k x w hx hbw
        have hk : k < p.mi.length := by rw [HMN, ← hvl]; exact (List.getElem?_eq_some_iff.1 hx).1
        have hr : p.mi[k]? = some (p.mi.getD k []) := by rw [List.getD_eq_getElem?_getD, List.getElem?_eq_getElem hk, Option.getD_some]
        have hb6 := hb5.trans (hbw.mono hb5.size)
        exact pace3_any w k x (p.mi.getD k []) p.ho W.heap.size (.slice Ah hn ch) ((hm21 k x _ hx hr).later hb6) (by rw [HHN]; exact hho1.later hb6) ((hb6.cell (p := ⟨W.heap.size, 2, none⟩) hg0).trans d2)
      refine (each_Row_pure w5 (.slice Am mn cm) mn vs 100 hE3 #[.pointer (some ⟨W.heap.size, 0, none⟩)] (fun k _ => paceR p.ho.length (p.mi.getD k [])) (hm11.later hb5) hC).mono ?_
      rintro e w6 ⟨rfl, hb6⟩
      go_wp2
      go_ret
      refine ⟨ret_i64 ?_, hb1.trans ((hb5.trans (hb6.mono hb5.size)).mono hb1.size)⟩
      rw [checkPace, if_neg (by rw [HE1.out]; exact h0), if_neg (by rw [HE2.out]; exact h20)]
      refine eachF_two _ _ vs p.mi 0 (by rw [hvl, HMN]) fun i a b _ hb => ?_
      rw [Nat.zero_add, hb, Option.getD_some, HHN]
end Go.Proofs.YtjfhncnpmelopaaGreatDoor
/- Walks: played: a group's rows go into the tables. -/
namespace Go.Sheet
open Go.RowKit Go.Mem
/-- rows of a table: values, and what they read -/
def Tabs (ms : List (Value × List Value)) (k : Nat) (vs : List Value) (T : List (List Int)) : Prop :=
  vs.length = k ∧ T.length = k ∧ ∀ (i : Nat) (x : Value) (r : List Int), vs[i]? = some x → T[i]? = some r → (x, ints r) ∈ ms
theorem Tabs.nil (ms : List (Value × List Value)) : Tabs ms 0 [] [] := ⟨rfl, rfl, fun i x r h => by simp at h⟩
theorem Tabs.snoc {ms ms' : List (Value × List Value)} {k : Nat} {vs : List Value} {T : List (List Int)} {x : Value} {r : List Int} (h : Tabs ms k vs T) (hm : ∀ p ∈ ms, p ∈ ms') (hx : (x, ints r) ∈ ms') : Tabs ms' (k + 1) (vs ++ [x]) (T ++ [r]) := by
  obtain ⟨h1, h2, h3⟩ := h
  refine ⟨by simp [h1], by simp [h2], fun i y s hy hs => ?_⟩
  by_cases hi : i < k
  · rw [List.getElem?_append_left (by omega)] at hy hs
    exact hm _ (h3 i y s hy hs)
  · have e : i = k := by have := (List.getElem?_eq_some_iff.1 hy).1; simp [h1] at this; omega
    subst e
    rw [List.getElem?_append_right (by omega), h1, Nat.sub_self] at hy
    rw [List.getElem?_append_right (by omega), h2, Nat.sub_self] at hs
    simp at hy hs
    subst hy hs
    exact hx
end Go.Sheet
namespace Go.Mem
open Go Go.RowKit
theorem row_holds_rd {w : World} {F : Nat → Prop} {e : TypeId} {size n : Nat} {v : Value} {xs : List Value} (h : (row e size v n xs).holds w F) : Rd w F size v n xs := by
  obtain ⟨ho, hF⟩ := h
  have hc := @World.ownsRow.cells _ _ _ _ _ _ _ ho
  have hl := ho.lt
  rcases ho.2 with ⟨rfl, rfl⟩ | ⟨g, cap, cur, rfl, hb, hg, h1, h2, r⟩
  · exact ⟨none, 0, rfl, Nat.le_refl _, Nat.zero_le _, (by have := ho.1; simpa using this), (fun _ => rfl), (fun h => absurd h (by omega))⟩
  · exact ⟨_, cap, rfl, h1, h2, ho.1, (fun h => by cases h), fun _ => ⟨g, 0, rfl, hF g rfl, (hl g rfl).2, fun j u hu => by have := hc (g := g) rfl j u hu; rwa [Addr.add_lit] at this⟩⟩
/-- a row is no longer grown: it is only read from here on -/
theorem St.freeze {W w : World} {L : List Asr} {ms : List (Value × List Value)} {e : TypeId} {v : Value} {xs : List Value} (h : St W w (L ++ [rdAll ms, row e 1 v xs.length xs])) : St W w (L ++ [rdAll (ms ++ [(v, xs)])]) := by
  refine h.merge fun F1 F2 h1 h2 p hp => ?_
  rcases List.mem_append.1 hp with hp | hp
  · exact (h1 p hp).mono fun b _ hb => .inl hb
  · obtain rfl := List.mem_singleton.1 hp
    exact (row_holds_rd h2).mono fun b _ hb => .inr hb
/-- three of them -/
theorem St.freeze3 {W w : World} {a b c d : Asr} {ms : List (Value × List Value)} {e : TypeId} {v1 v2 v3 : Value} {x1 x2 x3 : List Value} (h : St W w [a, b, c, d, rdAll ms, row e 1 v1 x1.length x1, row e 1 v2 x2.length x2, row e 1 v3 x3.length x3]) :
    St W w [a, b, c, d, rdAll (((ms ++ [(v1, x1)]) ++ [(v2, x2)]) ++ [(v3, x3)])] := by
  have h1 : St W w ([a, b, c, d, row e 1 v2 x2.length x2, row e 1 v3 x3.length x3] ++ [rdAll ms, row e 1 v1 x1.length x1]) :=
    h.perm (.cons _ (.cons _ (.cons _ (.cons _ (List.perm_append_comm (l₁ := [rdAll ms, row e 1 v1 x1.length x1]) (l₂ := [row e 1 v2 x2.length x2, row e 1 v3 x3.length x3]))))))
  have h2 : St W w ([a, b, c, d, row e 1 v3 x3.length x3] ++ [rdAll (ms ++ [(v1, x1)]), row e 1 v2 x2.length x2]) :=
    h1.freeze.perm (.cons _ (.cons _ (.cons _ (.cons _ (List.perm_append_comm (l₁ := [row e 1 v2 x2.length x2]) (l₂ := [row e 1 v3 x3.length x3, rdAll (ms ++ [(v1, x1)])]))))))
  have h3 : St W w ([a, b, c, d] ++ [rdAll ((ms ++ [(v1, x1)]) ++ [(v2, x2)]), row e 1 v3 x3.length x3]) :=
    h2.freeze.perm (.cons _ (.cons _ (.cons _ (.cons _ (List.perm_append_comm (l₁ := [row e 1 v3 x3.length x3]) (l₂ := [rdAll ((ms ++ [(v1, x1)]) ++ [(v2, x2)])]))))))
  exact h3.freeze
end Go.Mem
namespace Go.Sheet
open Go.RowKit Go.Mem
theorem tab_form {W w : World} {L : List Asr} {i4 iB k i n : Nat} {t : TypeId} {B : Value} {vb : List Value} {Tb : List (List Int)} {ms : List (Value × List Value)} {m : Int}
    (h : St W w L) (h4 : L[i4]? = some (rdAll ms)) (hB : L[iB]? = some (row t 1 B k vb)) (HT : Tabs ms k vb Tb) (hT : TOk n Tb m) (hi : i < k) (hn : 0 < n) :
    ∃ g cap b o c, B = .slice (some ⟨g, 0, none⟩) k cap ∧ k ≤ cap ∧ vb[i]? = some (.slice (some ⟨b, o, none⟩) n c) ∧ n ≤ c := by
  obtain ⟨g, cap, hv, hc, _⟩ := h.row_form hB (by omega)
  obtain ⟨l1, l2, l3⟩ := HT
  have e1 : vb[i]? = some vb[i] := List.getElem?_eq_getElem (by omega)
  have e2 : Tb[i]? = some Tb[i] := List.getElem?_eq_getElem (by omega)
  have hm := l3 i _ _ e1 e2
  have hl : (Tb[i]).length = n := hT.len _ (List.getElem_mem _)
  obtain ⟨F, _, hF⟩ := h.get h4
  have hr := hF _ hm
  have hl' : (ints Tb[i]).length = n := by rw [ints, List.length_map, hl]
  dsimp only at hr
  rw [hl'] at hr
  obtain ⟨A', c', he, h1, h2, hr'⟩ := hr.open_
  obtain ⟨b, o, hA, _⟩ := hr'.addr hn
  exact ⟨g, cap, b, o, c', hv, hc, by rw [e1, he, hA], h1⟩
theorem tab_cell {W w : World} {L : List Asr} {i4 iB k i j n g cap b o c : Nat} {t : TypeId} {vb : List Value} {Tb : List (List Int)} {ms : List (Value × List Value)} {m : Int}
    (h : St W w L) (h4 : L[i4]? = some (rdAll ms)) (hB : L[iB]? = some (row t 1 (.slice (some ⟨g, 0, none⟩) k cap) k vb)) (HT : Tabs ms k vb Tb) (hT : TOk n Tb m)
    (hx : vb[i]? = some (.slice (some ⟨b, o, none⟩) n c)) (hj : j < n) :
    w.cell? ⟨g, i, none⟩ = some (.slice (some ⟨b, o, none⟩) n c) ∧ w.cell? ⟨b, o + j, none⟩ = some (.int .i64 (at2 Tb i j)) := by
  obtain ⟨l1, l2, l3⟩ := HT
  have hi : i < k := by have := (List.getElem?_eq_some_iff.1 hx).1; omega
  obtain ⟨g', cap', hv, hc, _, _, hcell, _⟩ := h.row_form hB (by omega)
  cases hv
  have e2 : Tb[i]? = some Tb[i] := List.getElem?_eq_getElem (by omega)
  have hl : (Tb[i]).length = n := hT.len _ (List.getElem_mem _)
  obtain ⟨F, _, hF⟩ := h.get h4
  have hr := hF _ (l3 i _ _ hx e2)
  have hl' : (ints Tb[i]).length = n := by rw [ints, List.length_map, hl]
  dsimp only at hr
  rw [hl'] at hr
  refine ⟨by rw [hcell i (by omega), hx], ?_⟩
  obtain ⟨b', o', y, hA, hy, hcy⟩ := Rd.int (q := .i64) (l := Tb[i]) hr hj
  cases hA
  rw [hcy, at2, show Tb.getD i [] = Tb[i] by rw [List.getD_eq_getElem?_getD, e2, Option.getD_some], List.getD_eq_getElem?_getD, hy, Option.getD_some]
theorem tab_rows {W w : World} {L : List Asr} {i4 iB k : Nat} {t : TypeId} {B : Value} {vb : List Value} {Tb : List (List Int)} {ms : List (Value × List Value)}
    (h : St W w L) (h4 : L[i4]? = some (rdAll ms)) (hB : L[iB]? = some (row t 1 B k vb)) (HT : Tabs ms k vb Tb) : RdRows w (· < w.heap.size) B Tb := by
  obtain ⟨l1, l2, l3⟩ := HT
  refine ⟨vb, ?_, fun i x r hx hr => ?_⟩
  · rw [l2, List.map_id]
    exact (h.row_rd hB).mono fun b hb _ => hb
  · obtain ⟨F, hF', hF⟩ := h.get h4
    have hm := hF _ (l3 i x r hx hr)
    dsimp only at hm
    rw [show (ints r).length = r.length by rw [ints, List.length_map]] at hm
    exact hm.mono fun b hb _ => hb
/-- how a group begins a hole, in the words of the walk -/
theorem beginF_0 {B E : List (List Int)} {hd a : Int} {h : Nat} (hh : 1 ≤ hd) : beginF 0 B E hd h a = a := by
  unfold beginF; simp; omega
theorem beginF_1 {g : Nat} {B E : List (List Int)} {hd a b : Int} {h i : Nat} (hg : 0 < g) (hi : (g : Int) - 1 = i) (hh : ¬ hd ≤ (g : Int)) (hb : (if a < at2 B i h then at2 B i h else a) = b) : beginF g B E hd h a = b := by
  have e : g - 1 = i := by omega
  unfold beginF
  simp only
  rw [if_neg hh, if_pos hg, e, ← hb]; omega
theorem beginF_2 {g : Nat} {B E : List (List Int)} {hd a b c : Int} {h i i' : Nat} (hg : 0 < g) (hi : (g : Int) - 1 = i) (hh : hd ≤ (g : Int)) (h1 : 1 ≤ hd) (hi' : (g : Int) - hd = i') (hb : (if a < at2 B i h then at2 B i h else a) = b) (hc : (if b < at2 E i' h then at2 E i' h else b) = c) : beginF g B E hd h a = c := by
  have e : g - 1 = i := by omega
  have e' : g - hd.toNat = i' := by omega
  unfold beginF
  simp only
  rw [if_pos hh, if_pos hg, e, e', ← hc, ← hb]; omega
theorem endF_0 {E : List (List Int)} {b m : Int} {h : Nat} : endF 0 E h b m = b + m := by
  unfold endF; simp
theorem endF_1 {g : Nat} {E : List (List Int)} {b m c : Int} {h i : Nat} (hg : 0 < g) (hi : (g : Int) - 1 = i) (hc : (if b + m < at2 E i h then at2 E i h else b + m) = c) : endF g E h b m = c := by
  have e : g - 1 = i := by omega
  unfold endF
  rw [if_pos hg, e, ← hc]; omega
/-- one hole more -/
theorem playH_step {g j : Nat} {B E : List (List Int)} {mi ho : List Int} {hd a b m e : Int} {cl bl el : List Int} {X : List (Int × Int × Int)} (hhd : ho[j]? = some hd) (hb : beginF g B E hd j a = b) (hm : mi[j]? = some m) (he : endF g E j b m = e)
    (H : cl ++ (playH g B E mi j (ho.drop j) a).map (·.1) = X.map (·.1) ∧ bl ++ (playH g B E mi j (ho.drop j) a).map (·.2.1) = X.map (·.2.1) ∧ el ++ (playH g B E mi j (ho.drop j) a).map (·.2.2) = X.map (·.2.2)) :
    (cl ++ [a]) ++ (playH g B E mi (j + 1) (ho.drop (j + 1)) e).map (·.1) = X.map (·.1) ∧ (bl ++ [b]) ++ (playH g B E mi (j + 1) (ho.drop (j + 1)) e).map (·.2.1) = X.map (·.2.1) ∧ (el ++ [e]) ++ (playH g B E mi (j + 1) (ho.drop (j + 1)) e).map (·.2.2) = X.map (·.2.2) := by
  have em : mi.getD j 0 = m := by rw [List.getD_eq_getElem?_getD, hm, Option.getD_some]
  rw [drop_at hhd, playH, hb, em, he] at H
  simpa using H
/-- the minutes -/
theorem rows_at {w : World} {S : Nat → Prop} {n k j : Nat} {A : Option Addr} {mn cm : Nat} {ms : List (List Int)} {r : List Int} (h : RdRows w S (.slice A mn cm) ms) (hr : ms[k]? = some r) (hl : r.length = n) (hj : j < n) :
    ∃ b o b' o' c m, A = some ⟨b, o, none⟩ ∧ w.cell? ⟨b, o + k, none⟩ = some (.slice (some ⟨b', o', none⟩) n c) ∧ n ≤ c ∧ r[j]? = some m ∧ w.cell? ⟨b', o' + j, none⟩ = some (.int .i64 m) := by
  obtain ⟨vs, h1, h2⟩ := h
  have hk : k < ms.length := (List.getElem?_eq_some_iff.1 hr).1
  obtain ⟨b, o, x, hA, hx, hc⟩ := h1.val (k := k) (by exact hk)
  have hrx := h2 k x r hx hr
  rw [hl] at hrx
  obtain ⟨A', c', rfl, hcc, _, hrx'⟩ := hrx.open_
  obtain ⟨b', o', m, rfl, hm, hcm⟩ := Rd.int (q := .i64) (l := r) hrx' hj
  exact ⟨b, o, b', o', c', m, hA, hc, hcc, hm, hcm⟩
end Go.Sheet
namespace Go.Proofs.YtjfhncnpmelopaaGreatDoor
open Go.RowKit Go.Mem Go.Sheet
/-- what the outer loop of played knows of the tables at group k -/
def PInv (p : PC) (hn k : Nat) (ms : List (Value × List Value)) (vc vb ve : List Value) (T : Tab) : Prop :=
  Tabs ms k vc T.c ∧ Tabs ms k vb T.b ∧ Tabs ms k ve T.e ∧ TOk hn T.b (10000 + 360000 * k) ∧ TOk hn T.e (10000 + 360000 * k) ∧ playG p.mi p.ho k (p.rd.drop k) T = played p
theorem play_step {w2 w' : World} {go hn k : Nat} {p : PC} {A' B' C' Vc Vb Ve : Value} {vc vb ve : List Value} {ms : List (Value × List Value)} {T : Tab} {x : Int} {cl bl el : List Int} (hok : POk p) (hhn : p.ho.length = hn)
    (hx : p.rd[k]? = some x) (HT : PInv p hn k ms vc vb ve T)
    (h1 : cl = (playH k T.b T.e (p.mi.getD k []) 0 p.ho x).map (·.1)) (h2 : bl = (playH k T.b T.e (p.mi.getD k []) 0 p.ho x).map (·.2.1)) (h3 : el = (playH k T.b T.e (p.mi.getD k []) 0 p.ho x).map (·.2.2))
    (S : St w2 w' [blk go 152 #[A', B', C'], row 33 1 A' (k + 1) (vc ++ [Vc]), row 33 1 B' (k + 1) (vb ++ [Vb]), row 33 1 C' (k + 1) (ve ++ [Ve]), rdAll ms, row 3 1 Vc hn (ints cl), row 3 1 Vb hn (ints bl), row 3 1 Ve hn (ints el)]) :
    ∃ (T' : Tab) (ms' : List (Value × List Value)), St w2 w' [blk go 152 #[A', B', C'], row 33 1 A' (k + 1) (vc ++ [Vc]), row 33 1 B' (k + 1) (vb ++ [Vb]), row 33 1 C' (k + 1) (ve ++ [Ve]), rdAll ms'] ∧
      PInv p hn (k + 1) ms' (vc ++ [Vc]) (vb ++ [Vb]) (ve ++ [Ve]) T' := by
  obtain ⟨t1, t2, t3, t4, t5, t6⟩ := HT
  have hlen : (playH k T.b T.e (p.mi.getD k []) 0 p.ho x).length = hn := by rw [playH_len, hhn]
  have lc : (ints cl).length = hn := by rw [h1, ints, List.length_map, List.length_map, hlen]
  have lb : (ints bl).length = hn := by rw [h2, ints, List.length_map, List.length_map, hlen]
  have le : (ints el).length = hn := by rw [h3, ints, List.length_map, List.length_map, hlen]
  have hkr : k < p.rd.length := (List.getElem?_eq_some_iff.1 hx).1
  have hxb := hok.rdb x (List.mem_of_getElem? hx)
  have h36 : hn ≤ 36 := hhn ▸ hok.ho36
  have hmi : ∀ y ∈ p.mi.getD k [], 0 ≤ y ∧ y ≤ 10000 := fun y hy => by
    have hkm : k < p.mi.length := by rw [hok.mil]; exact hkr
    have e : p.mi.getD k [] = p.mi[k] := by rw [List.getD_eq_getElem?_getD, List.getElem?_eq_getElem hkm, Option.getD_some]
    rw [e] at hy
    have := (hok.mib _ (List.getElem_mem hkm)).2 y hy
    omega
  have hbd := playH_bd (g := k) (mi := p.mi.getD k []) t4 t5 (by omega) hmi p.ho 0 x hxb.1 (by omega)
  have S1 : St w2 w' [blk go 152 #[A', B', C'], row 33 1 A' (k + 1) (vc ++ [Vc]), row 33 1 B' (k + 1) (vb ++ [Vb]), row 33 1 C' (k + 1) (ve ++ [Ve]), rdAll ms, row 3 1 Vc (ints cl).length (ints cl), row 3 1 Vb (ints bl).length (ints bl), row 3 1 Ve (ints el).length (ints el)] := by
    rw [lc, lb, le]; exact S
  refine ⟨⟨T.c ++ [cl], T.b ++ [bl], T.e ++ [el]⟩, _, S1.freeze3, ?_, ?_, ?_, ?_, ?_, ?_⟩
  · exact t1.snoc (fun q hq => by simp [hq]) (by simp)
  · exact t2.snoc (fun q hq => by simp [hq]) (by simp)
  · exact t3.snoc (fun q hq => by simp [hq]) (by simp)
  · refine (t4.mono (by omega)).snoc (by rw [h2, List.length_map, hlen]) fun y hy => ?_
    rw [h2] at hy
    obtain ⟨z, hz, rfl⟩ := List.mem_map.1 hy
    have := (hbd z hz).2.1
    omega
  · refine (t5.mono (by omega)).snoc (by rw [h3, List.length_map, hlen]) fun y hy => ?_
    rw [h3] at hy
    obtain ⟨z, hz, rfl⟩ := List.mem_map.1 hy
    have := (hbd z hz).2.2
    omega
  · rw [List.drop_eq_getElem_cons hkr] at t6
    have ex : p.rd[k] = x := by rw [List.getElem?_eq_getElem hkr] at hx; exact Option.some.inj hx
    rw [← t6, playG, ex, h1, h2, h3]
end Go.Proofs.YtjfhncnpmelopaaGreatDoor
