/- Part 19 of the walks of the golf union's program: WL1, S8g, WP4, WP5, WP6, WT1, WT2. -/
import Derived.Test.YtlffgdmljioaoaaGreatDoorD06
import Derived.Test.YtlffgdmljioaoaaGreatDoorD01
import Derived.WalkSpells
import Derived.Outline
import Derived.Test.YtlffgdmljioaoaaGreatDoorD18
import Derived.Test.YtlffgdmljioaoaaGreatDoorD08
import Derived.Laws.EntriesVeiled
set_option linter.unusedVariables false
set_option linter.unusedSimpArgs false
set_option linter.unusedSectionVars false
set_option linter.constructorNameAsVariable false
/- Walks of small functions on lists: total, Max, Index, SameInts, and the law's helpers integer, list. -/
namespace Go.Sheet
theorem sumF_go {l : List Int} {k : Nat} {x s : Int} (h : l[k]? = some x) (e : s + sumF (l.drop k) = sumF l) : s + x + sumF (l.drop (k + 1)) = sumF l := by
  rw [← e, drop_at h, sumF]; omega
theorem sumF_end {l : List Int} {n : Nat} {s : Int} (h : l.length ≤ n) (e : s + sumF (l.drop n) = sumF l) : s = sumF l := by
  rw [← e, List.drop_of_length_le h, sumF]; omega
def maxF : Int → List Int → Int
  | a, [] => a
  | a, x :: l => maxF (max a x) l
def maxL (l : List Int) : Int := maxF (l.getD 0 0) (l.drop 1)
theorem max_if (a b : Int) : (if a < b then b else a) = max a b := by omega
theorem maxF_go {l : List Int} {k : Nat} {x s t : Int} (h : l[k]? = some x) (e : maxF s (l.drop k) = t) : maxF (if s < x then x else s) (l.drop (k + 1)) = t := by
  rw [← e, drop_at h, maxF, max_if]
theorem maxF_end {l : List Int} {n : Nat} {s t : Int} (h : l.length ≤ n) (e : maxF s (l.drop n) = t) : s = t := by
  rw [← e, List.drop_of_length_le h, maxF]
end Go.Sheet
namespace Go.Proofs.YtlffgdmljioaoaaGreatDoor
open Go.RowKit Go.Mem Go.Sheet
set_option maxHeartbeats 400000 in
theorem total_any (w : World) (F : Nat → Prop) (v : Value) (l : List Int) (h : Rd w F 1 v l.length (l.map (Value.int .i64))) (hb : ∀ x ∈ l, -1000000 ≤ x ∧ x ≤ 1000000) (hl : l.length ≤ 1000) :
    Calls Tryz.prog 58 #[v] w fun r w' => r = .returned (.int .i64 (sumF l)) ∧ w = w' := by
  have HB := Lib.hid hb
  generalize HL : l.length = n at *
  obtain ⟨A, c, rfl, _, _, h⟩ := h.open_
  go_enter Tryz.func58, Tryz.ntmps58
  have HL := Lib.hid HL
  clear hb
  go_wp2
  go_loop [8, 3] (fun i s => ∃ (k : Nat) (t : Int), k ≤ n ∧ i = .int .i64 k ∧ s = .int .i64 t ∧ -1000000 * (k : Int) ≤ t ∧ t ≤ 1000000 * (k : Int) ∧ Hid (t + sumF (l.drop k) = sumF l)) (fun i _ => n - (intOf i).toNat)
  case atStart => exact ⟨0, 0, Nat.zero_le _, rfl, rfl, by omega, by omega, by show _ = _; simp⟩
  case round =>
    obtain ⟨k, t, hk, rfl, rfl, h1, h2, he⟩ := hrel
    by_cases hlt : k < n
    · obtain ⟨b, o, x, rfl, hx, hc⟩ := h.int hlt
      have hxb := HB.out x (List.mem_of_getElem? hx)
      have HG := Lib.hid (sumF_go hx he.out)
      clear hx
      go_wp2
      go_round
      case rel => exact ⟨k + 1, _, by omega, by go_num, rfl, by omega, by omega, HG.out⟩
      case measure => simp [intOf]; omega
    · go_wp2
      go_ret
      obtain rfl : k = n := by omega
      exact ⟨ret_i64 (sumF_end (Nat.le_of_eq HL.out) he.out), rfl⟩
set_option maxHeartbeats 400000 in
theorem max_any (w : World) (F : Nat → Prop) (v : Value) (l : List Int) (h : Rd w F 1 v l.length (l.map (Value.int .i64))) (h0 : 0 < l.length) :
    Calls Tryz.prog 89 #[v] w fun r w' => r = .returned (.int .i64 (maxL l)) ∧ w = w' := by
  generalize HL : l.length = n at *
  have hn := h.le
  obtain ⟨A, c, rfl, _, _, h⟩ := h.open_
  obtain ⟨b, o, x0, rfl, hx0, hc0⟩ := h.int h0
  have HX0 := Lib.hid hx0
  have HL := Lib.hid HL
  rw [Nat.add_zero] at hc0
  clear hx0
  go_enter Tryz.func89, Tryz.ntmps89
  have hn1 : ¬ (n : Int) < 1 := by omega
  go_wp2
  go_loop [4, 3] (fun i s => ∃ (k : Nat) (t : Int), 0 < k ∧ k ≤ n ∧ i = .int .i64 k ∧ s = .int .i64 t ∧ Hid (maxF t (l.drop k) = maxL l)) (fun i _ => n - (intOf i).toNat)
  case atStart => exact ⟨1, x0, by omega, h0, rfl, rfl, by show _ = _; rw [maxL, List.getD_eq_getElem?_getD, HX0.out]; rfl⟩
  case round =>
    obtain ⟨k, t, hk0, hk, rfl, rfl, he⟩ := hrel
    by_cases hlt : k < n
    · obtain ⟨b', o', x, hA, hx, hc⟩ := h.int hlt
      cases hA
      have HG := Lib.hid (maxF_go hx he.out)
      clear hx
      go_wp2
      go_round
      case rel => exact ⟨k + 1, _, by omega, by omega, by go_num, rfl, HG.out⟩
      case measure => simp [intOf]; omega
    · go_wp2
      go_ret
      exact ⟨ret_i64 (maxF_end (by have := HL.out; omega) he.out), rfl⟩
set_option maxHeartbeats 400000 in
theorem index_any (w : World) (F : Nat → Prop) (v : Value) (l : List Int) (y : Int) (h : Rd w F 1 v l.length (l.map (Value.int .i64))) :
    Calls Tryz.prog 90 #[v, .int .i64 y] w fun r w' => r = .returned (.int .i64 (idxF (fun x => y == x) 0 l)) ∧ w = w' := by
  generalize HL : l.length = n at *
  have hn := h.le
  obtain ⟨A, c, rfl, _, _, h⟩ := h.open_
  have HL := Lib.hid HL
  go_enter Tryz.func90, Tryz.ntmps90
  go_wp2
  go_loop [8] (fun i => ∃ (k : Nat), k ≤ n ∧ i = .int .i64 k ∧ Hid (idxF (fun x => y == x) k (l.drop k) = idxF (fun x => y == x) 0 l)) (fun i => n - (intOf i).toNat)
  case atStart => exact ⟨0, Nat.zero_le _, rfl, rfl⟩
  case round =>
    obtain ⟨k, hk, rfl, he⟩ := hrel
    by_cases hlt : k < n
    · obtain ⟨b, o, x, rfl, hx, hc⟩ := h.int hlt
      have HX := Lib.hid hx
      clear hx
      go_wp2
      · go_ret
        exact ⟨ret_i64 (idxF_stop HX.out ‹(y == x) = true› he.out), rfl⟩
      · go_round
        case rel => exact ⟨k + 1, by omega, by go_num, idxF_go HX.out ‹(y == x) = false› he.out⟩
        case measure => simp [intOf]; omega
    · go_wp2
      go_ret
      obtain rfl : k = n := by omega
      exact ⟨ret_i64 (idxF_end (Nat.le_of_eq HL.out) he.out), rfl⟩
theorem below_drewN {B : Nat} {a w : World} (h : Below B a w) (n : Nat) : Below B a (w.drewN n) := ⟨h.os, h.tape, h.output, h.size, h.block⟩
set_option maxHeartbeats 400000 in
theorem sameInts_any (w : World) (F F' : Nat → Prop) (va vb : Value) (a b : List Int) (ha : Rd w F 1 va a.length (a.map (Value.int .i64))) (hb : Rd w F' 1 vb b.length (b.map (Value.int .i64))) :
    Calls Tryz.prog 24 #[va, vb] w fun r w' => r = .returned (.bool (decide (a = b))) ∧ ∃ n, w' = w.drewN n := by
  generalize HL : a.length = n at *
  generalize HM : b.length = m at *
  have hn := ha.le
  have hm := hb.le
  obtain ⟨A, c, rfl, _, _, ha⟩ := ha.open_
  obtain ⟨A', c', rfl, _, _, hb⟩ := hb.open_
  have HL := Lib.hid HL
  have HM := Lib.hid HM
  go_enter Tryz.func24, Tryz.ntmps24
  by_cases hnm : n = m
  · subst hnm
    go_wp2
    go_loopw [5] (fun i w' => ∃ (k q : Nat), k ≤ n ∧ i = .int .i64 k ∧ w' = w.drewN q ∧ Hid (∀ j, j < k → a[j]? = b[j]?)) (fun i _ => n - (intOf i).toNat)
    case atStart => exact ⟨0, 0, Nat.zero_le _, rfl, rfl, fun j hj => by omega⟩
    case round =>
      obtain ⟨k, q, hk, rfl, rfl, he⟩ := hrel
      by_cases hlt : k < n
      · obtain ⟨b1, o, x, rfl, hx, hc⟩ := ha.int hlt
        obtain ⟨b2, o2, y, rfl, hy, hd⟩ := hb.int hlt
        have HX := Lib.hid hx
        have HY := Lib.hid hy
        clear hx hy
        go_wp2_with fail
        go_quiet (fail)
        go_wp2
        · go_ret
          exact ⟨ret_bool (by
            have hne : x ≠ y := by simpa using ‹(x != y) = true›
            rw [eq_comm, decide_eq_false_iff_not]
            rintro rfl
            exact hne (Option.some.inj (HX.out.symm.trans HY.out))), _, World.drewN_drewN _ _ _⟩
        · go_roundw
          case rel => exact ⟨k + 1, _, by omega, by go_num, rfl, fun j hj => by
            by_cases e : j = k
            · subst e; rw [HX.out, HY.out, show x = y by simpa using ‹(x != y) = false›]
            · exact he.out j (by omega)⟩
          case measure => simp [intOf]; omega
      · go_wp2
        go_ret
        exact ⟨ret_bool (by
          rw [eq_comm, decide_eq_true_iff]
          refine List.ext_getElem? fun j => ?_
          by_cases hj : j < k
          · exact he.out j hj
          · rw [List.getElem?_eq_none (by have := HL.out; omega), List.getElem?_eq_none (by have := HM.out; omega)]), q, rfl⟩
  · have hne : ((n : Int) != (m : Int)) = true := by simp; omega
    have HNE := Lib.hid hnm
    clear hnm
    go_wp2
    go_ret
    exact ⟨ret_bool (by
      rw [eq_comm, decide_eq_false_iff_not]
      rintro rfl
      exact HNE.out (HL.out.symm.trans HM.out)), 0, rfl⟩
end Go.Proofs.YtlffgdmljioaoaaGreatDoor
/- Bounds of what played gives. -/
namespace Go.Sheet
structure TabOk (n k : Nat) (T : Tab) : Prop where
  lc : T.c.length = k
  lb : T.b.length = k
  le : T.e.length = k
  c : TOk n T.c (10000 + 360000 * k)
  b : TOk n T.b (10000 + 360000 * k)
  e : TOk n T.e (10000 + 360000 * k)
theorem playG_ok {n : Nat} {mi : List (List Int)} {ho : List Int} (hn : ho.length = n) (h36 : n ≤ 36) (hmi : ∀ r ∈ mi, ∀ x ∈ r, 0 ≤ x ∧ x ≤ 10000) :
    ∀ (rds : List Int) (k : Nat) (T : Tab), (∀ x ∈ rds, 0 ≤ x ∧ x ≤ 10000) → TabOk n k T → TabOk n (k + rds.length) (playG mi ho k rds T)
  | [], k, T, _, h => h
  | rd :: rds, k, T, hr, h => by
    have hrb := hr rd (List.mem_cons_self ..)
    have hm : ∀ x ∈ mi.getD k [], 0 ≤ x ∧ x ≤ 10000 := fun x hx => by
      rw [List.getD_eq_getElem?_getD] at hx
      cases hk : mi[k]? with
      | none => rw [hk] at hx; cases hx
      | some r => rw [hk] at hx; exact hmi r (List.mem_of_getElem? hk) x hx
    have hbd := playH_bd (g := k) h.b h.e (by omega) hm ho 0 rd hrb.1 (by omega)
    have hl : (playH k T.b T.e (mi.getD k []) 0 ho rd).length = n := by rw [playH_len, hn]
    rw [playG]
    have := playG_ok hn h36 hmi rds (k + 1) ⟨T.c ++ [(playH k T.b T.e (mi.getD k []) 0 ho rd).map (·.1)], T.b ++ [(playH k T.b T.e (mi.getD k []) 0 ho rd).map (·.2.1)], T.e ++ [(playH k T.b T.e (mi.getD k []) 0 ho rd).map (·.2.2)]⟩ (fun x hx => hr x (List.mem_cons_of_mem _ hx))
      ⟨by simp [h.lc], by simp [h.lb], by simp [h.le],
       (h.c.mono (by omega)).snoc (by rw [List.length_map, hl]) fun y hy => by obtain ⟨z, hz, rfl⟩ := List.mem_map.1 hy; have := (hbd z hz).1; omega,
       (h.b.mono (by omega)).snoc (by rw [List.length_map, hl]) fun y hy => by obtain ⟨z, hz, rfl⟩ := List.mem_map.1 hy; have := (hbd z hz).2.1; omega,
       (h.e.mono (by omega)).snoc (by rw [List.length_map, hl]) fun y hy => by obtain ⟨z, hz, rfl⟩ := List.mem_map.1 hy; have := (hbd z hz).2.2; omega⟩
    rw [List.length_cons, show k + (rds.length + 1) = k + 1 + rds.length by omega]
    exact this
theorem played_ok {p : PC} (h : POk p) : TabOk p.ho.length p.rd.length (played p) := by
  have := playG_ok (n := p.ho.length) (mi := p.mi) (ho := p.ho) rfl h.ho36 (fun r hr x hx => by have := (h.mib r hr).2 x hx; omega) p.rd 0 ⟨[], [], []⟩ h.rdb
    ⟨rfl, rfl, rfl, TOk.nil _ _, TOk.nil _ _, TOk.nil _ _⟩
  rwa [Nat.zero_add] at this
end Go.Sheet
/- Walks: Begins, Ends, Delays. -/
namespace Go.Sheet
def retE {α : Type} (e : Int) (z x : α) : α × Int := if e ≠ 0 then (z, e) else (x, 0)
def begins (p : PC) : List (List Int) × Int := retE (checkPace p) [] (played p).b
def ends (p : PC) : List (List Int) × Int := retE (checkPace p) [] (played p).e
def delays (p : PC) : List Int × Int := retE (checkPace p) [] (delayL p 0 (played p).e)
end Go.Sheet
namespace Go.Proofs.YtlffgdmljioaoaaGreatDoor
open Go.RowKit Go.Mem Go.Sheet
/-- a table and an error -/
def RetRows (W : World) (res : List (List Int) × Int) (e : Ending) (w' : World) : Prop :=
  ∃ v', e = .returned (.tuple #[v', .int .i64 res.2]) ∧ Below W.heap.size W w' ∧ RdRows w' (· < w'.heap.size) v' res.1
theorem RdRows.nil (w : World) : RdRows w (· < w.heap.size) (.slice none 0 0) [] := ⟨[], Rd.nil _ _ _, fun i x r h => by simp at h⟩
set_option maxRecDepth 100000 in
set_option maxHeartbeats 400000 in
theorem ends_any (W : World) (vr vm vh : Value) (p : PC) (h : RdPace W (· < W.heap.size) vr vm vh p) :
    Calls Tryz.prog 38 #[.agg #[vr, vm, vh]] W (RetRows W (ends p)) := by
  have hb1 := (Below.refl W.heap.size W).alloc (Nat.le_refl _) (.cells #[vr, vm, vh] 75)
  have HC := Lib.hid (played_any _ _ _ _ p (h.later hb1))
  obtain ⟨Ar, cr, rfl, _, _, _⟩ := h.rd.open_
  obtain ⟨Ah, ch, rfl, _, _, _⟩ := h.ho.open_
  obtain ⟨vs, hm1, hm2⟩ := h.mi
  obtain ⟨Am, cm, rfl, _, _, _⟩ := hm1.open_
  generalize p.rd.length = rn at *
  generalize p.ho.length = hn at *
  generalize p.mi.length = mn at *
  clear h hm1 hm2
  go_enter Tryz.func38, Tryz.ntmps38
  go_wp2_with fail
  refine HC.out.mono ?_
  clear HC
  generalize hW1 : W.alloc (.cells #[.slice Ar rn cr, .slice Am mn cm, .slice Ah hn ch] 75) = W1 at *
  clear hW1
  rintro e w2 (⟨hne, rfl, hb⟩ | ⟨h0, g, A, B, C, rfl, hb, c0, c1, c2, r0, r1, r2⟩)
  · have H : Hid (ends p = ([], checkPace p)) := by show _ = _; rw [ends, retE, if_pos hne]
    have hE : (checkPace p != 0) = true := by simpa using hne
    clear hne
    go_wp2
    go_ret2
    rw [H.out]
    exact ⟨_, rfl, hb1.trans (hb.mono hb1.size), RdRows.nil _⟩
  · have H : Hid (ends p = ((played p).e, 0)) := by show _ = _; rw [ends, retE, if_neg (by simpa using h0)]
    clear h0
    go_wp2
    go_ret2
    rw [H.out]
    exact ⟨_, rfl, hb1.trans (hb.mono hb1.size), r2⟩
end Go.Proofs.YtlffgdmljioaoaaGreatDoor
/- Walks: Delays. -/
namespace Go.Sheet
theorem delayL_go {p : PC} {E : List (List Int)} {k : Nat} {r L t : List Int} {m x s : Int} (h : E[k]? = some r) (hm : r.getD (r.length - 1) 0 = m) (hx : p.rd.getD k 0 = x) (hs : sumF (p.mi.getD k []) = s) (e : L ++ delayL p k (E.drop k) = t) :
    (L ++ [m - x - s]) ++ delayL p (k + 1) (E.drop (k + 1)) = t := by
  rw [← e, drop_at h, delayL, hm, hx, hs]; simp
theorem delayL_end {p : PC} {E : List (List Int)} {k : Nat} {L t : List Int} (h : E.length ≤ k) (e : L ++ delayL p k (E.drop k) = t) : L = t := by
  rw [← e, List.drop_of_length_le h, delayL]; simp
theorem sumF_bd {l : List Int} (h : ∀ x ∈ l, 1 ≤ x ∧ x ≤ 10000) : 0 ≤ sumF l ∧ sumF l ≤ 10000 * (l.length : Int) := by
  induction l with
  | nil => simp [sumF]
  | cons x l ih =>
    have h1 := h x (List.mem_cons_self ..)
    have h2 := ih fun y hy => h y (List.mem_cons_of_mem _ hy)
    simp only [sumF, List.length_cons, Int.natCast_add, Int.natCast_one]
    omega
end Go.Sheet
namespace Go.Proofs.YtlffgdmljioaoaaGreatDoor
open Go.RowKit Go.Mem Go.Sheet
set_option maxRecDepth 100000 in
set_option maxHeartbeats 1000000 in
theorem delays_any (W : World) (vr vm vh : Value) (p : PC) (h : RdPace W (· < W.heap.size) vr vm vh p) :
    Calls Tryz.prog 39 #[.agg #[vr, vm, vh]] W (RetInts W (delays p)) := by
  have hb1 := (Below.refl W.heap.size W).alloc (Nat.le_refl _) (.cells #[vr, vm, vh] 75)
  have HC := Lib.hid (played_any _ _ _ _ p (h.later hb1))
  have HP := Lib.hid h
  obtain ⟨Ar, cr, rfl, _, _, _⟩ := h.rd.open_
  obtain ⟨Ah, ch, rfl, _, _, _⟩ := h.ho.open_
  obtain ⟨vs, hm1, hm2⟩ := h.mi
  obtain ⟨Am, cm, rfl, _, _, _⟩ := hm1.open_
  generalize HRN : p.rd.length = rn at *
  generalize HHN : p.ho.length = hn at *
  generalize HMN : p.mi.length = mn at *
  clear h hm1 hm2
  go_enter Tryz.func39, Tryz.ntmps39
  go_wp2_with fail
  refine HC.out.mono ?_
  clear HC
  have e0 : (W.alloc (.cells #[.slice Ar rn cr, .slice Am mn cm, .slice Ah hn ch] 75)).cell? ⟨W.heap.size, 0, none⟩ = some (.slice Ar rn cr) := by simp
  have e1 : (W.alloc (.cells #[.slice Ar rn cr, .slice Am mn cm, .slice Ah hn ch] 75)).cell? ⟨W.heap.size, 1, none⟩ = some (.slice Am mn cm) := by simp
  generalize hW1 : W.alloc (.cells #[.slice Ar rn cr, .slice Am mn cm, .slice Ah hn ch] 75) = W1 at *
  have hg0 : W.heap.size < W1.heap.size := World.block_lt_of_cell? W1 _ e0
  clear hW1
  rintro e w2 (⟨hne, rfl, hb⟩ | ⟨h0, g, A, B, C, rfl, hb, c0, c1, c2, r0, r1, r2⟩)
  · have H : Hid (delays p = ([], checkPace p)) := by show _ = _; rw [delays, retE, if_pos hne]
    have hE : (checkPace p != 0) = true := by simpa using hne
    clear hne
    go_wp2
    go_ret2
    rw [H.out]
    exact RetInts.err (hb1.trans (hb.mono hb1.size))
  · have hok := pok_of h0
    have htok := played_ok hok
    have H : Hid (delays p = (delayL p 0 (played p).e, 0)) := by show _ = _; rw [delays, retE, if_neg (by simpa using h0)]
    have HB := Lib.hid (hb1.trans (hb.mono hb1.size))
    have HPP := Lib.hid (HP.out.later HB.out)
    have d0 := (hb.cell (p := ⟨W.heap.size, 0, none⟩) hg0).trans e0
    have d1 := (hb.cell (p := ⟨W.heap.size, 1, none⟩) hg0).trans e1
    have hg2 : W.heap.size < w2.heap.size := World.block_lt_of_cell? w2 _ d0
    have HOK := Lib.hid hok
    have hel := htok.le
    have HTE := Lib.hid htok.e
    rw [HRN] at hel
    have hrn : rn ≤ 24 := HRN ▸ hok.rd24
    have hhn : hn ≤ 36 := HHN ▸ hok.ho36
    have hh0 : 0 < hn := HHN ▸ hok.ho0
    generalize (played p).e = E at *
    have HR := Lib.hid r2
    obtain ⟨vs2, q1, q2⟩ := r2
    rw [hel] at q1
    obtain ⟨Ae, ce, rfl, _, _, _⟩ := q1.open_
    have HEL := Lib.hid hel
    clear h0 hok htok r0 r1 c0 c1 e0 e1 hb hb1 q1 q2 hel
    have S0 := (St.refl w2).row_nil 3 1
    go_wp2_with fail
    go_loopw [22, 6] (fun i v w' => ∃ (k : Nat) (L : List Int), k ≤ rn ∧ L.length = k ∧ i = .int .i64 k ∧ St w2 w' [row 3 1 v L.length (L.map (Value.int .i64))] ∧ Hid (L ++ delayL p k (E.drop k) = delayL p 0 E)) (fun i _ _ => rn - (intOf i).toNat)
    case atStart => exact ⟨0, [], Nat.zero_le _, rfl, rfl, S0, rfl⟩
    case round =>
      obtain ⟨k, L, hk, hLk, rfl, S, he⟩ := hrel
      have HLK := Lib.hid hLk
      have hLk' : L.length ≤ k := Nat.le_of_eq hLk
      clear S0 hLk
      by_cases hlt : k < rn
      · have hbw := S.bel
        have hkE : k < E.length := by rw [HEL.out]; exact hlt
        have hr : E[k]? = some E[k] := List.getElem?_eq_getElem hkE
        have hrl : E[k].length = hn := (HTE.out.len _ (List.getElem_mem hkE)).trans HHN
        have hrb := HTE.out.bd _ (List.getElem_mem hkE)
        obtain ⟨j, hj⟩ : ∃ j : Nat, (hn : Int) - 1 = j := ⟨hn - 1, by omega⟩
        obtain ⟨b, o, b', o', c', m, hA, k1, hc', hm, k2⟩ := rows_at (HR.out.later hbw) hr hrl (j := j) (by omega)
        cases hA
        obtain ⟨br, or_, x, hA, hx, k3⟩ := (HPP.out.rd.later hbw).int (k := k) (by rw [HRN]; exact hlt)
        cases hA
        have hkm : k < p.mi.length := by rw [HOK.out.mil, HRN]; exact hlt
        have hmr : p.mi[k]? = some (p.mi.getD k []) := by rw [List.getD_eq_getElem?_getD, List.getElem?_eq_getElem hkm, Option.getD_some]
        have hml := ((HOK.out.mib _ (List.mem_of_getElem? hmr)).1).trans HHN
        obtain ⟨vsm, n1, n2⟩ := HPP.out.mi.later hbw
        obtain ⟨bm, om, xm, hA, hxm, k4⟩ := n1.val (k := k) hkm
        cases hA
        have hrm := n2 k xm _ hxm hmr
        rw [hml] at hrm
        obtain ⟨Ax, cx, rfl, _, _, _⟩ := hrm.open_
        have k5 := (hbw.cell (p := ⟨W.heap.size, 0, none⟩) hg2).trans d0
        have k6 := (hbw.cell (p := ⟨W.heap.size, 1, none⟩) hg2).trans d1
        have hxb := HOK.out.rdb x (List.mem_of_getElem? hx)
        have hmb := hrb m (List.mem_of_getElem? hm)
        have hsb := sumF_bd (HOK.out.mib _ (List.mem_of_getElem? hmr)).2
        rw [hml] at hsb
        have hT : ∀ (w : World), Below wr.heap.size wr w → Calls Tryz.prog 58 #[.slice Ax hn cx] w fun e w' => e = .returned (.int .i64 (sumF (p.mi.getD k []))) ∧ w = w' := fun w hw =>
          total_any w _ _ (p.mi.getD k []) (by rw [hml]; exact hrm.later hw) (fun y hy => by have := (HOK.out.mib _ (List.mem_of_getElem? hmr)).2 y hy; omega) (by omega)
        have HG := Lib.hid (delayL_go hr (p := p) (L := L) (t := delayL p 0 E) (by rw [hrl, show hn - 1 = j by omega, List.getD_eq_getElem?_getD, hm, Option.getD_some]) (by rw [List.getD_eq_getElem?_getD, hx, Option.getD_some]) rfl he.out)
        generalize sumF (p.mi.getD k []) = s at *
        have HT := Lib.hid hT
        have hz : wr.heap.size = wr.heap.size := rfl
        have z1 : b < wr.heap.size := World.block_lt_of_cell? wr _ k1
        have z2 : b' < wr.heap.size := World.block_lt_of_cell? wr _ k2
        have z3 : br < wr.heap.size := World.block_lt_of_cell? wr _ k3
        have z4 : bm < wr.heap.size := World.block_lt_of_cell? wr _ k4
        have z5 : W.heap.size < wr.heap.size := World.block_lt_of_cell? wr _ k5
        have HS := Lib.hid S
        clear hr hrl hm hx hmr hml n1 n2 hrm hT hz hkE hkm hrb hxm he S
        go_wp2_with fail
        refine wp_pre_tail 1 20 (fun w' => Below wr.heap.size wr w') (by kernel_rfl) (by kernel_rfl) (Below.refl _ _).drew ?_
        simp only [List.take_succ_cons, List.take_zero, List.drop_succ_cons, List.drop_zero, Nat.reduceSub]
        generalize hK : (fun w' => Below wr.heap.size wr w') = K
        intro hne
        have kb : ∀ y : Wd K, Below wr.heap.size wr y.w := by subst hK; exact fun y => y.h
        have y1 : ∀ y : Wd K, y.w.cell? ⟨b, o + k, none⟩ = some (.slice (some ⟨b', o', none⟩) hn c') := fun y => ((kb y).cell (p := ⟨b, o + k, none⟩) z1).trans k1
        have y2 : ∀ y : Wd K, y.w.cell? ⟨b', o' + j, none⟩ = some (.int .i64 m) := fun y => ((kb y).cell (p := ⟨b', o' + j, none⟩) z2).trans k2
        have y3 : ∀ y : Wd K, y.w.cell? ⟨br, or_ + k, none⟩ = some (.int .i64 x) := fun y => ((kb y).cell (p := ⟨br, or_ + k, none⟩) z3).trans k3
        have y4 : ∀ y : Wd K, y.w.cell? ⟨bm, om + k, none⟩ = some (.slice Ax hn cx) := fun y => ((kb y).cell (p := ⟨bm, om + k, none⟩) z4).trans k4
        have y5 : ∀ y : Wd K, y.w.cell? ⟨W.heap.size, 0, none⟩ = some (.slice (some ⟨br, or_, none⟩) rn cr) := fun y => ((kb y).cell (p := ⟨W.heap.size, 0, none⟩) z5).trans k5
        have y6 : ∀ y : Wd K, y.w.cell? ⟨W.heap.size, 1, none⟩ = some (.slice (some ⟨bm, om, none⟩) mn cm) := fun y => ((kb y).cell (p := ⟨W.heap.size, 1, none⟩) z5).trans k6
        clear hK k1 k2 k3 k4 k5 k6 z1 z2 z3 z4 z5
        have hmn : k < mn := by rw [← HMN, HOK.out.mil, HRN]; exact hlt
        change wpQuiet _ _ _ _ (_ :: []) _
        go_big_quiet_step ((fail))
        refine wpQuiet_nil ?_
        repeat (go_big_quiet_step ((go_at_call 58; exact cls_same (HT.out _ (kb _)))))
        refine wpQuiet_nil ?_
        intro y
        have S1 := HS.out.ext (kb y)
        clear y1 y2 y3 y4 y5 y6 kb
        generalize y.w = w3 at *
        go_wp2_with (at_builtin; refine wpList_append_st eltI rfl _ _ rfl rfl (S1.alloc _) (k := 0) rfl rfl (rd_one (by simp)) (one_int _ _) (by omega) (by omega) ?_; intro v' w' S' _)
        refine NoPanic.normal ?_
        go_wp2
        go_roundw
        case rel => exact ⟨k + 1, L ++ [m - x - s], by omega, by simp [HLK.out], by go_num, by simpa using S', HG.out⟩
        case measure => simp [intOf]; omega
      · have hkr : decide ((k : Int) < rn) = false := by simp; omega
        have HF := Lib.hid (delayL_end (k := k) (by rw [HEL.out]; omega) he.out)
        have HSS := Lib.hid S
        clear S
        go_wp2
        go_ret2
        rw [H.out, ← HF.out]
        exact ⟨_, rfl, (St.of_below HB.out).call HSS.out⟩
end Go.Proofs.YtlffgdmljioaoaaGreatDoor
/- Walks: Bottleneck. -/
namespace Go.Sheet
theorem waitH_succ (C B : List (List Int)) (n h : Nat) : waitH C B (n + 1) h = waitH C B n h + (at2 B n h - at2 C n h) := by
  rw [waitH, waitH, List.range_succ, List.map_append, sumF_append]; simp [sumF]
theorem waitH_bd {C B : List (List Int)} {M : Int} {l : Nat} (hC : TOk l C M) (hB : TOk l B M) (h0 : 0 ≤ M) (h : Nat) : ∀ n : Nat, -M * n ≤ waitH C B n h ∧ waitH C B n h ≤ M * n := by
  intro n
  induction n with
  | zero => simp [waitH, sumF]
  | succ n ih =>
    rw [waitH_succ]
    have := hC.at_ h0 n h
    have := hB.at_ h0 n h
    rw [Int.natCast_add, Int.natCast_one, Int.mul_add, Int.mul_add, Int.neg_mul] at *
    omega
/-- the waits when g groups are counted, and of the next one the first h holes -/
def waitL (C B : List (List Int)) (n g h : Nat) : List Int := (List.range n).map fun i => waitH C B (if i < h then g + 1 else g) i
theorem waitL_at {C B : List (List Int)} {n g h i : Nat} (hi : i < n) (hh : h ≤ i) : (waitL C B n g h)[i]? = some (waitH C B g i) := by
  rw [waitL, List.getElem?_map, List.getElem?_range hi, Option.map_some, if_neg (by omega)]
theorem waitL_len (C B : List (List Int)) (n g h : Nat) : (waitL C B n g h).length = n := by simp [waitL]
theorem waitL_set {C B : List (List Int)} {n g h : Nat} (hh : h < n) : (waitL C B n g h).set h (waitH C B (g + 1) h) = waitL C B n g (h + 1) := by
  refine List.ext_getElem? fun i => ?_
  by_cases e : h = i
  · subst e
    rw [List.getElem?_set_self (by rw [waitL_len]; exact hh), waitL, List.getElem?_map, List.getElem?_range hh, Option.map_some, if_pos (by omega)]
  · rw [List.getElem?_set_ne e]
    by_cases hi : i < n
    · simp only [waitL, List.getElem?_map, List.getElem?_range hi, Option.map_some]
      by_cases h1 : i < h
      · rw [if_pos h1, if_pos (by omega)]
      · rw [if_neg h1, if_neg (by omega)]
    · rw [List.getElem?_eq_none (by rw [waitL_len]; omega), List.getElem?_eq_none (by rw [waitL_len]; omega)]
theorem waitL_end (C B : List (List Int)) (n g : Nat) : waitL C B n g n = waitL C B n (g + 1) 0 := by
  refine List.map_congr_left fun i hi => ?_
  have := List.mem_range.1 hi
  rw [if_pos this, if_neg (by omega)]
theorem waitL_zero (C B : List (List Int)) (n : Nat) : waitL C B n 0 0 = List.replicate n 0 := by
  rw [waitL, List.map_congr_left (g := fun _ => (0 : Int)) (fun i _ => by simp [waitH, sumF]), List.map_const', List.length_range]
theorem waitL_waits (p : PC) : waitL (played p).c (played p).b p.ho.length p.rd.length 0 = waits p := by
  rw [waitL, waits]; exact List.map_congr_left fun i _ => by simp
def bottleneck (p : PC) : (Int × Int) × Int := retE (checkPace p) (0, 0) (idxF (fun x => maxL (waits p) == x) 0 (waits p), maxL (waits p))
end Go.Sheet
namespace Go.Proofs.YtlffgdmljioaoaaGreatDoor
open Go.RowKit Go.Mem Go.Sheet
set_option maxRecDepth 100000 in
set_option maxHeartbeats 2000000 in
theorem bottleneck_any (W : World) (vr vm vh : Value) (p : PC) (h : RdPace W (· < W.heap.size) vr vm vh p) :
    Calls Tryz.prog 40 #[.agg #[vr, vm, vh]] W fun e w' => e = .returned (.tuple #[.int .i64 (bottleneck p).1.1, .int .i64 (bottleneck p).1.2, .int .i64 (bottleneck p).2]) ∧ Below W.heap.size W w' := by
  have hb1 := (Below.refl W.heap.size W).alloc (Nat.le_refl _) (.cells #[vr, vm, vh] 75)
  have HC := Lib.hid (played_any _ _ _ _ p (h.later hb1))
  have HP := Lib.hid h
  obtain ⟨Ar, cr, rfl, _, _, _⟩ := h.rd.open_
  obtain ⟨Ah, ch, rfl, _, _, _⟩ := h.ho.open_
  obtain ⟨vs, hm1, hm2⟩ := h.mi
  obtain ⟨Am, cm, rfl, _, _, _⟩ := hm1.open_
  generalize HRN : p.rd.length = rn at *
  generalize HHN : p.ho.length = hn at *
  generalize HMN : p.mi.length = mn at *
  clear h hm1 hm2
  go_enter Tryz.func40, Tryz.ntmps40
  go_wp2_with fail
  refine HC.out.mono ?_
  clear HC
  have e0 : (W.alloc (.cells #[.slice Ar rn cr, .slice Am mn cm, .slice Ah hn ch] 75)).cell? ⟨W.heap.size, 0, none⟩ = some (.slice Ar rn cr) := by simp
  have e1 : (W.alloc (.cells #[.slice Ar rn cr, .slice Am mn cm, .slice Ah hn ch] 75)).cell? ⟨W.heap.size, 2, none⟩ = some (.slice Ah hn ch) := by simp
  generalize hW1 : W.alloc (.cells #[.slice Ar rn cr, .slice Am mn cm, .slice Ah hn ch] 75) = W1 at *
  have hg0 : W.heap.size < W1.heap.size := World.block_lt_of_cell? W1 _ e0
  clear hW1
  rintro e w2 (⟨hne, rfl, hb⟩ | ⟨h0, g, A, B, C, rfl, hb, c0, c1, c2, r0, r1, r2⟩)
  · have H : Hid (bottleneck p = ((0, 0), checkPace p)) := by show _ = _; rw [bottleneck, retE, if_pos hne]
    have hE : (checkPace p != 0) = true := by simpa using hne
    clear hne
    go_wp2
    go_ret3
    rw [H.out]
    exact ⟨rfl, hb1.trans (hb.mono hb1.size)⟩
  · have hok := pok_of h0
    have htok := played_ok hok
    have H : Hid (bottleneck p = ((idxF (fun x => maxL (waits p) == x) 0 (waits p), maxL (waits p)), 0)) := by show _ = _; rw [bottleneck, retE, if_neg (by simpa using h0)]
    have HW := Lib.hid (waitL_waits p)
    have HB := Lib.hid (hb1.trans (hb.mono hb1.size))
    have d0 := (hb.cell (p := ⟨W.heap.size, 0, none⟩) hg0).trans e0
    have d2 := (hb.cell (p := ⟨W.heap.size, 2, none⟩) hg0).trans e1
    have hg2 : W.heap.size < w2.heap.size := World.block_lt_of_cell? w2 _ d0
    have hgg : g < w2.heap.size := World.block_lt_of_cell? w2 _ c0
    have hcl := htok.lc
    have hbl := htok.lb
    have HTC := Lib.hid htok.c
    have HTB := Lib.hid htok.b
    rw [HRN] at hcl hbl HTC HTB
    rw [HHN] at HTC HTB
    rw [HRN, HHN] at HW
    have hrn : rn ≤ 24 := HRN ▸ hok.rd24
    have hhn : hn ≤ 36 := HHN ▸ hok.ho36
    have hh0 : 0 < hn := HHN ▸ hok.ho0
    generalize (played p).b = TB at *
    generalize (played p).c = TC at *
    have HR0 := Lib.hid r0
    have HR1 := Lib.hid r1
    obtain ⟨vsc, q1, q2⟩ := r0
    obtain ⟨vsb, q3, q4⟩ := r1
    rw [hcl] at q1
    rw [hbl] at q3
    obtain ⟨Ac, cc, rfl, _, _, _⟩ := q1.open_
    obtain ⟨Ab, cb, rfl, _, _, _⟩ := q3.open_
    have HCL := Lib.hid hcl
    have HBL := Lib.hid hbl
    have hWB := fun i g => waitH_bd HTC.out HTB.out (by omega) i g
    have HWB := Lib.hid hWB
    clear h0 hok htok r2 e0 e1 hb hb1 q1 q2 q3 q4 hcl hbl hWB
    have S0 := St.refl w2
    go_wp2_with (refine wpList_make_st eltI rfl _ _ rfl (n := hn) rfl rfl S0 (by omega) (by omega) ?_; intro w3 gw S1 _ _; have g1 := (S1.bel.cell (p := ⟨W.heap.size, 0, none⟩) hg2).trans d0)
    have hz : (madeCells (Value.int .i64 0).cells (hn * 1)).toList = (waitL TC TB hn 0 0).map (Value.int .i64) := by
      show (madeCells #[.int .i64 0] (hn * 1)).toList = _
      rw [waitL_zero, toList_madeCells_one]; simp
    rw [hz] at S1
    clear hz g1 S0
    go_loopw [26] (fun i w' => ∃ (k : Nat), k ≤ rn ∧ i = .int .i64 k ∧ St w2 w' [row 3 1 (.slice (some ⟨gw, 0, none⟩) hn hn) hn ((waitL TC TB hn k 0).map (Value.int .i64))]) (fun i _ => rn - (intOf i).toNat)
    case atStart => exact ⟨0, Nat.zero_le _, rfl, S1⟩
    case round =>
      obtain ⟨k, hk, rfl, S⟩ := hrel
      clear S1
      by_cases hlt : k < rn
      · have HS := Lib.hid S
        clear S
        go_wp2
        go_loopw [31] (fun i w' => ∃ (j : Nat), j ≤ hn ∧ i = .int .i64 j ∧ St w2 w' [row 3 1 (.slice (some ⟨gw, 0, none⟩) hn hn) hn ((waitL TC TB hn k j).map (Value.int .i64))]) (fun i _ => hn - (intOf i).toNat)
        case atStart => exact ⟨0, Nat.zero_le _, rfl, HS.out⟩
        case round =>
          obtain ⟨j, hj, rfl, S⟩ := hrel
          by_cases hjl : j < hn
          · have hbw := S.bel
            have hkC : k < TC.length := by rw [HCL.out]; exact hlt
            have hkB : k < TB.length := by rw [HBL.out]; exact hlt
            obtain ⟨b, o, b', o', c', m, hA, k1, hc', hm, k2⟩ := rows_at (HR0.out.later hbw) (List.getElem?_eq_getElem hkC) (HTC.out.len _ (List.getElem_mem hkC)) hjl
            cases hA
            obtain ⟨bb, ob, bb', ob', cb', mb, hA, k3, hcb', hmb, k4⟩ := rows_at (HR1.out.later hbw) (List.getElem?_eq_getElem hkB) (HTB.out.len _ (List.getElem_mem hkB)) hjl
            cases hA
            have hmB := HTC.out.bd _ (List.getElem_mem hkC) m (List.mem_of_getElem? hm)
            have hmbB := HTB.out.bd _ (List.getElem_mem hkB) mb (List.mem_of_getElem? hmb)
            have k5 := (hbw.cell (p := ⟨g, 0, none⟩) hgg).trans c0
            have k6 := (hbw.cell (p := ⟨g, 1, none⟩) hgg).trans c1
            obtain ⟨gw', cap', hv, _, _, _, hcell, hfz⟩ := S.row_form (i := 0) rfl (by omega)
            cases hv
            have k7 := hcell j (by omega)
            rw [List.getElem?_map, waitL_at hjl (Nat.le_refl _)] at k7
            have k8 := hfz j
            simp only [Option.map_some] at k7
            have hwb := HWB.out j k
            have HE : Hid (waitH TC TB (k + 1) j = waitH TC TB k j + (mb - m)) := by
              show _ = _
              rw [waitH_succ, at2, at2, show TB.getD k [] = TB[k] by rw [List.getD_eq_getElem?_getD, List.getElem?_eq_getElem hkB, Option.getD_some], show TC.getD k [] = TC[k] by rw [List.getD_eq_getElem?_getD, List.getElem?_eq_getElem hkC, Option.getD_some],
                List.getD_eq_getElem?_getD, List.getD_eq_getElem?_getD, hm, hmb, Option.getD_some, Option.getD_some]
            have HST := Lib.hid (waitL_set (C := TC) (B := TB) (g := k) hjl)
            have hw1 : -206400000 ≤ waitH TC TB k j ∧ waitH TC TB k j ≤ 207600000 := by
              have e1 : (10000 + 360000 * (rn : Int)) * k ≤ 8650000 * k := Int.mul_le_mul_of_nonneg_right (by omega) (by omega)
              rw [Int.neg_mul] at hwb
              omega
            have hw2 : -8650000 ≤ mb - m ∧ mb - m ≤ 8650000 := by omega
            generalize waitH TC TB k j = wh at *
            have HS := Lib.hid S
            clear hm hmb hcell hfz hbw hkC hkB hwb hmB hmbB S
            go_wp2_with fail
            refine wp_cls 27 (fun w' => ∃ n, w' = wr.drewN n) (by kernel_rfl) (by kernel_rfl) ⟨1, rfl⟩ ?_
            simp only [List.take_succ_cons, List.take_zero, List.drop_succ_cons, List.drop_zero]
            generalize hK : (fun w' => ∃ n, w' = wr.drewN n) = K
            intro hne
            have kw : ∀ y : Wd K, ∃ n, y.w = wr.drewN n := by subst hK; exact fun y => y.h
            have y1 : ∀ y : Wd K, y.w.cell? ⟨b, o + k, none⟩ = some (.slice (some ⟨b', o', none⟩) hn c') := fun y => by obtain ⟨n, e⟩ := kw y; rw [e]; exact k1
            have y2 : ∀ y : Wd K, y.w.cell? ⟨b', o' + j, none⟩ = some (.int .i64 m) := fun y => by obtain ⟨n, e⟩ := kw y; rw [e]; exact k2
            have y3 : ∀ y : Wd K, y.w.cell? ⟨bb, ob + k, none⟩ = some (.slice (some ⟨bb', ob', none⟩) hn cb') := fun y => by obtain ⟨n, e⟩ := kw y; rw [e]; exact k3
            have y4 : ∀ y : Wd K, y.w.cell? ⟨bb', ob' + j, none⟩ = some (.int .i64 mb) := fun y => by obtain ⟨n, e⟩ := kw y; rw [e]; exact k4
            have y5 : ∀ y : Wd K, y.w.cell? ⟨g, 0, none⟩ = some (.slice (some ⟨b, o, none⟩) rn cc) := fun y => by obtain ⟨n, e⟩ := kw y; rw [e]; exact k5
            have y6 : ∀ y : Wd K, y.w.cell? ⟨g, 1, none⟩ = some (.slice (some ⟨bb, ob, none⟩) rn cb) := fun y => by obtain ⟨n, e⟩ := kw y; rw [e]; exact k6
            have y7 : ∀ y : Wd K, y.w.cell? ⟨gw, j, none⟩ = some (.int .i64 wh) := fun y => by obtain ⟨n, e⟩ := kw y; rw [e]; exact k7
            clear hK k1 k2 k3 k4 k5 k6
            repeat (go_big_quiet_step ((fail)))
            refine wpQuiet_nil ?_
            intro y
            obtain ⟨nn, hyn⟩ := kw y
            have hc1 := y7 y
            have hf1 : y.w.frozen? ⟨gw, j, none⟩ = false := by rw [hyn]; exact k8
            have S1 : St w2 y.w [row 3 1 (.slice (some ⟨gw, 0, none⟩) hn hn) hn ((waitL TC TB hn k j).map (Value.int .i64))] := by rw [hyn]; exact HS.out.drewN nn
            clear y1 y2 y3 y4 y5 y6 y7 kw hyn k7 k8
            generalize y.w = w4 at *
            have S2 := S1.row_set (i := 0) rfl j (.int .i64 (wh + (mb - m)))
            simp only [List.set_cons_zero] at S2
            rw [← List.map_set, show (waitL TC TB hn k j).set j (wh + (mb - m)) = waitL TC TB hn k (j + 1) from by rw [← HE.out, HST.out]] at S2
            have HS2 := Lib.hid S2
            clear S1 S2
            go_wp2
            go_roundw
            case rel => exact ⟨j + 1, by omega, by go_num, HS2.out⟩
            case measure => simp [intOf]; omega
          · have hjb : decide ((j : Int) < hn) = false := by simp; omega
            obtain rfl : j = hn := by omega
            rw [waitL_end] at S
            have HS := Lib.hid S
            clear S
            go_wp2
            go_roundw
            case rel => exact ⟨k + 1, by omega, by go_num, HS.out⟩
            case measure => simp [intOf]; omega
      · have hkb : decide ((k : Int) < rn) = false := by simp; omega
        obtain rfl : k = rn := by omega
        rw [HW.out] at S
        have hwl : (waits p).length = hn := by rw [waits, List.length_map, List.length_range, HHN]
        have hrd := (S.row_rd (i := 0) rfl).mono (S' := fun _ => True) fun _ _ _ => trivial
        rw [← hwl] at hrd
        have HM := Lib.hid (max_any _ _ _ _ hrd (by omega))
        have HI := Lib.hid (index_any _ _ _ _ (maxL (waits p)) hrd)
        rw [hwl] at HM HI
        have HBW := Lib.hid (HB.out.trans (S.bel.mono HB.out.size))
        generalize idxF (fun x => maxL (waits p) == x) 0 (waits p) = ix at *
        generalize maxL (waits p) = mx at *
        clear S hrd hwl
        go_wp2_with (first | (go_at_call 89; refine HM.out.mono ?_; rintro e w' ⟨rfl, rfl⟩) | (go_at_call 90; refine HI.out.mono ?_; rintro e w' ⟨rfl, rfl⟩))
        go_ret3
        rw [H.out]
        exact ⟨rfl, HBW.out⟩
end Go.Proofs.YtlffgdmljioaoaaGreatDoor
/- Walks: checkEntry, CheckMatrix, inner, outer, inside, plus, times. -/
namespace Go.Sheet
open Go.RowKit Go.Mem
theorem timesF_go {a y z t : Int} {r x : List Int} {k : Nat} (hy : r[k]? = some y) (hz : x[k]? = some z) (e : timesF a (r.drop k) (x.drop k) = t) : timesF (max a (prodX y z)) (r.drop (k + 1)) (x.drop (k + 1)) = t := by
  rw [← e, drop_at hy, drop_at hz, timesF]
theorem timesF_end {a t : Int} {r x : List Int} {k : Nat} (h : r.length ≤ k) (e : timesF a (r.drop k) (x.drop k) = t) : a = t := by
  rw [← e, List.drop_of_length_le h, timesF]; intros; contradiction
/-- owned rows -/
def ownT (e : TypeId) (vs : List Value) (M : IMat) : List Asr := (vs.zip M).map fun p => row e 1 p.1 p.2.length (ints p.2)
theorem ownT_at {e : TypeId} {vs : List Value} {M : IMat} {i : Nat} {x : Value} {r : List Int} (hx : vs[i]? = some x) (hr : M[i]? = some r) : (ownT e vs M)[i]? = some (row e 1 x r.length (ints r)) := by
  rw [ownT, List.getElem?_map, show (vs.zip M)[i]? = some (x, r) from List.getElem?_zip_eq_some.2 ⟨hx, hr⟩]; rfl
theorem ownT_snoc {e : TypeId} {vs : List Value} {M : IMat} {x : Value} {r : List Int} (h : vs.length = M.length) : ownT e (vs ++ [x]) (M ++ [r]) = ownT e vs M ++ [row e 1 x r.length (ints r)] := by
  rw [ownT, List.zip_append h, List.map_append]; rfl
theorem ownT_rows {e t : TypeId} {W w : World} {L : List Asr} {v : Value} {n : Nat} {vs : List Value} {M : IMat} {k : Nat} (h : St W w (L ++ ownT e vs M)) (hk : L[k]? = some (row t 1 v n vs)) (hl : vs.length = M.length) : RdRows w (· < w.heap.size) v M := by
  have hn : (L ++ ownT e vs M)[k]? = some (row t 1 v n vs) := by rw [List.getElem?_append_left (List.getElem?_eq_some_iff.1 hk).1]; exact hk
  have h1 := h.row_rd hn
  have hnl : n = M.length := by rw [← hl]; have := h1.len; omega
  refine ⟨vs, by rw [List.map_id, ← hnl]; exact h1.mono fun b hb _ => hb, fun i x r hx hr => ?_⟩
  have hi : (L ++ ownT e vs M)[L.length + i]? = some (row e 1 x r.length (ints r)) := by
    rw [List.getElem?_append_right (by omega), Nat.add_sub_cancel_left]; exact ownT_at hx hr
  exact (h.row_rd hi).mono fun b hb _ => hb
end Go.Sheet
namespace Go.Proofs.YtlffgdmljioaoaaGreatDoor
open Go.RowKit Go.Mem Go.Sheet
theorem entry_any (W : World) (k n : Int) : Calls Tryz.prog 62 #[.int .i64 k, .int .i64 n] W fun e w' => e = .returned (.int .i64 (entryE n)) ∧ Below W.heap.size W w' := by
  go_enter Tryz.func62, Tryz.ntmps62
  by_cases h : n = -1000000000
  · have H : Hid (entryE n = 0) := by show _ = _; rw [entryE, NONE, if_pos h]
    subst h
    go_wp2
    go_ret
    exact ⟨ret_i64 H.out.symm, Below.refl _ _⟩
  · have H : Hid (entryE n = outE n (-999999999) 999999999) := by show _ = _; rw [entryE, NONE, if_neg h]
    have hb : (n == -1000000000) = false := by simpa using h
    clear h
    go_wp2_with (go_at_call 56; refine (outside_any _ _ _ _).mono ?_; rintro e w' ⟨rfl, rfl⟩)
    go_ret
    exact ⟨ret_i64 H.out.symm, Below.refl _ _⟩
set_option maxRecDepth 100000 in
set_option maxHeartbeats 400000 in
theorem matRow_any (W : World) (k : Int) (x : Value) (r : List Int) (n c g : Nat) (A : Option Addr) (hx : Rd W (· < W.heap.size) 1 x r.length (r.map (Value.int .i64))) (hn : n ≤ 9223372036854775807)
    (c0 : W.cell? ⟨g, 0, none⟩ = some (.slice A n c)) :
    Calls Tryz.prog 96 #[.int .i64 k, x, .pointer (some ⟨g, 0, none⟩)] W fun e w' => e = .returned (.int .i64 (matRowE n r)) ∧ Below W.heap.size W w' := by
  have hE := enters Tryz.func62 (by kernel_rfl) rfl
  have HC := Lib.hid (each_ints W x r 62 hE entryE hx entry_any)
  have hrl := hx.le
  have HE : Hid (fst [whenE ((r.length : Int) != (n : Int)) 2, eachF (fun _ x => entryE x) 0 r] = matRowE n r) := by
    show _ = _
    have e : ((r.length : Int) != (n : Int)) = decide (r.length ≠ n) := by rw [Bool.eq_iff_iff]; simp only [bne_iff_ne, decide_eq_true_eq, ne_eq, Int.ofNat_inj]
    rw [matRowE, e]
  obtain ⟨Ax, cx, rfl, _, _, _⟩ := hx.open_
  clear hx hE
  generalize r.length = rl at *
  generalize eachF (fun _ x => entryE x) 0 r = E at *
  go_enter Tryz.func96, Tryz.ntmps96
  go_wp2_with (first | (go_at_call 53; refine (when_any _ _ _).mono ?_; rintro e w' ⟨rfl, rfl⟩) | (go_at_call 54; refine HC.out.mono ?_; rintro e w' ⟨rfl, hb⟩) | (go_at_call 52; refine (first2 _ _ (whenE ((rl : Int) != (n : Int)) 2) E (by simp) (by simp) (by simp)).mono ?_; rw [HE.out]; rintro e w' ⟨rfl, rfl⟩))
  go_ret
  exact ⟨rfl, hb.alloc hb.size _⟩
set_option maxRecDepth 100000 in
set_option maxHeartbeats 400000 in
theorem checkMatrix_any (W : World) (v : Value) (m : IMat) (h : RdRows W (· < W.heap.size) v m) :
    Calls Tryz.prog 43 #[v] W fun e w' => e = .returned (.int .i64 (matE m)) ∧ Below W.heap.size W w' := by
  obtain ⟨vs, h1, h2⟩ := h
  have hE := enters Tryz.func96 (by kernel_rfl) rfl
  have hl := h1.le
  have hvl : vs.length = m.length := by simpa using h1.len
  obtain ⟨A, c, rfl, _, _, _⟩ := h1.open_
  have H5 : Hid (24 < (m.length : Int) → matE m = 5) := fun h => by rw [matE, if_pos (by omega)]
  have H0 : Hid (¬ 24 < (m.length : Int) → matE m = eachF (fun _ row => matRowE m.length row) 0 m) := fun h => by rw [matE, if_neg (by omega)]
  generalize HN : m.length = n at *
  have hb1 := (Below.refl W.heap.size W).alloc (Nat.le_refl _) (.cells #[.slice A n c] 22)
  have c0 : (W.alloc (.cells #[.slice A n c] 22)).cell? ⟨W.heap.size, 0, none⟩ = some (.slice A n c) := by simp
  have h1' := h1.later hb1
  have h2' : ∀ (i : Nat) (x : Value) (r : List Int), vs[i]? = some x → m[i]? = some r → Rd _ _ 1 x r.length (ints r) := fun i x r hx hr => (h2 i x r hx hr).later hb1
  clear h1 h2
  go_enter Tryz.func43, Tryz.ntmps43
  by_cases h24 : 24 < n
  · have hb24 : decide (24 < (n : Int)) = true := by simp; omega
    go_wp2_with fail
    go_ret
    exact ⟨ret_i64 (H5.out (by omega)).symm, hb1⟩
  · have hb24 : decide (24 < (n : Int)) = false := by simp; omega
    have HM := Lib.hid (H0.out (by omega))
    clear H0 H5 h24
    go_wp2_with fail
    generalize W.alloc (.cells #[.slice A n c] 22) = W1 at *
    have hg0 : W.heap.size < W1.heap.size := World.block_lt_of_cell? W1 _ c0
    have hC : ∀ k x w, vs[k]? = some x → Below W1.heap.size W1 w → Calls Tryz.prog 96 (#[.int .i64 k, x] ++ #[.pointer (some ⟨W.heap.size, 0, none⟩)]) w fun e w' => e = .returned (.int .i64 ((fun k _ => matRowE n (m.getD k [])) k x)) ∧ Below w.heap.size w w' := by
      intro k x w hx hbw
      have hk : k < m.length := by rw [HN, ← hvl]; exact (List.getElem?_eq_some_iff.1 hx).1
      have hr : m[k]? = some (m.getD k []) := by rw [List.getD_eq_getElem?_getD, List.getElem?_eq_getElem hk, Option.getD_some]
      exact matRow_any w k x (m.getD k []) n c W.heap.size A ((h2' k x _ hx hr).later hbw) hl ((hbw.cell (p := ⟨W.heap.size, 0, none⟩) hg0).trans c0)
    refine (each_Row_pure W1 (.slice A n c) n vs 96 hE #[.pointer (some ⟨W.heap.size, 0, none⟩)] (fun k _ => matRowE n (m.getD k [])) h1' hC).mono ?_
    have HL := Lib.hid hvl
    have HNN := Lib.hid HN
    clear hC h1' h2' hvl HN
    rintro e w6 ⟨rfl, hb6⟩
    go_wp2
    go_ret
    refine ⟨ret_i64 ?_, hb1.trans (hb6.mono hb1.size)⟩
    rw [HM.out]
    refine eachF_two _ _ vs m 0 (by rw [HL.out, HNN.out]) fun i a b _ hb => ?_
    rw [Nat.zero_add, hb, Option.getD_some]
theorem innerL_snoc {l : List Int} {k : Nat} {x : Int} (h : l[k]? = some x) : innerL (l.take (k + 1)) = innerL (l.take k) ++ [innerX x] := by
  rw [take_at h, innerL, List.map_append]; rfl
set_option maxRecDepth 100000 in
set_option maxHeartbeats 400000 in
theorem inner_any (W : World) (v : Value) (l : List Int) (h : Rd W (· < W.heap.size) 1 v l.length (l.map (Value.int .i64))) (hl : l.length ≤ 1000000000) :
    Calls Tryz.prog 63 #[v] W fun e w' => ∃ v', e = .returned v' ∧ St W w' [row 3 1 v' l.length (ints (innerL l))] := by
  generalize HN : l.length = n at *
  obtain ⟨A, c, rfl, _, _, _⟩ := h.open_
  have HH := Lib.hid h
  have HNN := Lib.hid HN
  clear h HN
  have S0 := (St.refl W).row_nil 3 1
  go_enter Tryz.func63, Tryz.ntmps63
  go_wp2
  go_loopw [8, 3] (fun i v w' => ∃ (k : Nat), k ≤ n ∧ i = .int .i64 k ∧ St W w' [row 3 1 v k (ints (innerL (l.take k)))]) (fun i _ _ => n - (intOf i).toNat)
  case atStart => exact ⟨0, Nat.zero_le _, rfl, S0⟩
  case round =>
    obtain ⟨k, hk, rfl, S⟩ := hrel
    clear S0
    by_cases hlt : k < n
    · obtain ⟨b, o, x, rfl, hx, hc⟩ := (HH.out.below S.bel).int hlt
      have HG := Lib.hid (innerL_snoc hx)
      have HX : Hid (innerX x = if x = -1000000000 then -1125899906842624 else x) := rfl
      clear hx
      by_cases h0 : x = -1000000000
      · have HXX : Hid (innerX x = -1125899906842624) := by show _ = _; rw [HX.out, if_pos h0]
        have HXE := Lib.hid h0
        have hxb : (x == -1000000000) = true := by simpa using h0
        clear h0 HX
        go_wp2_with (at_builtin; refine wpList_append_st eltI rfl _ _ rfl rfl (S.alloc _) (k := 0) rfl rfl (rd_one (by simp)) (one_int _ _) (by omega) (by omega) ?_; intro v' w' S' _)
        go_roundw
        case rel => exact ⟨k + 1, by omega, by go_num, by rw [HG.out, HXX.out]; simpa [ints] using S'⟩
        case measure => simp [intOf]; omega
      · have HXX : Hid (innerX x = x) := by show _ = _; rw [HX.out, if_neg h0]
        have hxb : (x == -1000000000) = false := by simpa using h0
        clear h0 HX
        go_wp2_with (at_builtin; refine wpList_append_st eltI rfl _ _ rfl rfl (S.alloc _) (k := 0) rfl rfl (rd_one (by simp)) (one_int _ _) (by omega) (by omega) ?_; intro v' w' S' _)
        go_roundw
        case rel => exact ⟨k + 1, by omega, by go_num, by rw [HG.out, HXX.out]; simpa [ints] using S'⟩
        case measure => simp [intOf]; omega
    · have hkb : decide ((k : Int) < n) = false := by simp; omega
      obtain rfl : k = n := by omega
      rw [List.take_of_length_le (Nat.le_of_eq HNN.out)] at S
      have HS := Lib.hid S
      clear S
      go_wp2
      go_ret
      exact ⟨_, rfl, HS.out⟩
end Go.Proofs.YtlffgdmljioaoaaGreatDoor
/- Walks: outer, inside, plus, times. -/
namespace Go.Sheet
open Go.RowKit Go.Mem
theorem outer_take {l : List Int} {k : Nat} {x : Int} (h : l[k]? = some x) : (l.take (k + 1)).map outerX = (l.take k).map outerX ++ [outerX x] ∧ (l.take (k + 1)).any outerBad = ((l.take k).any outerBad || outerBad x) := by
  rw [take_at h]; simp
theorem any_at {α : Type} {p : α → Bool} {l : List α} {k : Nat} {x : α} (h : l[k]? = some x) (hx : p x = true) : l.any p = true := List.any_eq_true.2 ⟨x, List.mem_of_getElem? h, hx⟩
end Go.Sheet
namespace Go.Proofs.YtlffgdmljioaoaaGreatDoor
open Go.RowKit Go.Mem Go.Sheet
set_option maxRecDepth 100000 in
set_option maxHeartbeats 400000 in
theorem outer_any (W : World) (v : Value) (l : List Int) (h : Rd W (· < W.heap.size) 1 v l.length (l.map (Value.int .i64))) (hl : l.length ≤ 1000000000) :
    Calls Tryz.prog 64 #[v] W (RetInts W (outerL l)) := by
  generalize HN : l.length = n at *
  obtain ⟨A, c, rfl, _, _, _⟩ := h.open_
  have HH := Lib.hid h
  have HNN := Lib.hid HN
  have HO : Hid (outerL l = if l.any outerBad then ([], 4) else (l.map outerX, 0)) := rfl
  clear h HN
  have S0 := (St.refl W).row_nil 3 1
  go_enter Tryz.func64, Tryz.ntmps64
  go_wp2
  go_loopw [9, 4] (fun i v w' => ∃ (k : Nat), k ≤ n ∧ i = .int .i64 k ∧ St W w' [row 3 1 v k (ints ((l.take k).map outerX))] ∧ Hid ((l.take k).any outerBad = false)) (fun i _ _ => n - (intOf i).toNat)
  case atStart => exact ⟨0, Nat.zero_le _, rfl, S0, rfl⟩
  case round =>
    obtain ⟨k, hk, rfl, S, HB⟩ := hrel
    clear S0
    by_cases hlt : k < n
    · obtain ⟨b, o, x, rfl, hx, hc⟩ := (HH.out.below S.bel).int hlt
      have HG := Lib.hid (outer_take hx)
      have HX := Lib.hid hx
      have HOB : Hid (outerBad x = (!(x == -1125899906842624) && (decide (x < -999999999) || decide (999999999 < x)))) := rfl
      have HOX : Hid (outerX x = if x = -1125899906842624 then -1000000000 else x) := rfl
      clear hx
      by_cases h0 : x = -1125899906842624
      · have HXX : Hid (outerX x = -1000000000) := by show _ = _; rw [HOX.out, if_pos h0]
        have HBB : Hid (outerBad x = false) := by show _ = _; rw [HOB.out, h0]; rfl
        have hxb : (x == -1125899906842624) = true := by simpa using h0
        clear h0 HOX HOB
        go_wp2_with (at_builtin; refine wpList_append_st eltI rfl _ _ rfl rfl (S.alloc _) (k := 0) rfl rfl (rd_one (by simp)) (one_int _ _) (by omega) (by omega) ?_; intro v' w' S' _)
        go_roundw
        case rel => exact ⟨k + 1, by omega, by go_num, by rw [HG.out.1, HXX.out]; simpa [ints] using S', by show _ = _; rw [HG.out.2, HB.out, HBB.out]; rfl⟩
        case measure => simp [intOf]; omega
      · have HXX : Hid (outerX x = x) := by show _ = _; rw [HOX.out, if_neg h0]
        have hxb : (x == -1125899906842624) = false := by simpa using h0
        clear h0 HOX
        by_cases h1 : x < -999999999
        · have HBB : Hid (outerBad x = true) := by show _ = _; rw [HOB.out, hxb]; simp [h1]
          have HF : Hid (outerL l = ([], 4)) := by show _ = _; rw [HO.out, if_pos (any_at HX.out HBB.out)]
          have hb := S.bel
          go_wp2
          go_ret2
          rw [HF.out]
          exact RetInts.err hb
        · by_cases h2 : 999999999 < x
          · have HBB : Hid (outerBad x = true) := by show _ = _; rw [HOB.out, hxb]; simp [h2]
            have HF : Hid (outerL l = ([], 4)) := by show _ = _; rw [HO.out, if_pos (any_at HX.out HBB.out)]
            have hb := S.bel
            go_wp2
            go_ret2
            rw [HF.out]
            exact RetInts.err hb
          · have HBB : Hid (outerBad x = false) := by show _ = _; rw [HOB.out, hxb]; simp [h1, h2]
            go_wp2_with (at_builtin; refine wpList_append_st eltI rfl _ _ rfl rfl (S.alloc _) (k := 0) rfl rfl (rd_one (by simp)) (one_int _ _) (by omega) (by omega) ?_; intro v' w' S' _)
            go_roundw
            case rel => exact ⟨k + 1, by omega, by go_num, by rw [HG.out.1, HXX.out]; simpa [ints] using S', by show _ = _; rw [HG.out.2, HB.out, HBB.out]; rfl⟩
            case measure => simp [intOf]; omega
    · have hkb : decide ((k : Int) < n) = false := by simp; omega
      obtain rfl : k = n := by omega
      have hB := HB.out
      rw [List.take_of_length_le (Nat.le_of_eq HNN.out)] at S hB
      have HF : Hid (outerL l = (l.map outerX, 0)) := by show _ = _; rw [HO.out, if_neg (by rw [hB]; decide)]
      have HS := Lib.hid S
      clear S hB
      go_wp2
      go_ret2
      rw [HF.out]
      exact ⟨_, rfl, by simpa [HNN.out, ints] using HS.out⟩
theorem plus1_any (W : World) (a b : Int) : Calls Tryz.prog 98 #[.int .i64 a, .int .i64 b] W fun e w' => e = .returned (.int .i64 (max a b)) ∧ w' = W := by
  go_enter Tryz.func98, Tryz.ntmps98
  by_cases h : a < b
  · have H : Hid (max a b = b) := by show _ = _; omega
    go_wp2
    go_ret
    exact ⟨ret_i64 H.out.symm, rfl⟩
  · have H : Hid (max a b = a) := by show _ = _; omega
    go_wp2
    go_ret
    exact ⟨ret_i64 H.out.symm, rfl⟩
theorem plus2_any (W : World) (a b : Int) (ha : -1125899906842624 ≤ a ∧ a ≤ 1125899906842624) (hb : -1125899906842624 ≤ b ∧ b ≤ 1125899906842624) : Calls Tryz.prog 99 #[.int .i64 a, .int .i64 b] W fun e w' => e = .returned (.int .i64 (prodX a b)) ∧ w' = W := by
  go_enter Tryz.func99, Tryz.ntmps99
  have HX : Hid (prodX a b = if a = -1125899906842624 ∨ b = -1125899906842624 then -1125899906842624 else a + b) := rfl
  by_cases h1 : a = -1125899906842624
  · have H : Hid (prodX a b = -1125899906842624) := by show _ = _; rw [HX.out, if_pos (.inl h1)]
    have h1b : (a == -1125899906842624) = true := by simpa using h1
    clear h1 HX
    go_wp2
    go_ret
    exact ⟨ret_i64 H.out.symm, rfl⟩
  · have h1b : (a == -1125899906842624) = false := by simpa using h1
    by_cases h2 : b = -1125899906842624
    · have H : Hid (prodX a b = -1125899906842624) := by show _ = _; rw [HX.out, if_pos (.inr h2)]
      have h2b : (b == -1125899906842624) = true := by simpa using h2
      clear h1 h2 HX
      go_wp2
      go_ret
      exact ⟨ret_i64 H.out.symm, rfl⟩
    · have H : Hid (prodX a b = a + b) := by show _ = _; rw [HX.out, if_neg (fun h => h.elim h1 h2)]
      have h2b : (b == -1125899906842624) = false := by simpa using h2
      clear h1 h2 HX
      go_wp2
      go_ret
      exact ⟨ret_i64 H.out.symm, rfl⟩
@[reducible] def plusV : Value := .agg #[.func (.func 98) #[] #[], .func (.func 99) #[] #[], .int .i64 (-1125899906842624)]
theorem plus_any (W : World) : Calls Tryz.prog 46 #[] W fun e w' => e = .returned plusV ∧ Below W.heap.size W w' := by
  go_enter Tryz.func46, Tryz.ntmps46
  go_wp2

  refine bodyPost_ret (v := plusV) ?_ rfl ⟨rfl, (Below.refl _ _).alloc (Nat.le_refl _) _⟩
  simp [results, Tryz.results46, go_sem]
end Go.Proofs.YtlffgdmljioaoaaGreatDoor
