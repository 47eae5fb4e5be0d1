/- Part 20 of the walks of the golf union's program: WT6, S8h, WV1, WV2, S8t. -/
import Derived.Test.YtjfhncnpmelopaaGreatDoorB19
import Derived.Test.YtjfhncnpmelopaaGreatDoorB14
import Derived.IntWalk
set_option linter.unusedVariables false
set_option linter.unusedSimpArgs false
set_option linter.unusedSectionVars false
set_option linter.constructorNameAsVariable false
/- Walks: Holes. -/
namespace Go.Mem
theorem Rd.sub {w : World} {S : Nat → Prop} {b o n c k j : Nat} {xs : List Value} (h : Rd w S 1 (.slice (some ⟨b, o, none⟩) n c) n xs) (hk : k ≤ j) (hj : j ≤ n) : Rd w S 1 (.slice (some ⟨b, o + k, none⟩) (j - k) (c - k)) (j - k) ((xs.take j).drop k) := by
  obtain ⟨A, c', hv, h1, h2, h3, h4, h5⟩ := h
  injection hv with e1 e2 e3
  subst e1 e3
  refine ⟨_, _, rfl, by omega, by omega, by simp; omega, (fun h => by cases h), fun h0 => ?_⟩
  obtain ⟨b', o', hA, hS, hb, hc⟩ := h5 (by omega)
  cases hA
  refine ⟨b, o + k, rfl, hS, hb, fun i u hu => ?_⟩
  have hi : i < j - k := by have := (List.getElem?_eq_some_iff.1 hu).1; simp at this; omega
  rw [List.getElem?_drop, List.getElem?_take_of_lt (by omega)] at hu
  have := hc (k + i) u hu
  rwa [← Nat.add_assoc] at this
end Go.Mem
namespace Go.Sheet
/-- a row of Holes, its first k numbers made -/
def holesP (l : List Int) (i k : Nat) : List Int := (List.range l.length).map fun j => if j < k then sumF ((l.take (i + 1)).drop j) else NONE
theorem holesP_len (l : List Int) (i k : Nat) : (holesP l i k).length = l.length := by simp [holesP]
theorem holesP_zero (l : List Int) (i : Nat) : holesP l i 0 = List.replicate l.length NONE := by
  rw [holesP, List.map_congr_left (g := fun _ => NONE) (fun j _ => by simp), List.map_const', List.length_range]
theorem holesP_end (l : List Int) (i : Nat) : holesP l i (i + 1) = holesRow l i := by
  refine List.map_congr_left fun j _ => ?_
  by_cases h : j ≤ i
  · rw [if_pos (by omega), if_pos h]
  · rw [if_neg (by omega), if_neg h]
theorem holesP_set {l : List Int} {i k : Nat} (hk : k < l.length) : (holesP l i k).set k (sumF ((l.take (i + 1)).drop k)) = holesP l i (k + 1) := by
  refine List.ext_getElem? fun j => ?_
  by_cases e : k = j
  · subst e
    rw [List.getElem?_set_self (by rw [holesP_len]; exact hk), holesP, List.getElem?_map, List.getElem?_range hk, Option.map_some, if_pos (by omega)]
  · rw [List.getElem?_set_ne e]
    by_cases hj : j < l.length
    · simp only [holesP, List.getElem?_map, List.getElem?_range hj, Option.map_some]
      by_cases h1 : j < k
      · rw [if_pos h1, if_pos (by omega)]
      · rw [if_neg h1, if_neg (by omega)]
    · rw [List.getElem?_eq_none (by rw [holesP_len]; omega), List.getElem?_eq_none (by rw [holesP_len]; omega)]
def holesT (l : List Int) (i : Nat) : IMat := (List.range i).map (holesRow l)
theorem holesT_succ (l : List Int) (i : Nat) : holesT l (i + 1) = holesT l i ++ [holesRow l i] := by
  rw [holesT, holesT, List.range_succ, List.map_append]; rfl
theorem holesT_len (l : List Int) (i : Nat) : (holesT l i).length = i := by simp [holesT]
theorem holesRow_len (l : List Int) (i : Nat) : (holesRow l i).length = l.length := by simp [holesRow]
theorem holesE_ok {l : List Int} (h : holesE l = 0) : 0 < l.length ∧ l.length ≤ 24 ∧ ∀ x ∈ l, 1 ≤ x ∧ x ≤ 10000 := by
  rw [holesE, fst_zero] at h
  simp only [List.mem_cons, List.not_mem_nil, or_false, forall_eq_or_imp, forall_eq] at h
  obtain ⟨h1, h2, h3⟩ := h
  rw [whenE_zero _ _ (by decide)] at h1 h2
  simp only [decide_eq_false_iff_not] at h1 h2
  exact ⟨by omega, by omega, eachF_out h3⟩
end Go.Sheet
namespace Go.Proofs.YtjfhncnpmelopaaGreatDoor
open Go.RowKit Go.Mem Go.Sheet
theorem holes1_any (W : World) (k n : Int) : Calls Tryz.prog 116 #[.int .i64 k, .int .i64 n] W fun e w' => e = .returned (.int .i64 (outE n 1 10000)) ∧ Below W.heap.size W w' := by
  go_enter Tryz.func116, Tryz.ntmps116
  go_wp2_with (go_at_call 97; refine (outside_any _ _ _ _).mono ?_; rintro e w' ⟨rfl, rfl⟩)
  go_ret
  exact ⟨rfl, Below.refl _ _⟩
set_option maxRecDepth 100000 in
set_option maxHeartbeats 1000000 in
theorem holes_any (W : World) (v : Value) (l : List Int) (h : Rd W (· < W.heap.size) 1 v l.length (l.map (Value.int .i64))) :
    Calls Tryz.prog 53 #[v] W (RetRows W (holes l)) := by
  have hE := enters Tryz.func116 (by kernel_rfl) rfl
  have HEA := Lib.hid (each_ints W v l 116 hE (fun n => outE n 1 10000) h holes1_any)
  have HH := Lib.hid h
  have hl := h.le
  obtain ⟨A, c, rfl, hnc, _, _⟩ := h.open_
  have HHL : Hid (holes l = if holesE l ≠ 0 then ([], holesE l) else (holesT l l.length, 0)) := rfl
  have HHE : Hid (fst [whenE ((l.length : Int) == 0) 12, whenE (decide (24 < (l.length : Int))) 5, eachF (fun _ n => outE n 1 10000) 0 l] = holesE l) := by
    show _ = _
    have e1 : ((l.length : Int) == 0) = decide (l.length = 0) := by rw [Bool.eq_iff_iff]; simp
    have e2 : decide (24 < (l.length : Int)) = decide (24 < l.length) := by simp; omega
    rw [holesE, e1, e2]
  have HOK : Hid (holesE l = 0 → 0 < l.length ∧ l.length ≤ 24 ∧ ∀ x ∈ l, 1 ≤ x ∧ x ≤ 10000) := holesE_ok
  generalize hX : eachF (fun _ n => outE n 1 10000) 0 l = X at *
  generalize HN : l.length = n at *
  have HN := Lib.hid HN
  clear h hE hX
  go_enter Tryz.func53, Tryz.ntmps53
  go_wp2_with (first | (go_at_call 94; refine (when_any _ _ _).mono ?_; rintro e w' ⟨rfl, rfl⟩))
  refine HEA.out.mono ?_
  rintro e w2 ⟨rfl, hb2⟩
  clear HEA
  have hb3 := hb2.alloc hb2.size (.cells #[.int .i64 (whenE ((n : Int) == 0) 12), .int .i64 (whenE (decide (24 < (n : Int))) 5), .int .i64 X] 30)
  go_wp2_with fail
  refine (first3 _ _ (whenE ((n : Int) == 0) 12) (whenE (decide (24 < (n : Int))) 5) X (by simp) (by simp) (by simp) (by simp)).mono ?_
  rw [HHE.out]
  rintro e w' ⟨rfl, rfl⟩
  generalize w2.alloc (.cells #[.int .i64 (whenE ((n : Int) == 0) 12), .int .i64 (whenE (decide (24 < (n : Int))) 5), .int .i64 X] 30) = w3 at *
  clear HHE hb2
  generalize holesE l = E at *
  by_cases h0 : (E != 0) = true
  · go_wp2
    go_ret2
    rw [HHL.out, if_pos (by simpa using h0)]
    exact ⟨_, rfl, hb3, RdRows.nil _⟩
  · have h0' : (E != 0) = false := by simpa using h0
    obtain ⟨hn0, hn24, hbd⟩ := HOK.out (by simpa using h0)
    have HS : Hid (holes l = (holesT l n, 0)) := by show _ = _; rw [HHL.out, if_neg (by simpa using h0)]
    have HBD := Lib.hid hbd
    have HB3 := Lib.hid hb3
    have S0 := (St.of_below hb3).row_nil 33 1
    obtain ⟨b, o, _, hA, _⟩ := HH.out.int (k := 0) hn0
    subst hA
    clear h0 hbd HOK HHL hb3
    go_wp2_with fail
    go_loopw [26, 5] (fun i v w' => ∃ (k : Nat) (vs : List Value), k ≤ n ∧ i = .int .i64 k ∧ Hid (vs.length = k) ∧ St W w' ([row 33 1 v k vs] ++ ownT 3 vs (holesT l k))) (fun i _ _ => n - (intOf i).toNat)
    case atStart => exact ⟨0, [], Nat.zero_le _, rfl, rfl, by simpa [ownT] using S0⟩
    case round =>
      obtain ⟨k, vs, hk, rfl, HV, S⟩ := hrel
      clear S0
      by_cases hlt : k < n
      · have HSS := Lib.hid S
        clear S
        go_wp2_with fail
        refine (repeat1_any _ wr.heap.size (-1000000000) n (by simp) (by omega)).mono ?_
        rintro e w4 ⟨g, rfl, S4⟩
        have S5 := ((HSS.out.alloc (.cells #[.int .i64 (-1000000000)] 3)).call S4).perm List.perm_append_comm
        have hS5 : St W w4 ([row 3 1 (.slice (some ⟨g, 0, none⟩) n n) n (ints (holesP l k 0))] ++ ([row 33 1 u5 k vs] ++ ownT 3 vs (holesT l k))) := by
          rw [holesP_zero, HN.out]
          simpa [ints, NONE] using S5
        clear S4 S5
        go_wp2_with fail
        go_loopw [35] (fun i w' => ∃ (j : Nat), j ≤ k + 1 ∧ i = .int .i64 j ∧ St W w' ([row 3 1 (.slice (some ⟨g, 0, none⟩) n n) n (ints (holesP l k j))] ++ ([row 33 1 u5 k vs] ++ ownT 3 vs (holesT l k)))) (fun i _ => k + 1 - (intOf i).toNat)
        case atStart => exact ⟨0, Nat.zero_le _, rfl, hS5⟩
        case round =>
          obtain ⟨j, hj, rfl, S⟩ := hrel
          clear hS5
          by_cases hjl : j < k + 1
          · have hsub := Rd.sub (HH.out.below S.bel) (k := j) (j := k + 1) (by omega) (by omega)
            rw [← List.map_take, ← List.map_drop] at hsub
            have hsl : ((l.take (k + 1)).drop j).length = k + 1 - j := by rw [List.length_drop, List.length_take, HN.out]; omega
            have HT := Lib.hid (total_any wr _ _ ((l.take (k + 1)).drop j) (by rw [hsl]; exact hsub) (fun y hy => by have := HBD.out y (List.mem_of_mem_take (List.mem_of_mem_drop hy)); omega) (by rw [hsl]; omega))
            obtain ⟨g', cap', hv, _, _, _, hcell, hfz⟩ := S.row_form (i := 0) rfl (by omega)
            cases hv
            have hjn : j < (ints (holesP l k j)).length := by rw [ints, List.length_map, holesP_len, HN.out]; omega
            have e1 := hcell j (by omega)
            rw [List.getElem?_eq_getElem hjn] at e1
            have e2 := hfz j
            have HST := Lib.hid (holesP_set (l := l) (i := k) (k := j) (by rw [HN.out]; omega))
            have HSS := Lib.hid S
            have hjkb : decide ((j : Int) < (k : Int) + 1) = true := by simp; omega
            clear hsub hsl hcell hfz S
            generalize sumF ((l.take (k + 1)).drop j) = sm at *
            have S6 := HSS.out.row_set (i := 0) rfl j (.int .i64 sm)
            have S7 : St W (wr.setCell ⟨g, j, none⟩ (.int .i64 sm)) ([row 3 1 (.slice (some ⟨g, 0, none⟩) n n) n (ints (holesP l k (j + 1)))] ++ ([row 33 1 u5 k vs] ++ ownT 3 vs (holesT l k))) := by
              rw [← HST.out, ints, List.map_set]
              exact S6
            have HS7 := Lib.hid S7
            clear S6 S7
            go_wp2_with fail
            refine HT.out.mono ?_
            rintro e w' ⟨rfl, rfl⟩
            go_wp2
            go_roundw
            case rel => exact ⟨j + 1, by omega, by go_num, HS7.out⟩
            case measure => simp [intOf]; omega
          · have hjkb : decide ((j : Int) < (k : Int) + 1) = false := by simp; omega
            obtain rfl : j = k + 1 := by omega
            rw [holesP_end] at S
            have HSS := Lib.hid S
            clear S
            go_wp2_with (at_builtin; refine wpList_append_st eltL rfl _ _ rfl rfl (HSS.out.alloc _) (k := 1) rfl rfl (rd_one (by simp)) one_slice (by omega) (by omega) ?_; intro v' w' S' _)
            have S6 : St W w' ([row 33 1 v' (k + 1) (vs ++ [.slice (some ⟨g, 0, none⟩) n n])] ++ ownT 3 (vs ++ [.slice (some ⟨g, 0, none⟩) n n]) (holesT l (k + 1))) := by
              rw [holesT_succ, ownT_snoc (by rw [HV.out, holesT_len]), holesRow_len, HN.out]
              have := S'.perm (L' := [row 33 1 v' (k + 1) (vs ++ [.slice (some ⟨g, 0, none⟩) n n])] ++ (ownT 3 vs (holesT l k) ++ [row 3 1 (.slice (some ⟨g, 0, none⟩) n n) n (ints (holesRow l k))])) (List.Perm.trans (List.Perm.swap _ _ _) (.cons _ (List.perm_append_comm (l₁ := [_]))))
              exact this
            have HS6 := Lib.hid S6
            clear S' S6
            go_roundw
            case rel => exact ⟨k + 1, _, by omega, by go_num, by show _ = _; simp [HV.out], HS6.out⟩
            case measure => simp [intOf]; omega
      · have hkb : decide ((k : Int) < n) = false := by simp; omega
        obtain rfl : k = n := by omega
        have hr := ownT_rows S (k := 0) rfl (by rw [HV.out, holesT_len])
        have HR := Lib.hid hr
        have HBF := Lib.hid S.bel
        clear S hr
        go_wp2
        go_ret2
        rw [HS.out]
        exact ⟨_, rfl, HBF.out, HR.out⟩
end Go.Proofs.YtjfhncnpmelopaaGreatDoor
/- Mean of a matrix as plain functions. -/
namespace Go.Sheet
def stepD (m : IMat) (x : List Int) : List Int := m.map fun r => timesR r x
def dRow (m : IMat) : Nat → List Int
  | 0 => List.replicate m.length 0
  | k + 1 => stepD m (dRow m k)
/-- the first k rows of walks -/
def walksT (m : IMat) (k : Nat) : IMat := (List.range k).map (dRow m)
theorem walksT_succ (m : IMat) (k : Nat) : walksT m (k + 1) = walksT m k ++ [dRow m k] := by
  rw [walksT, walksT, List.range_succ, List.map_append]; rfl
theorem walksT_len (m : IMat) (k : Nat) : (walksT m k).length = k := by simp [walksT]
theorem walksT_at {m : IMat} {k i : Nat} (h : i < k) : (walksT m k)[i]? = some (dRow m i) := by
  rw [walksT, List.getElem?_map, List.getElem?_range h]; rfl
theorem dRow_len (m : IMat) : ∀ k, (dRow m k).length = m.length
  | 0 => by simp [dRow]
  | k + 1 => by simp [dRow, stepD]
/-- a square matrix of n rows, entries nothing or between -b and b -/
structure SqOk (n : Nat) (b : Int) (m : IMat) : Prop where
  n_eq : m.length = n
  len : ∀ r ∈ m, r.length = n
  bd : ∀ r ∈ m, ∀ x ∈ r, XB b x
theorem dRow_bd {n : Nat} {b : Int} {m : IMat} (h : SqOk n b m) (hb : 0 ≤ b) (hb2 : b ≤ 30000000000) : ∀ k : Nat, k ≤ 30 → ∀ x ∈ dRow m k, XB (b * k) x
  | 0, _, x, hx => by
    have := (List.mem_replicate.1 hx).2
    subst this
    exact .inr (by omega)
  | k + 1, hk, x, hx => by
    obtain ⟨r, hr, rfl⟩ := List.mem_map.1 hx
    have ih := dRow_bd h hb hb2 k (by omega)
    have hbk : b * k ≤ 30000000000 * 30 := Int.mul_le_mul hb2 (by omega) (by omega) (by omega)
    have hbk0 : 0 ≤ b * k := Int.mul_nonneg hb (by omega)
    have e : b * ((k + 1 : Nat) : Int) = b + b * k := by rw [Int.natCast_add, Int.mul_add]; omega
    rw [e]
    exact timesF_bd (a := b) (b := b * k) (by omega) r _ _ (.inl rfl) (h.bd r hr) ih
/-- the least of the means behind one row, as a fraction -/
def karpIn (d : IMat) (n v : Nat) : List Nat → Int × Int → Int × Int
  | [], s => s
  | k :: ks, s => karpIn d n v ks (if at2 d k v ≠ noth ∧ (at2 d n v - at2 d k v) * s.2 < s.1 * ((n : Int) - k) then (at2 d n v - at2 d k v, (n : Int) - k) else s)
def karpV (d : IMat) (n v : Nat) : Int × Int := karpIn d n v (List.range' 1 (n - 1)) (at2 d n v - at2 d 0 v, n)
structure Best3 where
  num : Int
  den : Int
  found : Bool
  deriving DecidableEq
def karpUp (b : Best3) (pq : Int × Int) : Best3 := if b.found = false ∨ b.num * pq.2 < pq.1 * b.den then ⟨pq.1, pq.2, true⟩ else b
def karpF (d : IMat) (n : Nat) : List Nat → Best3 → Best3
  | [], b => b
  | v :: vs, b => karpF d n vs (if at2 d n v = noth then b else karpUp b (karpV d n v))
def greatestF (m : IMat) : Best3 := karpF (walksT m (m.length + 1)) m.length (List.range m.length) ⟨0, 1, false⟩
end Go.Sheet
/- Walks: walks. -/
namespace Go.Proofs.YtjfhncnpmelopaaGreatDoor
open Go.RowKit Go.Mem Go.Sheet
set_option maxRecDepth 100000 in
set_option maxHeartbeats 1000000 in
theorem walks_any (W : World) (v : Value) (m : IMat) (n : Nat) (h : RdRows W (· < W.heap.size) v m) (hm : SqOk n 999999999 m) (hn : n ≤ 24) :
    Calls Tryz.prog 155 #[v] W fun e w' => ∃ v', e = .returned v' ∧ Below W.heap.size W w' ∧ RdRows w' (· < w'.heap.size) v' (walksT m (n + 1)) := by
  have HH := Lib.hid h
  obtain ⟨vs0, h1, h2⟩ := h
  have HNM := Lib.hid hm.n_eq
  rw [hm.n_eq] at h1
  obtain ⟨A, c, rfl, _, _, _⟩ := h1.open_
  have H1 := Lib.hid h1
  have H2 : Hid (∀ (i : Nat) (x : Value) (r : List Int), vs0[i]? = some x → m[i]? = some r → Rd W (· < W.heap.size) 1 x r.length (ints r)) := h2
  have HM := Lib.hid hm
  clear h1 h2 hm
  go_enter Tryz.func155, Tryz.ntmps155
  go_wp2_with (refine wpList_make_st eltI rfl _ _ rfl (n := n) rfl rfl (St.refl W) (by omega) (by omega) ?_; intro w1 g S1 hg hb1)
  have hz : (madeCells (Value.int .i64 0).cells (n * 1)).toList = ints (dRow m 0) := by
    show (madeCells #[.int .i64 0] (n * 1)).toList = _
    rw [toList_madeCells_one, dRow, HNM.out, ints]; simp
  rw [hz] at S1
  have S2 : St W (w1.alloc (.cells #[.slice (some ⟨g, 0, none⟩) n n] 33)) ([row 33 1 (.slice (some ⟨w1.heap.size, 0, none⟩) 1 1) 1 [.slice (some ⟨g, 0, none⟩) n n]] ++ ownT 3 [.slice (some ⟨g, 0, none⟩) n n] (walksT m (0 + 1))) := by
    have e : ownT 3 [.slice (some ⟨g, 0, none⟩) n n] (walksT m (0 + 1)) = [row 3 1 (.slice (some ⟨g, 0, none⟩) n n) n (ints (dRow m 0))] := by
      show [row 3 1 _ (dRow m 0).length _] = _
      rw [dRow_len, HNM.out]
    rw [e]
    exact (S1.row_new (e := 33) (size := 1) (n := 1) #[.slice (some ⟨g, 0, none⟩) n n] (by unfold maxLen; omega) rfl).perm List.perm_append_comm
  have HS2 := Lib.hid S2
  clear hz S1 S2 hb1
  generalize w1.alloc (.cells #[.slice (some ⟨g, 0, none⟩) n n] 33) = w2 at *
  generalize hgg : w1.heap.size = gg at *
  clear hgg
  go_loopw [14, 3] (fun i v w' => ∃ (k : Nat) (vs : List Value), k ≤ n ∧ i = .int .i64 k ∧ Hid (vs.length = k + 1) ∧ St W w' ([row 33 1 v (k + 1) vs] ++ ownT 3 vs (walksT m (k + 1)))) (fun i _ _ => n - (intOf i).toNat)
  case atStart => exact ⟨0, [.slice (some ⟨g, 0, none⟩) n n], Nat.zero_le _, rfl, rfl, HS2.out⟩
  case round =>
    obtain ⟨k, vs, hk, rfl, HV, S⟩ := hrel
    clear HS2
    by_cases hlt : k < n
    · have S3 := (S.row_nil 3 1).perm (L' := [row 3 1 (.slice none 0 0) 0 []] ++ ([row 33 1 u3 (k + 1) vs] ++ ownT 3 vs (walksT m (k + 1)))) List.perm_append_comm
      have HS3 := Lib.hid S3
      clear S S3
      go_wp2_with fail
      go_loopw [19, 5] (fun i v w' => ∃ (j : Nat), j ≤ n ∧ i = .int .i64 j ∧ St W w' ([row 3 1 v j (ints ((m.take j).map fun r => timesR r (dRow m k)))] ++ ([row 33 1 u3 (k + 1) vs] ++ ownT 3 vs (walksT m (k + 1))))) (fun i _ _ => n - (intOf i).toNat)
      case atStart => exact ⟨0, Nat.zero_le _, rfl, HS3.out⟩
      case round =>
        obtain ⟨j, hj, rfl, S⟩ := hrel
        clear HS3
        by_cases hjl : j < n
        · obtain ⟨b, o, x, hA, hx, k1⟩ := (H1.out.below S.bel).val hjl
          subst hA
          have hjm : j < m.length := by rw [HNM.out]; exact hjl
          have hr : m[j]? = some m[j] := List.getElem?_eq_getElem hjm
          have hrd := (H2.out j x _ hx hr).later S.bel
          have hrl := HM.out.len _ (List.getElem_mem hjm)
          have hrb := HM.out.bd _ (List.getElem_mem hjm)
          have HG := Lib.hid (take_map (f := fun r => timesR r (dRow m k)) hr)
          generalize m[j] = r at *
          rw [hrl] at hrd
          obtain ⟨Ar, cr, rfl, _, _, _⟩ := hrd.open_
          have hT := ownT_rows (L := [row 3 1 u5 j (ints ((m.take j).map fun r => timesR r (dRow m k))), row 33 1 u3 (k + 1) vs]) S (k := 1) rfl (by rw [HV.out, walksT_len])
          obtain ⟨vs', t1, t2⟩ := hT
          rw [walksT_len] at t1
          obtain ⟨A3, c3, rfl, _, _, _⟩ := t1.open_
          obtain ⟨b3, o3, x3, hA, hx3, k2⟩ := t1.val (k := k) (by omega)
          subst hA
          have hd := t2 k x3 _ hx3 (walksT_at (by omega))
          rw [dRow_len, HNM.out] at hd
          obtain ⟨Ad, cd, rfl, _, _, _⟩ := hd.open_
          have HD := Lib.hid hd
          have HRD := Lib.hid hrd
          have hdb := dRow_bd HM.out (by omega) (by omega) k (by omega)
          have HTT := Lib.hid (fun w (hb : Below wr.heap.size wr w) => times_any w _ _ (.slice Ar n cr) (.slice Ad n cd) r (dRow m k) 999999999 (999999999 * k) (by rw [hrl]; exact HRD.out.later hb) (by rw [dRow_len, HNM.out]; exact HD.out.later hb) (by rw [hrl, dRow_len, HNM.out]; omega) hrb hdb (by omega) (by omega) (by omega))
          have hk1 : (k : Int) < (k : Int) + 1 := by omega
          have hk2 : k < k + 1 := by omega
          have HS := Lib.hid S
          have l1 := World.block_lt_of_cell? wr _ k1
          have l2 := World.block_lt_of_cell? wr _ k2
          generalize timesR r (dRow m k) = tv at *
          clear hx hr hrd hrl hrb t1 t2 hx3 hd hdb hjm S
          go_wp2_with fail
          refine wp_pre_tail 1 8 (fun w' => Below wr.heap.size wr w') (by kernel_rfl) (by kernel_rfl) (Below.refl _ _).drew ?_
          simp only [List.take_succ_cons, List.take_zero, List.drop_succ_cons, List.drop_zero, Nat.reduceSub]
          have hK2 : ∀ w w' : World, Below wr.heap.size wr w → Below w.heap.size w w' → Below wr.heap.size wr w' := fun w w' h h' => h.trans (h'.mono h.size)
          generalize hK : (fun w' => Below wr.heap.size wr w') = K
          intro hne
          have kb : ∀ y : Wd K, Below wr.heap.size wr y.w := by subst hK; exact fun y => y.h
          have hK3 : ∀ w w' : World, K w → Below w.heap.size w w' → K w' := by subst hK; exact hK2
          have y2 : ∀ y : Wd K, y.w.cell? ⟨b3, o3 + k, none⟩ = some (.slice Ad n cd) := fun y => ((kb y).cell (p := ⟨b3, o3 + k, none⟩) l2).trans k2
          clear hK hK2
          change wpQuiet _ _ _ _ (_ :: []) _
          go_big_quiet_step ((fail))
          refine wpQuiet_nil ?_
          repeat (go_big_quiet_step ((first | (go_at_call 110; exact cls_below hK3 (plus_any _)) | (go_at_call 111; exact cls_below hK3 (HTT.out _ (kb _))))))
          refine wpQuiet_nil ?_
          intro y
          have S1 := HS.out.ext (kb y)
          clear y2 kb hK3 hne k1 k2 l1 l2
          generalize y.w = w4 at *
          go_wp2_with (at_builtin; refine wpList_append_st eltI rfl _ _ rfl rfl (S1.alloc _) (k := 0) rfl rfl (rd_one (by simp)) (one_int _ _) (by omega) (by omega) ?_; intro v' w' S' _)
          refine NoPanic.normal ?_
          have S5 : St W w' ([row 3 1 v' (j + 1) (ints (((m.take j).map fun r => timesR r (dRow m k)) ++ [tv]))] ++ ([row 33 1 (.slice (some ⟨b3, o3, none⟩) (k + 1) c3) (k + 1) vs] ++ ownT 3 vs (walksT m (k + 1)))) := by
            simpa [ints] using S'
          have HS5 := Lib.hid S5
          clear S1 S' S5
          go_wp2
          go_roundw
          case rel => exact ⟨j + 1, by omega, by go_num, by rw [HG.out]; exact HS5.out⟩
          case measure => simp [intOf]; omega
        · have hjb : decide ((j : Int) < n) = false := by simp; omega
          obtain rfl : j = n := by omega
          rw [List.take_of_length_le (Nat.le_of_eq HNM.out)] at S
          obtain ⟨A5, c5, rfl, _, _, _⟩ := (S.row_rd (i := 0) rfl).open_
          have HS := Lib.hid S
          clear S
          go_wp2_with (at_builtin; refine wpList_append_st eltL rfl _ _ rfl rfl (HS.out.alloc _) (k := 1) rfl rfl (rd_one (by simp)) one_slice (by omega) (by omega) ?_; intro v' w' S' _)
          have S6 : St W w' ([row 33 1 v' (k + 1 + 1) (vs ++ [.slice A5 j c5])] ++ ownT 3 (vs ++ [.slice A5 j c5]) (walksT m (k + 1 + 1))) := by
            rw [walksT_succ m (k + 1), ownT_snoc (by rw [HV.out, walksT_len]), dRow_len, HNM.out, dRow, stepD]
            exact S'.perm (L' := [row 33 1 v' (k + 1 + 1) (vs ++ [.slice A5 j c5])] ++ (ownT 3 vs (walksT m (k + 1)) ++ [row 3 1 (.slice A5 j c5) j (ints (m.map fun r => timesR r (dRow m k)))])) (List.Perm.trans (List.Perm.swap _ _ _) (.cons _ (List.perm_append_comm (l₁ := [_]))))
          have HS6 := Lib.hid S6
          clear S' S6
          go_roundw
          case rel => exact ⟨k + 1, _, by omega, by go_num, by show _ = _; simp [HV.out], HS6.out⟩
          case measure => simp [intOf]; omega
    · have hkb : decide ((k : Int) < n) = false := by simp; omega
      obtain rfl : k = n := by omega
      have HR := Lib.hid (ownT_rows S (k := 0) rfl (by rw [HV.out, walksT_len]))
      have HBF := Lib.hid S.bel
      clear S
      go_wp2
      go_ret
      exact ⟨_, rfl, HBF.out, HR.out⟩
end Go.Proofs.YtjfhncnpmelopaaGreatDoor
/- Walks: greatest. -/
namespace Go.Sheet
open Go.RowKit Go.Mem
theorem rd_at2 {w : World} {S : Nat → Prop} {n i j N c : Nat} {A : Option Addr} {T : IMat} {x : Int} (h : RdRows w S (.slice A N c) T) (hl : ∀ r ∈ T, r.length = n) (hi : i < T.length) (hj : j < n) (hx : at2 T i j = x) :
    ∃ b o b' o' c', A = some ⟨b, o, none⟩ ∧ w.cell? ⟨b, o + i, none⟩ = some (.slice (some ⟨b', o', none⟩) n c') ∧ n ≤ c' ∧ w.cell? ⟨b', o' + j, none⟩ = some (.int .i64 x) := by
  have hr : T[i]? = some T[i] := List.getElem?_eq_getElem hi
  obtain ⟨b, o, b', o', c', m, h1, h2, h3, h4, h5⟩ := rows_at h hr (hl _ (List.getElem_mem hi)) hj
  refine ⟨b, o, b', o', c', h1, h2, h3, ?_⟩
  have : at2 T i j = m := by rw [at2, show T.getD i [] = T[i] by rw [List.getD_eq_getElem?_getD, hr, Option.getD_some], List.getD_eq_getElem?_getD, h4, Option.getD_some]
  rw [h5, ← this, hx]
theorem at2_walks {m : IMat} {k i j : Nat} (h : i < k) : at2 (walksT m k) i j = (dRow m i).getD j 0 := by
  rw [at2, show (walksT m k).getD i [] = dRow m i by rw [List.getD_eq_getElem?_getD, walksT_at h, Option.getD_some]]
theorem at2_walks_bd {n k i j : Nat} {b : Int} {m : IMat} (h : SqOk n b m) (hb : 0 ≤ b) (hb2 : b ≤ 30000000000) (hi : i < k) (hi2 : i ≤ 30) (hj : j < n) : XB (b * i) (at2 (walksT m k) i j) := by
  rw [at2_walks hi]
  have hl : j < (dRow m i).length := by rw [dRow_len, h.n_eq]; exact hj
  rw [List.getD_eq_getElem?_getD, List.getElem?_eq_getElem hl, Option.getD_some]
  exact dRow_bd h hb hb2 i hi2 _ (List.getElem_mem hl)
theorem karpIn_step {d : IMat} {n v k : Nat} {s t : Int × Int} (hk : k < n) (h : karpIn d n v (List.range' k (n - k)) s = t) :
    karpIn d n v (List.range' (k + 1) (n - (k + 1))) (if at2 d k v ≠ noth ∧ (at2 d n v - at2 d k v) * s.2 < s.1 * ((n : Int) - k) then (at2 d n v - at2 d k v, (n : Int) - k) else s) = t := by
  rw [← h, show n - k = (n - (k + 1)) + 1 by omega, List.range'_succ, karpIn]
theorem karpF_step {d : IMat} {n k : Nat} {b : Best3} {t : Best3} (hk : k < n) (h : karpF d n (List.range' k (n - k)) b = t) :
    karpF d n (List.range' (k + 1) (n - (k + 1))) (if at2 d n k = noth then b else karpUp b (karpV d n k)) = t := by
  rw [← h, show n - k = (n - (k + 1)) + 1 by omega, List.range'_succ, karpF]
theorem mul_bd {a b A B : Int} (ha : -A ≤ a ∧ a ≤ A) (hb : 0 ≤ b ∧ b ≤ B) : -(A * B) ≤ a * b ∧ a * b ≤ A * B := by
  rcases Int.le_total 0 a with h | h
  · have h1 := Int.mul_le_mul ha.2 hb.2 hb.1 (by omega)
    have h2 := Int.mul_nonneg h hb.1
    omega
  · have h1 := Int.mul_le_mul (show -a ≤ A by omega) hb.2 hb.1 (by omega)
    have h2 := Int.mul_nonneg (show 0 ≤ -a by omega) hb.1
    rw [Int.neg_mul] at h1 h2
    omega
end Go.Sheet
namespace Go.Proofs.YtjfhncnpmelopaaGreatDoor
open Go.RowKit Go.Mem Go.Sheet
set_option maxRecDepth 100000 in
set_option maxHeartbeats 2000000 in
theorem greatest_any (W : World) (v : Value) (m : IMat) (n : Nat) (h : RdRows W (· < W.heap.size) v m) (hm : SqOk n 999999999 m) (hn : n ≤ 24) :
    Calls Tryz.prog 108 #[v] W fun e w' => e = .returned (.tuple #[.int .i64 (greatestF m).num, .int .i64 (greatestF m).den, .bool (greatestF m).found]) ∧ Below W.heap.size W w' := by
  have HWK := Lib.hid (walks_any W v m n h hm hn)
  have HH := Lib.hid h
  obtain ⟨vs0, h1, h2⟩ := h
  have HNM := Lib.hid hm.n_eq
  rw [hm.n_eq] at h1
  obtain ⟨A, c, rfl, _, _, _⟩ := h1.open_
  have HM := Lib.hid hm
  clear h1 h2 hm
  go_enter Tryz.func108, Tryz.ntmps108
  go_wp2_with fail
  refine HWK.out.mono ?_
  rintro e w2 ⟨v2, rfl, hb2, hr2⟩
  clear HWK
  have HR := Lib.hid hr2
  have HB2 := Lib.hid hb2
  obtain ⟨vs2, t1, t2⟩ := hr2
  rw [walksT_len] at t1
  obtain ⟨A2, c2, rfl, _, _, _⟩ := t1.open_
  obtain ⟨b2, o2, _, hA, _⟩ := t1.val (k := 0) (by omega)
  subst hA
  have hlen : ∀ r ∈ walksT m (n + 1), r.length = n := by
    intro r hr
    obtain ⟨i, _, rfl⟩ := List.mem_map.1 hr
    rw [dRow_len, HNM.out]
  have HL := Lib.hid hlen
  have HBD := Lib.hid (fun (i j : Nat) (hi : i < n + 1) (hj : j < n) => at2_walks_bd (k := n + 1) HM.out (by omega) (by omega) hi (by omega) hj)
  have HTL := Lib.hid (walksT_len m (n + 1))
  have HZ : Hid (∀ j, j < n → at2 (walksT m (n + 1)) 0 j = 0) := fun j hj => by
    rw [at2_walks (by omega), dRow, List.getD_eq_getElem?_getD, List.getElem?_replicate, HNM.out, if_pos hj]; rfl
  have HG : Hid (greatestF m = karpF (walksT m (n + 1)) n (List.range' 0 (n - 0)) ⟨0, 1, false⟩) := by
    show _ = _
    rw [greatestF, HNM.out, Nat.sub_zero, List.range_eq_range']
  generalize walksT m (n + 1) = T at *
  generalize hGG : greatestF m = GF at *
  have HGG := Lib.hid hGG
  clear hGG
  clear t1 t2 hlen hb2
  go_wp2_with fail
  go_loopw [19, 7, 8, 9] (fun i vn vd vf w' => ∃ (k : Nat) (b : Best3), k ≤ n ∧ i = .int .i64 k ∧ vn = .int .i64 b.num ∧ vd = .int .i64 b.den ∧ vf = .bool b.found ∧ Below w2.heap.size w2 w' ∧ (-50000000000 ≤ b.num ∧ b.num ≤ 50000000000) ∧ (1 ≤ b.den ∧ b.den ≤ 24) ∧
    Hid (karpF T n (List.range' k (n - k)) b = GF)) (fun i _ _ _ _ => n - (intOf i).toNat)
  case atStart => exact ⟨0, ⟨0, 1, false⟩, Nat.zero_le _, rfl, rfl, rfl, rfl, Below.refl _ _, by dsimp only; omega, by dsimp only; omega, HG.out.symm⟩
  case round =>
    obtain ⟨k, ⟨num, den, found⟩, hk, rfl, rfl, rfl, rfl, hb, hnum, hden, he⟩ := hrel
    dsimp only at hnum hden
    by_cases hlt : k < n
    · obtain ⟨dn, hdn⟩ : ∃ x, at2 T n k = x := ⟨_, rfl⟩
      obtain ⟨b1, o1, b1', o1', c1', hA, k1, hc1, k2⟩ := rd_at2 (HR.out.later hb) HL.out (i := n) (j := k) (by rw [HTL.out]; omega) hlt hdn
      cases hA
      have hbdn := HBD.out n k (by omega) hlt
      rw [hdn] at hbdn
      have HSTEP := Lib.hid (karpF_step hlt he.out)
      have hnn1 : (n : Int) < (n : Int) + 1 := by omega
      have HDN := Lib.hid hdn
      clear hdn
      by_cases h0 : dn = noth
      · have h0b : (dn == -1125899906842624) = true := by rw [h0]; rfl
        have HN2 : Hid (karpF T n (List.range' (k + 1) (n - (k + 1))) ⟨num, den, found⟩ = GF) := by
          have := HSTEP.out
          rw [if_pos (by rw [HDN.out, h0])] at this
          exact this
        clear h0 hbdn
        go_wp2
        go_roundw
        case rel => exact ⟨k + 1, ⟨num, den, found⟩, by omega, by go_num, rfl, rfl, rfl, hb, hnum, hden, HN2.out⟩
        case measure => simp [intOf]; omega
      · have h0b : (dn == -1125899906842624) = false := by
          simp only [beq_eq_false_iff_ne, ne_eq]; exact h0
        have hdnb : -23999999976 ≤ dn ∧ dn ≤ 23999999976 := by
          rcases hbdn with h | h
          · exact absurd h h0
          · have : 999999999 * (n : Int) ≤ 23999999976 := by omega
            omega
        have HN2 : Hid (karpF T n (List.range' (k + 1) (n - (k + 1))) (karpUp ⟨num, den, found⟩ (karpV T n k)) = GF) := by
          have := HSTEP.out
          rw [if_neg (by rw [HDN.out]; exact h0)] at this
          exact this
        obtain ⟨b0, o0, b0', o0', c0', hA, e1, hc0, e2⟩ := rd_at2 (HR.out.later hb) HL.out (i := 0) (j := k) (by rw [HTL.out]; omega) hlt (HZ.out k hlt)
        cases hA
        rw [Nat.add_zero] at e1
        have HKV : Hid (karpIn T n k (List.range' 1 (n - 1)) (dn, n) = karpV T n k) := by
          show _ = _
          rw [karpV, HDN.out, HZ.out k hlt, Int.sub_zero]
        clear h0 hbdn HSTEP
        go_wp2_with fail
        go_quiet (fail)
        have hb3 := below_drewN hb nq
        clear k1 k2 e1 e2 hb
        generalize wr.drewN nq = w3 at *
        go_wp2_with fail
        go_loopw [13, 11, 12] (fun i vp vq w' => ∃ (j : Nat) (p q : Int), 1 ≤ j ∧ j ≤ n ∧ i = .int .i64 j ∧ vp = .int .i64 p ∧ vq = .int .i64 q ∧ Below w2.heap.size w2 w' ∧ (-50000000000 ≤ p ∧ p ≤ 50000000000) ∧ (1 ≤ q ∧ q ≤ n) ∧
          Hid (karpIn T n k (List.range' j (n - j)) (p, q) = karpV T n k)) (fun i _ _ _ => n - (intOf i).toNat)
        case atStart => exact ⟨1, dn, n, Nat.le_refl _, by omega, rfl, rfl, rfl, hb3, by omega, by omega, HKV.out⟩
        case round =>
          obtain ⟨j, p, q, hj1, hj, rfl, rfl, rfl, hb, hp, hq, hE⟩ := hrel
          clear HKV hb3
          by_cases hjl : j < n
          · obtain ⟨dk, hdk⟩ : ∃ x, at2 T j k = x := ⟨_, rfl⟩
            obtain ⟨b1, o1, b1', o1', c1', hA, k1, hc1, k2⟩ := rd_at2 (HR.out.later hb) HL.out (i := n) (j := k) (by rw [HTL.out]; omega) hlt HDN.out
            cases hA
            obtain ⟨b3, o3, b3', o3', c3', hA, k3, hc3, k4⟩ := rd_at2 (HR.out.later hb) HL.out (i := j) (j := k) (by rw [HTL.out]; omega) hlt hdk
            cases hA
            have hbdk := HBD.out j k (by omega) hlt
            rw [hdk] at hbdk
            have HS2 := Lib.hid (karpIn_step hjl hE.out)
            have hjn1 : (j : Int) < (n : Int) + 1 := by omega
            have HDK := Lib.hid hdk
            clear hdk
            by_cases h1 : dk = noth
            · have h1b : (dk != -1125899906842624) = false := by rw [h1]; rfl
              have HN3 : Hid (karpIn T n k (List.range' (j + 1) (n - (j + 1))) (p, q) = karpV T n k) := by
                have := HS2.out
                rw [if_neg (by rw [HDK.out]; exact fun h => h.1 h1)] at this
                exact this
              clear h1 hbdk HS2
              go_wp2_with fail
              go_quiet (fail)
              go_wp2
              go_roundw
              case rel => exact ⟨j + 1, p, q, by omega, by omega, by go_num, rfl, rfl, below_drewN hb _, hp, hq, HN3.out⟩
              case measure => simp [intOf]; omega
            · have h1b : (dk != -1125899906842624) = true := by simp only [bne_iff_ne, ne_eq]; exact h1
              have hdkb : -23999999976 ≤ dk ∧ dk ≤ 23999999976 := by
                rcases hbdk with h | h
                · exact absurd h h1
                · have : 999999999 * (j : Int) ≤ 23999999976 := by omega
                  omega
              have HS3 : Hid (karpIn T n k (List.range' (j + 1) (n - (j + 1))) (if (dn - dk) * q < p * ((n : Int) - j) then (dn - dk, (n : Int) - j) else (p, q)) = karpV T n k) := by
                have := HS2.out
                rw [HDN.out, HDK.out] at this
                by_cases hc : (dn - dk) * q < p * ((n : Int) - j)
                · rw [if_pos ⟨h1, hc⟩] at this; show _ = _; rw [if_pos hc]; exact this
                · rw [if_neg (fun h => hc h.2)] at this; show _ = _; rw [if_neg hc]; exact this
              have hm1 := mul_bd (a := dn - dk) (b := q) (A := 50000000000) (B := 24) (by omega) (by omega)
              have hm2 := mul_bd (a := p) (b := (n : Int) - j) (A := 50000000000) (B := 24) (by omega) (by omega)
              have hw1 : IntKind.i64.wrap (dn - dk) = dn - dk := IntWalk.i64_in _ (by omega)
              have hw2 : IntKind.i64.wrap ((dn - dk) * q) = (dn - dk) * q := IntWalk.i64_in _ (by omega)
              have hw3 : IntKind.i64.wrap ((n : Int) - j) = (n : Int) - j := IntWalk.i64_in _ (by omega)
              have hw4 : IntKind.i64.wrap (p * ((n : Int) - j)) = p * ((n : Int) - j) := IntWalk.i64_in _ (by omega)
              have hdd : -50000000000 ≤ dn - dk ∧ dn - dk ≤ 50000000000 := by omega
              have hnj : 1 ≤ (n : Int) - j ∧ (n : Int) - j ≤ n := by omega
              clear h1 hbdk HS2 hm1 hm2
              generalize hlhs : (dn - dk) * q = lhs at *
              generalize hrhs : p * ((n : Int) - j) = rhs at *
              by_cases hc : lhs < rhs
              · have hcb : decide (lhs < rhs) = true := by simpa using hc
                have HN3 : Hid (karpIn T n k (List.range' (j + 1) (n - (j + 1))) (dn - dk, (n : Int) - j) = karpV T n k) := by
                  have := HS3.out
                  rw [if_pos hc] at this
                  exact this
                clear hc HS3
                go_wp2_with fail
                go_quiet (fail)
                go_wp2_with fail
                go_quiet (fail)
                go_wp2
                go_roundw
                case rel => exact ⟨j + 1, dn - dk, (n : Int) - j, by omega, by omega, by go_num, rfl, rfl, below_drewN hb _, hdd, hnj, HN3.out⟩
                case measure => simp [intOf]; omega
              · have hcb : decide (lhs < rhs) = false := by simpa using hc
                have HN3 : Hid (karpIn T n k (List.range' (j + 1) (n - (j + 1))) (p, q) = karpV T n k) := by
                  have := HS3.out
                  rw [if_neg hc] at this
                  exact this
                clear hc HS3
                go_wp2_with fail
                go_quiet (fail)
                go_wp2
                go_roundw
                case rel => exact ⟨j + 1, p, q, by omega, by omega, by go_num, rfl, rfl, below_drewN hb _, hp, hq, HN3.out⟩
                case measure => simp [intOf]; omega
          · have hjb : decide ((j : Int) < n) = false := by simp; omega
            have hjb2 : decide (j < n) = false := by simp; omega
            have hjn : j = n := by omega
            have hpq : (p, q) = karpV T n k := by
              have := hE.out
              rwa [show n - j = 0 by omega, List.range'_zero, karpIn] at this
            have HN4 := HN2.out
            rw [← hpq] at HN4
            have HUP := Lib.hid HN4
            have hq24 : 1 ≤ q ∧ q ≤ 24 := by omega
            have hm1 := mul_bd (a := p) (b := den) (A := 50000000000) (B := 24) (by omega) (by omega)
            have hm2 := mul_bd (a := num) (b := q) (A := 50000000000) (B := 24) (by omega) (by omega)
            have hw1 : IntKind.i64.wrap (p * den) = p * den := IntWalk.i64_in _ (by omega)
            have hw2 : IntKind.i64.wrap (num * q) = num * q := IntWalk.i64_in _ (by omega)
            clear hpq HN4 hE hjn hm1 hm2
            cases found with
            | false =>
              have HUQ : Hid (karpF T n (List.range' (k + 1) (n - (k + 1))) ⟨p, q, true⟩ = GF) := by
                have := HUP.out
                rw [karpUp, if_pos (.inl rfl)] at this
                exact this
              go_wp2
              go_roundw
              case rel => exact ⟨k + 1, ⟨p, q, true⟩, by omega, by go_num, rfl, rfl, rfl, hb, hp, hq24, HUQ.out⟩
              case measure => simp [intOf]; omega
            | true =>
              by_cases hc : num * q < p * den
              · have HUQ : Hid (karpF T n (List.range' (k + 1) (n - (k + 1))) ⟨p, q, true⟩ = GF) := by
                  have := HUP.out
                  rw [karpUp, if_pos (.inr hc)] at this
                  exact this
                have hcb : decide (num * q < p * den) = true := by simpa using hc
                generalize hlhs : num * q = lhs at *
                generalize hrhs : p * den = rhs at *
                clear hc
                go_wp2
                go_roundw
                case rel => exact ⟨k + 1, ⟨p, q, true⟩, by omega, by go_num, rfl, rfl, rfl, hb, hp, hq24, HUQ.out⟩
                case measure => simp [intOf]; omega
              · have HUQ : Hid (karpF T n (List.range' (k + 1) (n - (k + 1))) ⟨num, den, true⟩ = GF) := by
                  have := HUP.out
                  rw [karpUp, if_neg (by simpa using hc)] at this
                  exact this
                have hcb : decide (num * q < p * den) = false := by simpa using hc
                generalize hlhs : num * q = lhs at *
                generalize hrhs : p * den = rhs at *
                clear hc
                go_wp2
                go_roundw
                case rel => exact ⟨k + 1, ⟨num, den, true⟩, by omega, by go_num, rfl, rfl, rfl, hb, hnum, hden, HUQ.out⟩
                case measure => simp [intOf]; omega
    · have hkb : decide ((k : Int) < n) = false := by simp; omega
      have hGF : GF = ⟨num, den, found⟩ := by
        have := he.out
        rw [show n - k = 0 by omega, List.range'_zero, karpF] at this
        exact this.symm
      have HGF := Lib.hid hGF
      clear hGF
      have HBF := Lib.hid (HB2.out.trans (hb.mono HB2.out.size))
      go_wp2
      go_ret3
      rw [HGG.out, HGF.out]
      exact ⟨rfl, HBF.out⟩
end Go.Proofs.YtjfhncnpmelopaaGreatDoor
/- A tight cycle (a search in depth) as plain functions. -/
namespace Go.Sheet
structure TS where
  st : List Int
  way : List Int
  out : List Int
def tLoop (rec : Nat → TS → TS × Bool) (top : List Int) (i : Nat) : Nat → List Int → TS → TS × Bool
  | _, [], s => (⟨s.st.set i 2, s.way.dropLast, s.out⟩, false)
  | k, x :: row, s =>
    if x = noth ∨ top.getD k 0 + x ≠ top.getD i 0 then tLoop rec top i (k + 1) row s
    else if s.st.getD k 0 = 1 then (⟨s.st, s.way, s.way.drop (idxF (fun y => (k : Int) == y) 0 s.way).toNat⟩, true)
    else if s.st.getD k 0 = 0 then (if (rec k s).2 then rec k s else tLoop rec top i (k + 1) row (rec k s).1)
    else tLoop rec top i (k + 1) row s
def tWalk (m : IMat) (top : List Int) : Nat → Nat → TS → TS × Bool
  | 0, _, s => (s, false)
  | f + 1, i, s => tLoop (tWalk m top f) top i 0 (m.getD i []) ⟨s.st.set i 1, s.way ++ [(i : Int)], s.out⟩
def tOuter (m : IMat) (top : List Int) : List Nat → TS → TS
  | [], s => s
  | i :: is, s => if s.st.getD i 0 = 0 then (if (tWalk m top 24 i s).2 then (tWalk m top 24 i s).1 else tOuter m top is (tWalk m top 24 i s).1) else tOuter m top is s
def tight0 : TS := ⟨List.replicate 24 0, [], []⟩
def tightF (m : IMat) (top : List Int) : List Int := (tOuter m top (List.range m.length) tight0).out.reverse
/-- how many rows nobody came to -/
def zeros (l : List Int) : Nat := (l.filter (· == 0)).length
theorem zeros_set {l : List Int} : ∀ {i : Nat} {x : Int}, i < l.length → l.getD i 0 = 0 → x ≠ 0 → zeros (l.set i x) + 1 = zeros l := by
  induction l with
  | nil => intro i x h; simp at h
  | cons y l ih =>
    intro i x h h0 hx
    cases i with
    | zero =>
      simp at h0
      subst h0
      simp [zeros, hx]
    | succ i =>
      have := ih (i := i) (x := x) (by simpa using h) (by simpa using h0) hx
      unfold zeros at this ⊢
      rw [List.set_cons_succ, List.filter_cons, List.filter_cons]
      split <;> (try simp only [List.length_cons]) <;> omega
theorem zeros_set_le {l : List Int} : ∀ {i : Nat} {x : Int}, x ≠ 0 → zeros (l.set i x) ≤ zeros l := by
  induction l with
  | nil => intro i x h; simp
  | cons y l ih =>
    intro i x hx
    cases i with
    | zero =>
      simp only [zeros, List.set_cons_zero, List.filter_cons]
      rw [if_neg (by simpa using hx)]
      split <;> simp
    | succ i =>
      have := ih (i := i) hx
      unfold zeros at this ⊢
      rw [List.set_cons_succ, List.filter_cons, List.filter_cons]
      split <;> (try simp only [List.length_cons]) <;> omega
/-- what holds between the steps -/
structure TInv (s : TS) : Prop where
  len : s.st.length = 24
  one : ∀ k : Nat, s.st.getD k 0 = 1 → (k : Int) ∈ s.way
  cnt : s.way.length + zeros s.st ≤ 24
theorem getD_setT {l : List Int} {i j : Nat} {x : Int} : (l.set i x).getD j 0 = if i = j ∧ i < l.length then x else l.getD j 0 := by
  rw [List.getD_eq_getElem?_getD, List.getD_eq_getElem?_getD, List.getElem?_set]
  by_cases e : i = j
  · subst e
    by_cases h : i < l.length
    · simp [h]
    · simp [h]
  · simp [e]
theorem TInv.push {s : TS} {i : Nat} (h : TInv s) (hi : i < 24) (h0 : s.st.getD i 0 = 0) : TInv ⟨s.st.set i 1, s.way ++ [(i : Int)], s.out⟩ := by
  refine ⟨by simp [h.len], fun k hk => ?_, ?_⟩
  · rw [getD_setT] at hk
    by_cases e : i = k
    · subst e; simp
    · rw [if_neg (fun h => e h.1)] at hk
      exact List.mem_append_left _ (h.one k hk)
  · have := zeros_set (l := s.st) (x := 1) (by rw [h.len]; exact hi) h0 (by decide)
    have := h.cnt
    simp only [List.length_append, List.length_cons, List.length_nil]
    omega
theorem TInv.pop {s : TS} {i : Nat} {w : List Int} (h : TInv s) (hi : i < 24) (hw : s.way = w ++ [(i : Int)]) : TInv ⟨s.st.set i 2, s.way.dropLast, s.out⟩ := by
  refine ⟨by simp [h.len], fun k hk => ?_, ?_⟩
  · rw [getD_setT] at hk
    by_cases e : i = k
    · subst e
      rw [if_pos ⟨rfl, by rw [h.len]; exact hi⟩] at hk
      cases hk
    · rw [if_neg (fun h => e h.1)] at hk
      have := h.one k hk
      rw [hw] at this ⊢
      simp only [List.dropLast_concat, List.mem_append, List.mem_singleton] at this ⊢
      rcases this with h | h
      · exact h
      · omega
  · have h1 := zeros_set_le (l := s.st) (i := i) (x := 2) (by decide)
    have h2 := h.cnt
    simp only [List.length_dropLast]
    omega
/-- what a search that finds nothing leaves -/
def Leaves (s s' : TS) : Prop := TInv s' ∧ s'.way = s.way ∧ zeros s'.st ≤ zeros s.st ∧ ∀ k : Nat, s.st.getD k 0 ≠ 0 → s'.st.getD k 0 ≠ 0
theorem tLoop_inv {rec : Nat → TS → TS × Bool} {top : List Int} {i f : Nat} {w : List Int} (hi : i < 24)
    (hrec : ∀ (k : Nat) (s : TS), k < 24 → TInv s → zeros s.st ≤ f → s.st.getD k 0 = 0 → (rec k s).2 = false → Leaves s (rec k s).1) :
    ∀ (row : List Int) (k : Nat) (s : TS), k + row.length ≤ 24 → TInv s → zeros s.st ≤ f → s.way = w ++ [(i : Int)] → (tLoop rec top i k row s).2 = false →
      TInv (tLoop rec top i k row s).1 ∧ (tLoop rec top i k row s).1.way = w ∧ zeros (tLoop rec top i k row s).1.st ≤ zeros s.st ∧ ∀ k' : Nat, s.st.getD k' 0 ≠ 0 → (tLoop rec top i k row s).1.st.getD k' 0 ≠ 0
  | [], k, s, _, h, hz, hw, hf => by
    simp only [tLoop]
    refine ⟨h.pop hi hw, by rw [hw, List.dropLast_concat], zeros_set_le (by decide), fun k' hk' => ?_⟩
    rw [getD_setT]
    split
    · decide
    · exact hk'
  | x :: row, k, s, hk, h, hz, hw, hf => by
    simp only [List.length_cons] at hk
    rw [tLoop] at hf ⊢
    split
    · rename_i hc
      rw [if_pos hc] at hf
      exact tLoop_inv hi hrec row (k + 1) s (by omega) h hz hw hf
    · rename_i hc
      rw [if_neg hc] at hf
      split
      · rename_i h1
        rw [if_pos h1] at hf
        cases hf
      · rename_i h1
        rw [if_neg h1] at hf
        split
        · rename_i h0
          rw [if_pos h0] at hf
          split
          · rename_i hr
            rw [if_pos hr] at hf
            rw [hr] at hf; cases hf
          · rename_i hr
            rw [if_neg hr] at hf
            obtain ⟨g1, g2, g3, g4⟩ := hrec k s (by omega) h hz h0 (by simpa using hr)
            obtain ⟨e1, e2, e3, e4⟩ := tLoop_inv hi hrec row (k + 1) _ (by omega) g1 (by omega) (g2.trans hw) hf
            exact ⟨e1, e2, by omega, fun k' hk' => e4 k' (g4 k' hk')⟩
        · rename_i h0
          rw [if_neg h0] at hf
          exact tLoop_inv hi hrec row (k + 1) s (by omega) h hz hw hf
theorem tWalk_inv {m : IMat} {top : List Int} (hm : ∀ r ∈ m, r.length ≤ 24) : ∀ (f i : Nat) (s : TS), i < 24 → TInv s → zeros s.st ≤ f → s.st.getD i 0 = 0 → (tWalk m top f i s).2 = false → Leaves s (tWalk m top f i s).1
  | 0, i, s, hi, h, hz, h0, _ => by
    have := zeros_set (l := s.st) (x := 1) (by rw [h.len]; exact hi) h0 (by decide)
    omega
  | f + 1, i, s, hi, h, hz, h0, hf => by
    have hz1 := zeros_set (l := s.st) (x := 1) (by rw [h.len]; exact hi) h0 (by decide)
    have hl : (m.getD i []).length ≤ 24 := by
      rw [List.getD_eq_getElem?_getD]
      cases hr : m[i]? with
      | none => simp
      | some r => exact hm r (List.mem_of_getElem? hr)
    rw [tWalk] at hf ⊢
    obtain ⟨e1, e2, e3, e4⟩ := tLoop_inv (w := s.way) hi (fun k s hk => tWalk_inv hm f k s hk) (m.getD i []) 0 _ (by omega) (h.push hi h0) (by show zeros (s.st.set i 1) ≤ f; omega) rfl hf
    refine ⟨e1, e2, ?_, fun k hk => e4 k ?_⟩
    · have : zeros (s.st.set i 1) ≤ zeros s.st := by omega
      exact Nat.le_trans e3 this
    · show (s.st.set i 1).getD k 0 ≠ 0
      rw [getD_setT]
      split
      · decide
      · exact hk
theorem tight0_inv : TInv tight0 := by
  refine ⟨rfl, fun k hk => ?_, by decide⟩
  rw [tight0, List.getD_eq_getElem?_getD, List.getElem?_replicate] at hk
  by_cases h : k < 24
  · rw [if_pos h] at hk; cases hk
  · rw [if_neg h] at hk; cases hk
end Go.Sheet
