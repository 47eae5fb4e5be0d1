/- Part 17 of the walks of the golf union's program: DB1. -/
import Derived.Test.YtkkkfjinflepmaaGreatDoorB16
set_option linter.unusedVariables false
set_option linter.unusedSimpArgs false
set_option linter.unusedSectionVars false
set_option linter.constructorNameAsVariable false
/- Chapter 7: the bracket of n seeds. -/
namespace Go.Proofs.YtkkkfjinflepmaaGreatDoor
open Go.RowKit Go.Mem Go.Sheet Go.Adj
def brP (z : Int) (l : List Int) : List Int := l.flatMap fun s => [s, z - s]
theorem brP_S (l : List Int) : brP (2 * (l.length : Int) + 1) l = brS l := rfl
theorem brP_take {z : Int} {l : List Int} {j : Nat} {x : Int} (h : l[j]? = some x) : brP z (l.take (j + 1)) = brP z (l.take j) ++ [x, z - x] := by
  unfold brP
  rw [List.take_add_one, h, List.flatMap_append]
  simp
theorem brP_len (z : Int) (l : List Int) : (brP z l).length = l.length * 2 := by
  unfold brP
  induction l with
  | nil => rfl
  | cons x l ih => simp only [List.flatMap_cons, List.length_append, List.length_cons, List.length_nil, ih]; omega
/-- what stands in a bracket under way -/
def BrOk (l : List Int) : Prop := 1 ≤ l.length ∧ l.length ≤ 400 ∧ ∀ s ∈ l, 1 ≤ s ∧ s ≤ l.length
theorem BrOk.step {l : List Int} {n : Nat} (h : BrOk l) (hl : l.length < n) (hn : n ≤ 200) : BrOk (brS l) := by
  obtain ⟨h1, h2, h3⟩ := h
  refine ⟨by rw [brS_len]; omega, by rw [brS_len]; omega, fun s hs => ?_⟩
  rw [brS_len]
  unfold brS at hs
  obtain ⟨t, ht, hs⟩ := List.mem_flatMap.1 hs
  have := h3 t ht
  simp only [List.mem_cons, List.not_mem_nil, or_false] at hs
  rcases hs with rfl | rfl <;> constructor <;> push_cast <;> omega
def lenOf : Value → Nat
  | .slice _ m _ => m
  | _ => 0
def zerF (n : Nat) (s : Int) : Int := if (n : Int) < s then 0 else s
def mixZ (n : Nat) (l : List Int) (j : Nat) : List Int := (l.take j).map (zerF n) ++ l.drop j
theorem mixZ_at {n : Nat} {l : List Int} {j : Nat} {x : Int} (h : l[j]? = some x) : (mixZ n l j)[j]? = some x := by
  unfold mixZ
  have := (List.getElem?_eq_some_iff.1 h).1
  rw [List.getElem?_append_right (by simp; omega), List.length_map, List.length_take, Nat.min_eq_left (by omega), Nat.sub_self, List.getElem?_drop]
  exact h
theorem mixZ_set {n : Nat} {l : List Int} {j : Nat} {x : Int} (h : l[j]? = some x) : (mixZ n l j).set j (zerF n x) = mixZ n l (j + 1) := by
  have hj := (List.getElem?_eq_some_iff.1 h).1
  unfold mixZ
  rw [List.set_append_right _ _ (by simp; omega), List.length_map, List.length_take, Nat.min_eq_left (by omega), Nat.sub_self, List.take_add_one, h, List.map_append, List.append_assoc]
  congr 1
  rw [List.drop_eq_getElem_cons hj, List.set_cons_zero]
  rfl
theorem mixZ_same {n : Nat} {l : List Int} {j : Nat} {x : Int} (h : l[j]? = some x) (hx : zerF n x = x) : mixZ n l (j + 1) = mixZ n l j := by
  rw [← mixZ_set h, hx]
  have hm := mixZ_at (n := n) h
  apply List.ext_getElem?
  intro i
  rw [List.getElem?_set]
  split
  · rename_i e
    subst e
    rw [if_pos (List.getElem?_eq_some_iff.1 hm).1, hm]
  · rfl
set_option maxRecDepth 100000 in
set_option maxHeartbeats 4000000 in
theorem bracket_any (W : World) (n : Nat) (hn : n ≤ 200) :
    Calls Tryz.prog 50 #[.int .i64 n] W fun e w' => ∃ v', e = .returned v' ∧ St W w' [row 3 1 v' (bracketL n).length (intsI (bracketL n))] := by
  have HBL : Hid (∀ f l, brGo f n l = brGo 9 n [1] → ¬ l.length < n → bracketL n = l.map (zerF n)) := fun f l h hl => by
    unfold bracketL
    rw [← h, brGo_end hl]
    rfl
  have S0 := (St.refl W).row_new (e := 3) (size := 1) (n := 1) #[.int .i64 1] (by unfold maxLen; omega) rfl
  simp only [List.nil_append] at S0
  have HS0 := Lib.hid S0
  clear S0
  go_enter Tryz.func50, Tryz.ntmps50
  go_wp2_with fail
  go_loopw [3] (fun v w' => ∃ (l : List Int) (f : Nat), BrOk l ∧ Hid (brGo f n l = brGo 9 n [1]) ∧ Hid (n ≤ l.length * 2 ^ f) ∧ lenOf v = l.length ∧ St W w' [row 3 1 v l.length (intsI l)]) (fun v _ => n - lenOf v)
  case atStart => exact ⟨[1], 9, ⟨by decide, by decide, by decide⟩, rfl, Lib.hid (by show n ≤ 1 * 2 ^ 9; omega), rfl, HS0.out⟩
  case round =>
    obtain ⟨l, f, hok, hgo, hf, hlv, S⟩ := hrel
    clear HS0
    have HOK := Lib.hid hok
    obtain ⟨h1, h2, h3⟩ := hok
    have H3 := Lib.hid h3
    obtain ⟨g, c, rfl⟩ := row_some S (i := 0) rfl h1
    clear h3 hlv
    obtain ⟨m, hm⟩ : ∃ m, m = l.length := ⟨_, rfl⟩
    rw [← hm] at S h1 h2 ⊢
    have HM := Lib.hid hm
    by_cases hlt : m < n
    · have hlt' : decide ((m : Int) < (n : Int)) = true := by simp; omega
      have hlt2 : decide (m < n) = true := by simp; omega
      have S1 := S.row_nil 3 1
      simp only [List.cons_append, List.nil_append] at S1
      have HS1 := Lib.hid S1
      have hwm : IntKind.i64.wrap (2 * (m : Int)) = 2 * (m : Int) := IntWalk.i64_in _ (by omega)
      clear S S1 hm
      go_wp2_with fail
      go_loopw [16, 4] (fun i v w' => ∃ j : Nat, j ≤ m ∧ i = .int .i64 j ∧ St W w' [row 3 1 (.slice (some ⟨g, 0, none⟩) m c) m (intsI l), row 3 1 v (j * 2) (intsI (brP (2 * (m : Int) + 1) (l.take j)))]) (fun i _ _ => m - (intOf i).toNat)
      case atStart => exact ⟨0, Nat.zero_le _, rfl, by simpa [brP, intsI] using HS1.out⟩
      case round =>
        obtain ⟨j, hj, rfl, S⟩ := hrel
        clear HS1
        by_cases hltj : j < m
        · obtain ⟨x, hx⟩ : ∃ x, l[j]? = some x := ⟨l[j]'(by rw [← HM.out]; exact hltj), List.getElem?_eq_getElem _⟩
          have d0 := rd_cellI (S.row_rd (i := 0) rfl) hx
          rw [Nat.zero_add] at d0
          have hxb := H3.out x (List.mem_of_getElem? hx)
          rw [← HM.out] at hxb
          have HT := Lib.hid (brP_take (z := 2 * (m : Int) + 1) hx)
          have hrd := rd_new (m := 2) (size := 1) wr #[.int .i64 x, .int .i64 (2 * (m : Int) + 1 - x)] 3 rfl (by omega) (fun _ => True) trivial
          have HRD := Lib.hid hrd
          have HS2 := Lib.hid (S.alloc (.cells #[.int .i64 x, .int .i64 (2 * (m : Int) + 1 - x)] 3))
          clear S hx hrd
          go_wp2_with (at_builtin; refine wpList_append_st eltI rfl _ _ rfl rfl HS2.out (k := 1) rfl rfl HRD.out (by simp [Value.oneCell']) (by omega) (by omega) ?_; intro v' w' S' _)
          go_roundw
          case rel =>
            refine ⟨j + 1, by omega, by go_num, ?_⟩
            rw [HT.out, show (j + 1) * 2 = j * 2 + 2 by omega]
            simpa [intsI] using S'
          case measure => simp [intOf]; omega
        · obtain rfl : m = j := by omega
          have S2 := S.sub (L' := [_]) (List.sublist_append_right [_] [_])
          have hl2 : (brS l).length = m * 2 := by rw [brS_len, ← HM.out]
          rw [List.take_of_length_le (by rw [← HM.out]; exact Nat.le_refl _), HM.out, brP_S, ← HM.out, ← hl2] at S2
          obtain ⟨g4, c4, rfl⟩ := row_some S (i := 1) rfl (by omega)
          have HS2 := Lib.hid S2
          have HL2 := Lib.hid hl2
          clear S S2 hl2
          go_wp2_with fail
          go_roundw
          case rel =>
            obtain ⟨f', _, e2, e3⟩ := brGo_step (f := f) (n := n) (l := l) (by rw [← HM.out]; exact hlt) hf.out
            refine ⟨brS l, f', HOK.out.step (by rw [← HM.out]; exact hlt) hn, Lib.hid (e2.symm.trans hgo.out), Lib.hid e3, HL2.out.symm, ?_⟩
            exact HS2.out
          case measure => show n - m * 2 < n - m; omega
    · have hlt' : decide ((m : Int) < (n : Int)) = false := by simp; omega
      have hlt2 : decide (m < n) = false := by simp; omega
      have HR : Hid (bracketL n = l.map (zerF n)) := HBL.out f l hgo.out (by rw [← HM.out]; exact hlt)
      have HS1 : Hid (St W wr [row 3 1 (.slice (some ⟨g, 0, none⟩) m c) m (intsI (mixZ n l 0))]) := by
        have e : mixZ n l 0 = l := by unfold mixZ; simp
        rw [e]; exact S
      clear S hm hgo hf
      go_wp2_with fail
      go_loopw [34] (fun i w' => ∃ j : Nat, j ≤ m ∧ i = .int .i64 j ∧ St W w' [row 3 1 (.slice (some ⟨g, 0, none⟩) m c) m (intsI (mixZ n l j))]) (fun i _ => m - (intOf i).toNat)
      case atStart => exact ⟨0, Nat.zero_le _, rfl, HS1.out⟩
      case round =>
        obtain ⟨j, hj, rfl, S⟩ := hrel
        clear HS1
        by_cases hltj : j < m
        · obtain ⟨x, hx⟩ : ∃ x, l[j]? = some x := ⟨l[j]'(by rw [← HM.out]; exact hltj), List.getElem?_eq_getElem _⟩
          have d0 := rd_cellI (S.row_rd (i := 0) rfl) (mixZ_at (n := n) hx)
          rw [Nat.zero_add] at d0
          obtain ⟨_, _, hz, _, _, _, _, hfz⟩ := S.row_form (i := 0) rfl (by omega)
          cases hz
          have f0 := hfz j
          by_cases hxn : (n : Int) < x
          · have hz0 : zerF n x = 0 := by unfold zerF; rw [if_pos hxn]
            have hset := mixZ_set (n := n) hx
            rw [hz0] at hset
            have S2 := S.row_set (i := 0) rfl j (.int .i64 0)
            simp only [List.set_cons_zero] at S2
            have e2 : (intsI (mixZ n l j)).set j (.int .i64 0) = intsI (mixZ n l (j + 1)) := by unfold intsI; rw [← List.map_set, hset]
            rw [e2] at S2
            have HS2 := Lib.hid S2
            clear S S2 e2 hset hz0 hx hfz
            go_wp2_with fail
            go_roundw
            case rel => exact ⟨j + 1, by omega, by go_num, HS2.out⟩
            case measure => simp [intOf]; omega
          · have hz0 : zerF n x = x := by unfold zerF; rw [if_neg hxn]
            have hsm := mixZ_same hx hz0
            rw [← hsm] at S
            have HS2 := Lib.hid S
            clear S hsm hz0 hx hfz
            go_wp2_with fail
            go_roundw
            case rel => exact ⟨j + 1, by omega, by go_num, HS2.out⟩
            case measure => simp [intOf]; omega
        · obtain rfl : m = j := by omega
          have e : mixZ n l m = bracketL n := by
            unfold mixZ
            rw [HR.out, List.take_of_length_le (by rw [← HM.out]; exact Nat.le_refl _), List.drop_of_length_le (by rw [← HM.out]; exact Nat.le_refl _), List.append_nil]
          have el : (bracketL n).length = m := by rw [HR.out, List.length_map, ← HM.out]
          rw [e] at S
          have HS2 := Lib.hid S
          have HEL := Lib.hid el
          clear S e el
          go_wp2_with fail
          go_ret
          refine ⟨_, rfl, ?_⟩
          rw [HEL.out]
          exact HS2.out
end Go.Proofs.YtkkkfjinflepmaaGreatDoor
