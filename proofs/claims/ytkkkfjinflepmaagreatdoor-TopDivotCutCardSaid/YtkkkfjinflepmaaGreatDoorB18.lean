/- Part 18 of the walks of the golf union's program: DE3, DE4. -/
import Derived.Test.YtkkkfjinflepmaaGreatDoorB12
import Derived.Test.YtkkkfjinflepmaaGreatDoorB17
set_option linter.unusedVariables false
set_option linter.unusedSimpArgs false
set_option linter.unusedSectionVars false
set_option linter.constructorNameAsVariable false
/- Chapter 7: players without an error; the draw. -/
namespace Go.Proofs.YtkkkfjinflepmaaGreatDoor
open Go.RowKit Go.Mem Go.Sheet Go.Adj
def strsV (f : Nat → ByteArray) (k : Nat) : List Value := (List.range k).map fun i => .string (f i)
theorem strsV_snoc (f : Nat → ByteArray) (k : Nat) : strsV f (k + 1) = strsV f k ++ [.string (f k)] := by unfold strsV; rw [List.range_succ, List.map_append]; rfl
theorem strsV_at (f : Nat → ByteArray) {n k : Nat} (h : k < n) : (strsV f n)[k]? = some (.string (f k)) := by unfold strsV; rw [List.getElem?_map, List.getElem?_range h]; rfl
structure GoodNs (f : Nat → ByteArray) (n : Nat) : Prop where
  ok : ∀ i, i < n → nameB (f i) = true ∧ (f i).size ≤ 9223372036854775807
  two : ∀ i j, i < n → j < i → f j ≠ f i
theorem set_setA (L : List Asr) (i : Nat) (A B : Asr) : (L.set i A).set i B = L.set i B := List.set_set ..
set_option maxRecDepth 100000 in
set_option maxHeartbeats 4000000 in
theorem eachNames_ok (W w : World) (L : List Asr) (i b n : Nat) (v : Value) (f : Nat → ByteArray) (S : St W w L) (hi : L[i]? = some (mapS b (seenE f 0) 0)) (h : Rd W (· < W.heap.size) 1 v n (strsV f n)) (hg : GoodNs f n) :
    Calls Tryz.prog 96 #[v, .func (.func 51) #[.map (some b)] #[]] w fun e w' => e = .returned (.int .i64 0) ∧ St W w' (L.set i (mapS b (seenE f n) n)) := by
  have hil : i < L.length := (List.getElem?_eq_some_iff.1 hi).1
  have S0 : St W w (L.set i (mapS b (seenE f 0) 0)) := by
    have e : L.set i (mapS b (seenE f 0) 0) = L := by
      apply List.ext_getElem?
      intro j
      rw [List.getElem?_set]
      split
      · rename_i h; subst h; first | exact hi.symm | (rw [if_pos hil]; exact hi.symm)
      · rfl
    rw [e]; exact S
  have HIX : Hid (∀ A : Asr, (L.set i A)[i]? = some A) := fun A => by rw [List.getElem?_set, if_pos rfl, if_pos hil]
  have hn := h.le
  obtain ⟨A, c, rfl, _, _, _⟩ := h.open_
  have H := Lib.hid h
  have HG := Lib.hid hg
  clear S hi hil h hg
  have hE := enters Tryz.func51 (by kernel_rfl) rfl
  unfold Enters at hE
  go_enter Tryz.func96, Tryz.ntmps96
  go_wp2_with fail
  go_loopw [10] (fun i' w' => ∃ k : Nat, k ≤ n ∧ i' = .int .i64 k ∧ St W w' (L.set i (mapS b (seenE f k) k))) (fun i' _ => n - (intOf i').toNat)
  case atStart => exact ⟨0, Nat.zero_le _, rfl, S0⟩
  case round =>
    obtain ⟨k, hk, rfl, S⟩ := hrel
    clear S0
    by_cases hlt : k < n
    · obtain ⟨bb, o, u, rfl, _, hu, d0⟩ := (H.out.later S.bel).at_ hlt
      rw [strsV_at f hlt] at hu
      cases hu
      have hc := namesCheck_ok W wr _ i b k f (f k) S (HIX.out _) (HG.out.ok k hlt).1 (HG.out.ok k hlt).2 rfl (fun j hj => HG.out.two k j hlt hj)
      rw [set_setA] at hc
      have HC := Lib.hid hc
      clear S hc
      generalize f k = s at *
      go_wp2_with fail
      refine HC.out.mono ?_
      rintro e w2 ⟨rfl, S2⟩
      have HS2 := Lib.hid S2
      clear S2 HC
      go_wp2_with fail
      go_roundw
      case rel => exact ⟨k + 1, by omega, by go_num, HS2.out⟩
      case measure => simp [intOf]; omega
    · obtain rfl : n = k := by omega
      have HS := Lib.hid S
      clear S
      go_wp2_with fail
      go_ret
      exact ⟨rfl, HS.out⟩
theorem eventOk3 (w : World) (g : Nat) (hg : g < w.heap.size) (h0 : w.cell? ⟨g, 0, none⟩ = some (.int .i64 0)) (h1 : w.cell? ⟨g, 1, none⟩ = some (.int .i64 0)) (h2 : w.cell? ⟨g, 2, none⟩ = some (.int .i64 0)) :
    Calls Tryz.prog 37 #[.slice (some ⟨g, 0, none⟩) 3 3] w fun r w' => r = .returned (.int .i64 0) ∧ w = w' :=
  eventFirst_any w (fun _ => True) _ 3 [0, 0, 0] (rd_cells hg (by simp) fun j u hu => by
    match j, hu with
    | 0, hu => cases hu; exact h0
    | 1, hu => cases hu; exact h1
    | 2, hu => cases hu; exact h2)
set_option maxRecDepth 100000 in
set_option maxHeartbeats 4000000 in
theorem eventPlayers_ok (W : World) (n : Nat) (v : Value) (f : Nat → ByteArray) (h : Rd W (· < W.heap.size) 1 v n (strsV f n)) (hg : GoodNs f n) (hn : 1 ≤ n ∧ n ≤ 200) :
    Calls Tryz.prog 49 #[v] W fun e w' => e = .returned (.int .i64 0) ∧ Below W.heap.size W w' := by
  have S0 := (St.refl W).mapS_new
  simp only [List.nil_append] at S0
  have HEA := Lib.hid (eachNames_ok W _ _ 0 _ n v f S0 rfl h hg)
  obtain ⟨A, c, rfl, _, _, _⟩ := h.open_
  have t1 : ((n : Int) == 0) = false := by simp; omega
  have t2 : decide ((200 : Int) < (n : Int)) = false := by simp; omega
  have hmm := @run_makeMap Tryz.prog
  clear h hg S0
  go_enter Tryz.func49, Tryz.ntmps49
  go_wp2_with (first
    | (go_at_call 52; refine (eventNo _ _).mono ?_; rintro e w' ⟨rfl, rfl⟩)
    | (go_at_call 96; refine HEA.out.mono ?_; rintro e w2 ⟨rfl, S2⟩; have HS2 := Lib.hid S2; clear S2)
    | (go_at_call 37; refine (eventOk3 _ _ (by simp) (by simp) (by simp) (by simp)).mono ?_; rintro e w' ⟨rfl, rfl⟩))
  go_ret
  exact ⟨rfl, HS2.out.bel.alloc HS2.out.bel.size _⟩
end Go.Proofs.YtkkkfjinflepmaaGreatDoor
/- Chapter 7: Draw. -/
namespace Go.Proofs.YtkkkfjinflepmaaGreatDoor
open Go.RowKit Go.Mem Go.Sheet Go.Adj
theorem brGo_ok {n : Nat} (hn : n ≤ 200) : ∀ (f : Nat) (l : List Int), BrOk l → BrOk (brGo f n l)
  | 0, _, h => h
  | f + 1, l, h => by
    rw [brGo]
    split
    · rename_i hl; exact brGo_ok hn f _ (h.step hl hn)
    · exact h
theorem bracket_bd {n : Nat} (hn : n ≤ 200) : (bracketL n).length ≤ 400 ∧ ∀ s ∈ bracketL n, 0 ≤ s ∧ s ≤ n := by
  obtain ⟨h1, h2, h3⟩ := brGo_ok hn 9 [1] ⟨by decide, by decide, by decide⟩
  unfold bracketL
  refine ⟨by rw [List.length_map]; exact h2, fun s hs => ?_⟩
  obtain ⟨t, ht, rfl⟩ := List.mem_map.1 hs
  have := h3 t ht
  split <;> omega
def nmO (f : Nat → ByteArray) : Option Nat → ByteArray
  | none => ⟨#[]⟩
  | some i => f i
def strsO (f : Nat → ByteArray) (l : List (Option Nat)) : List Value := l.map fun s => .string (nmO f s)
theorem eltStrD : Elt Tryz.prog 32 9 (.string ⟨#[]⟩) 1 16 := ⟨Tryz.underlying32, by kernel_rfl, rfl, by decide⟩
def slotOf5 (s : Int) : Option Nat := if s = 0 then none else some (s.toNat - 1)
theorem slotL_eq (n : Nat) : slotL n = (bracketL n).map slotOf5 := rfl
set_option maxRecDepth 100000 in
set_option maxHeartbeats 4000000 in
theorem draw_ok (W : World) (n : Nat) (v : Value) (f : Nat → ByteArray) (h : Rd W (· < W.heap.size) 1 v n (strsV f n)) (hg : GoodNs f n) (hn : 1 ≤ n ∧ n ≤ 200) :
    Calls Tryz.prog 20 #[v] W fun e w' => ∃ v', e = .returned (.tuple #[v', .int .i64 0]) ∧ St W w' [row 9 1 v' (slotL n).length (strsO f (slotL n))] := by
  have HCP := Lib.hid (eventPlayers_ok W n v f h hg hn)
  have hbd := bracket_bd hn.2
  obtain ⟨A, c, rfl, hnc, _, _⟩ := h.open_
  have H := Lib.hid h
  have HBR : Hid (∀ w, Calls Tryz.prog 50 #[.int .i64 n] w fun e w' => ∃ v', e = .returned v' ∧ St w w' [row 3 1 v' (bracketL n).length (intsI (bracketL n))]) := fun w => bracket_any w n hn.2
  have HSL : Hid ((bracketL n).map slotOf5 = slotL n) := rfl
  generalize hBL : bracketL n = bl at *
  generalize hSL : slotL n = sl at *
  obtain ⟨hb1, hb2⟩ := hbd
  have HB2 := Lib.hid hb2
  have HSE := Lib.hid hSL
  obtain ⟨m, hm⟩ : ∃ m, m = bl.length := ⟨_, rfl⟩
  rw [← hm] at HBR hb1
  have HM := Lib.hid hm
  clear h hg hb2 hBL hSL hm
  go_enter Tryz.func20, Tryz.ntmps20
  go_wp2_with fail
  go_at_call 49
  refine HCP.out.mono ?_
  rintro e w1 ⟨rfl, hb1'⟩
  have HB1 := Lib.hid hb1'
  clear hb1' HCP
  go_wp2_with fail
  go_at_call 50
  refine (HBR.out _).mono ?_
  rintro e w2 ⟨vb, rfl, S2⟩
  have S3 := ((St.of_below HB1.out).call S2).row_nil 9 1
  simp only [List.cons_append, List.nil_append] at S3
  obtain ⟨Ab, cb, rfl, _, _, _⟩ := (S3.row_rd (i := 0) rfl).open_
  have HS3 := Lib.hid S3
  clear S2 S3 HBR
  go_wp2_with fail
  go_loopw [18, 5] (fun i v w' => ∃ j : Nat, j ≤ m ∧ i = .int .i64 j ∧ St W w' [row 3 1 (.slice Ab m cb) m (intsI bl), row 9 1 v j (strsO f ((bl.take j).map slotOf5))]) (fun i _ _ => m - (intOf i).toNat)
  case atStart => exact ⟨0, Nat.zero_le _, rfl, HS3.out⟩
  case round =>
    obtain ⟨j, hj, rfl, S⟩ := hrel
    clear HS3
    by_cases hlt : j < m
    · obtain ⟨x, hx⟩ : ∃ x, bl[j]? = some x := ⟨bl[j]'(by rw [← HM.out]; exact hlt), List.getElem?_eq_getElem _⟩
      obtain ⟨b1, o1, u, hA, _, hu, d0⟩ := (S.row_rd (i := 0) rfl).at_ hlt
      subst hA
      unfold intsI at hu
      rw [List.getElem?_map, hx] at hu
      cases hu
      obtain ⟨hx0, hxn⟩ := HB2.out x (List.mem_of_getElem? hx)
      have hT : strsO f ((bl.take (j + 1)).map slotOf5) = strsO f ((bl.take j).map slotOf5) ++ [.string (nmO f (slotOf5 x))] := by
        unfold strsO
        rw [List.take_add_one, hx, List.map_append, List.map_append]; rfl
      have HT := Lib.hid hT
      clear hx hT
      by_cases hz : x = 0
      · subst hz
        have HS4 := Lib.hid (S.alloc (.cells #[.string ⟨#[]⟩] 9))
        clear S
        go_wp2_with (at_builtin; refine wpList_append_st eltStrD rfl _ _ rfl rfl HS4.out (k := 1) rfl rfl (rd_one (by simp)) (by simp [Value.oneCell']) (by omega) (by omega) ?_; intro v' w' S' _)
        go_roundw
        case rel =>
          refine ⟨j + 1, by omega, by go_num, ?_⟩
          rw [HT.out]
          exact S'
        case measure => simp [intOf]; omega
      · obtain ⟨p, rfl⟩ : ∃ p : Nat, x = (p : Int) + 1 := ⟨x.toNat - 1, by omega⟩
        have hpn : p < n := by omega
        obtain ⟨b2, o2, u2, hA2, _, hu2, e0⟩ := (H.out.later S.bel).at_ hpn
        subst hA2
        rw [strsV_at f hpn] at hu2
        cases hu2
        have hps : slotOf5 ((p : Int) + 1) = some p := by unfold slotOf5; rw [if_neg hz, show ((p : Int) + 1).toNat - 1 = p from by omega]
        rw [hps] at HT
        have HT2 : Hid (strsO f ((bl.take (j + 1)).map slotOf5) = strsO f ((bl.take j).map slotOf5) ++ [.string (f p)]) := HT.out
        have t3 : decide ((0 : Int) < (p : Int) + 1) = true := decide_eq_true (by omega)
        generalize f p = fp at *
        have HS4 := Lib.hid (S.alloc (.cells #[.string fp] 9))
        clear S HT hps
        go_wp2_with (at_builtin; refine wpList_append_st eltStrD rfl _ _ rfl rfl HS4.out (k := 1) rfl rfl (rd_one (by simp)) (by simp [Value.oneCell']) (by omega) (by omega) ?_; intro v' w' S' _)
        go_roundw
        case rel =>
          refine ⟨j + 1, by omega, by go_num, ?_⟩
          rw [HT2.out]
          exact S'
        case measure => simp [intOf]; omega
    · obtain rfl : m = j := by omega
      have e1 : (bl.take m).map slotOf5 = sl := by rw [List.take_of_length_le (by rw [← HM.out]; exact Nat.le_refl _)]; exact HSL.out
      have e2 : sl.length = m := by rw [← HSL.out, List.length_map, ← HM.out]
      rw [e1] at S
      have S2 := S.sub (L' := [_]) (List.sublist_append_right [_] [_])
      have HS4 := Lib.hid S2
      have HE2 := Lib.hid e2
      clear S S2 e1 e2
      go_wp2_with fail
      go_ret2
      refine ⟨_, rfl, ?_⟩
      rw [HE2.out]
      exact HS4.out
end Go.Proofs.YtkkkfjinflepmaaGreatDoor
