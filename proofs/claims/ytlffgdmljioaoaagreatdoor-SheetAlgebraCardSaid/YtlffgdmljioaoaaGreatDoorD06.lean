/- Part 6 of the walks of the golf union's program: WA, WName. -/
import Derived.Test.YtlffgdmljioaoaaGreatDoorD05
import Derived.StillTailTactics
import Derived.Test.YtlffgdmljioaoaaGreatDoorD01
set_option linter.unusedVariables false
set_option linter.unusedSimpArgs false
set_option linter.unusedSectionVars false
set_option linter.constructorNameAsVariable false
/- Walks of the small functions of sheet and of the law's helpers. -/
namespace Go.Proofs.YtlffgdmljioaoaaGreatDoor
open Go.RowKit Go.Mem Go.Sheet
theorem eltI : Elt Tryz.prog 23 3 (.int .i64 0) 1 8 := ⟨Tryz.underlying23, by kernel_rfl, rfl, by decide⟩
theorem ret_i64 {a b : Int} (h : a = b) : Ending.returned (.int .i64 a) = .returned (.int .i64 b) := by rw [h]
theorem ret_bool {a b : Bool} (h : a = b) : Ending.returned (.bool a) = .returned (.bool b) := by rw [h]
theorem when_any (b : Bool) (e : Int) (w : World) : Calls Tryz.prog 53 #[.bool b, .int .i64 e] w fun r w' => r = .returned (.int .i64 (whenE b e)) ∧ w = w' := by
  go_enter Tryz.func53, Tryz.ntmps53
  cases b
  all_goals
    go_wp2
    go_ret
    exact ⟨rfl, rfl⟩
theorem outside_any (n lo hi : Int) (w : World) : Calls Tryz.prog 56 #[.int .i64 n, .int .i64 lo, .int .i64 hi] w fun r w' => r = .returned (.int .i64 (outE n lo hi)) ∧ w = w' := by
  go_enter Tryz.func56, Tryz.ntmps56
  by_cases h1 : n < lo
  · go_wp2_with (go_at_call 53; refine (when_any _ _ _).mono ?_; rintro e w' ⟨rfl, rfl⟩)
    go_ret
    exact ⟨by simp [outE, h1], rfl⟩
  · by_cases h2 : hi < n
    all_goals
      go_wp2_with (go_at_call 53; refine (when_any _ _ _).mono ?_; rintro e w' ⟨rfl, rfl⟩)
      go_ret
      exact ⟨ret_i64 (by unfold outE; congr 1; simp; omega), rfl⟩
theorem Outside_any (n lo hi : Int) (w : World) : Calls Tryz.prog 13 #[.int .i64 n, .int .i64 lo, .int .i64 hi] w fun r w' => r = .returned (.bool (decide (n < lo) || decide (hi < n))) ∧ w = w' := by
  go_enter Tryz.func13, Tryz.ntmps13
  by_cases h1 : n < lo
  · go_wp2
    go_ret
    exact ⟨by simp [h1], rfl⟩
  · by_cases h2 : hi < n
    all_goals
      go_wp2
      go_ret
      exact ⟨by simp [h1, h2], rfl⟩
set_option maxHeartbeats 400000 in
theorem first_any (w : World) (F : Nat → Prop) (v : Value) (n : Nat) (es : List Int) (h : Rd w F 1 v n (es.map (Value.int .i64))) :
    Calls Tryz.prog 52 #[v] w fun r w' => r = .returned (.int .i64 (fst es)) ∧ w = w' := by
  have HL := Lib.hid h.count1
  have hn := h.le
  obtain ⟨A, c, rfl, _, _, h⟩ := h.open_
  go_enter Tryz.func52, Tryz.ntmps52
  go_wp2
  go_loop [7] (fun i => ∃ k : Nat, k ≤ n ∧ i = .int .i64 k ∧ Hid (fst (es.drop k) = fst es)) (fun i => n - (intOf i).toNat)
  case atStart => exact ⟨0, Nat.zero_le _, rfl, rfl⟩
  case round =>
    obtain ⟨k, hk, rfl, he⟩ := hrel
    by_cases hlt : k < n
    · obtain ⟨b, o, x, rfl, hx, hc⟩ := h.int hlt
      have HX := Lib.hid hx
      clear hx
      go_wp2
      · go_ret
        exact ⟨ret_i64 (fst_stop HX.out (by simpa using ‹(x != 0) = true›) he.out), rfl⟩
      · go_round
        case rel => exact ⟨k + 1, by omega, by go_num, fst_go HX.out (by simpa using ‹(x != 0) = false›) he.out⟩
        case measure => simp [intOf]; omega
    · go_wp2
      go_ret
      obtain rfl : k = n := by omega
      exact ⟨ret_i64 (fst_end (Nat.le_of_eq HL.out.symm) he.out).symm, rfl⟩
/-- first of errors that lie in a new row -/
theorem first2 (w : World) (g : Nat) (a b : Int) (hg : g < w.heap.size) (h0 : w.cell? ⟨g, 0, none⟩ = some (.int .i64 a)) (h1 : w.cell? ⟨g, 1, none⟩ = some (.int .i64 b)) :
    Calls Tryz.prog 52 #[.slice (some ⟨g, 0, none⟩) 2 2] w fun r w' => r = .returned (.int .i64 (fst [a, b])) ∧ w = w' :=
  first_any w (fun _ => True) _ 2 [a, b] (rd_cells hg (by simp) fun j u hu => by
    match j, hu with
    | 0, hu => cases hu; exact h0
    | 1, hu => cases hu; exact h1)
theorem first3 (w : World) (g : Nat) (a b c : Int) (hg : g < w.heap.size) (h0 : w.cell? ⟨g, 0, none⟩ = some (.int .i64 a)) (h1 : w.cell? ⟨g, 1, none⟩ = some (.int .i64 b)) (h2 : w.cell? ⟨g, 2, none⟩ = some (.int .i64 c)) :
    Calls Tryz.prog 52 #[.slice (some ⟨g, 0, none⟩) 3 3] w fun r w' => r = .returned (.int .i64 (fst [a, b, c])) ∧ w = w' :=
  first_any w (fun _ => True) _ 3 [a, b, c] (rd_cells hg (by simp) fun j u hu => by
    match j, hu with
    | 0, hu => cases hu; exact h0
    | 1, hu => cases hu; exact h1
    | 2, hu => cases hu; exact h2)
theorem first4 (w : World) (g : Nat) (a b c d : Int) (hg : g < w.heap.size) (h0 : w.cell? ⟨g, 0, none⟩ = some (.int .i64 a)) (h1 : w.cell? ⟨g, 1, none⟩ = some (.int .i64 b)) (h2 : w.cell? ⟨g, 2, none⟩ = some (.int .i64 c)) (h3 : w.cell? ⟨g, 3, none⟩ = some (.int .i64 d)) :
    Calls Tryz.prog 52 #[.slice (some ⟨g, 0, none⟩) 4 4] w fun r w' => r = .returned (.int .i64 (fst [a, b, c, d])) ∧ w = w' :=
  first_any w (fun _ => True) _ 4 [a, b, c, d] (rd_cells hg (by simp) fun j u hu => by
    match j, hu with
    | 0, hu => cases hu; exact h0
    | 1, hu => cases hu; exact h1
    | 2, hu => cases hu; exact h2
    | 3, hu => cases hu; exact h3)
end Go.Proofs.YtlffgdmljioaoaaGreatDoor
/- Walks: card.isLetter, card.IsName, niblickref01.IsName. -/
namespace Go.Proofs.YtlffgdmljioaoaaGreatDoor
open Go.RowKit Go.Mem Go.Sheet
theorem isLetter_any (c : Int) (w : World) : Calls Tryz.prog 152 #[.int .i32 c] w fun r w' => r = .returned (.bool (letterI c)) ∧ w = w' := by
  go_enter Tryz.func152, Tryz.ntmps152
  by_cases h1 : 97 ≤ c <;> by_cases h2 : c ≤ 122 <;> by_cases h3 : 65 ≤ c <;> by_cases h4 : c ≤ 90
  all_goals first | omega | skip
  all_goals
    go_wp2
    go_ret
    exact ⟨ret_bool (by unfold letterI; simp; omega), rfl⟩
theorem isLetter_yes (c : Int) (w : World) (h : letterI c = true) : Calls Tryz.prog 152 #[.int .i32 c] w fun r w' => r = .returned (.bool true) ∧ w = w' := by
  rw [← h]; exact isLetter_any c w
theorem isLetter_no (c : Int) (w : World) (h : letterI c = false) : Calls Tryz.prog 152 #[.int .i32 c] w fun r w' => r = .returned (.bool false) ∧ w = w' := by
  rw [← h]; exact isLetter_any c w
theorem bytes_empty (s : ByteArray) : s.toList.isEmpty = decide (s.size = 0) := by
  rw [ByteArray.toList_eq]
  have h : s.data.toList.length = s.size := by simp
  cases hl : s.data.toList with
  | nil => rw [hl] at h; simp at h; simp [← h]
  | cons a l => rw [hl] at h; rw [← h]; rfl
set_option maxRecDepth 100000 in
set_option maxHeartbeats 1000000 in
theorem cardIsName_any (s : ByteArray) (w : World) (hs : s.size ≤ 9223372036854775807) : Calls Tryz.prog 127 #[.string s] w fun e w' => e = .returned (.bool (nameB s)) ∧ Below w.heap.size w w' := by
  have hbi : ∀ p, Below w.heap.size w (w.iter s p) := fun p => (Below.refl _ _).alloc (Nat.le_refl _) _
  go_enter Tryz.func127, Tryz.ntmps127
  go_wp2
  go_loopw [3] (fun _ wr => ∃ k : Nat, k ≤ s.size ∧ wr = w.iter s k ∧ Hid (goodAt k (s.data.toList.drop k) = goodAt 0 s.data.toList)) (fun _ wr => s.size - wr.iterPos w.heap.size)
  case atStart => exact ⟨0, Nat.zero_le _, rfl, rfl⟩
  case round =>
    obtain ⟨k, hk, rfl, he⟩ := hrel
    by_cases hlt : k < s.size
    · by_cases ha : (s[k]'hlt).toNat < 128
      · have hnx : ∀ ty, (Instr.next (.pointer (some ⟨w.heap.size, 0, none⟩)) true ty).run Tryz.prog (w.iter s k) = _ := fun ty => run_next_ascii w s k ty hlt ha
        obtain ⟨c, hc⟩ : ∃ c : Nat, c = (s[k]'hlt).toNat := ⟨_, rfl⟩
        have hstop := good_stop s k hlt
        have hgo := good_go s k hlt
        rw [← hc] at hnx hstop hgo ha
        have HS := Lib.hid hstop
        have HG := Lib.hid hgo
        clear hstop hgo hc
        cases hL : letterI c
        · have hg : goodI k c = (!decide (k = 0) && (decide ((c : Int) = 95) || (decide (48 ≤ (c : Int)) && decide ((c : Int) ≤ 57)))) := by unfold goodI; rw [hL]; rfl
          have HG2 := Lib.hid hg
          have HC := Lib.hid (isLetter_no c · hL)
          clear hg hL
          by_cases h0 : k = 0
          · have HN : Hid (goodI k c = false) := by show _ = _; rw [HG2.out]; simp [h0]
            have h0' : ((k : Int) == 0) = true := by simp; omega
            have HK := Lib.hid h0
            clear h0
            go_wp2_with (go_at_call 152; refine (HC.out _).mono ?_; rintro e w' ⟨rfl, rfl⟩)
            go_ret
            exact ⟨ret_bool (by rw [nameB, HS.out HN.out he.out]; simp), hbi _⟩
          · have h0' : ((k : Int) == 0) = false := by simp; omega
            by_cases h95 : (c : Int) = 95
            · have HN : Hid (goodI k c = true) := by show _ = _; rw [HG2.out]; simp [h0, h95]
              have h95' : ((c : Int) != 95) = false := by simp [h95]
              have HK := Lib.hid h95
              clear h95
              go_wp2_with (go_at_call 152; refine (HC.out _).mono ?_; rintro e w' ⟨rfl, rfl⟩)
              go_roundw
              case rel => exact ⟨k + 1, by omega, rfl, HG.out HN.out he.out⟩
              case measure => simp; omega
            · have h95' : ((c : Int) != 95) = true := by simp; omega
              by_cases h48 : (c : Int) < 48
              · have HN : Hid (goodI k c = false) := by show _ = _; rw [HG2.out]; simp; omega
                go_wp2_with (go_at_call 152; refine (HC.out _).mono ?_; rintro e w' ⟨rfl, rfl⟩)
                go_ret
                exact ⟨ret_bool (by rw [nameB, HS.out HN.out he.out]; simp), hbi _⟩
              · by_cases h57 : 57 < (c : Int)
                · have HN : Hid (goodI k c = false) := by show _ = _; rw [HG2.out]; simp; omega
                  go_wp2_with (go_at_call 152; refine (HC.out _).mono ?_; rintro e w' ⟨rfl, rfl⟩)
                  go_ret
                  exact ⟨ret_bool (by rw [nameB, HS.out HN.out he.out]; simp), hbi _⟩
                · have HN : Hid (goodI k c = true) := by show _ = _; rw [HG2.out]; simp; omega
                  go_wp2_with (go_at_call 152; refine (HC.out _).mono ?_; rintro e w' ⟨rfl, rfl⟩)
                  go_roundw
                  case rel => exact ⟨k + 1, by omega, rfl, HG.out HN.out he.out⟩
                  case measure => simp; omega
        · have HC := Lib.hid (isLetter_yes c · hL)
          have hg : goodI k c = true := by unfold goodI; rw [hL]; rfl
          have HN := Lib.hid hg
          clear hL hg
          go_wp2_with (go_at_call 152; refine (HC.out _).mono ?_; rintro e w' ⟨rfl, rfl⟩)
          go_roundw
          case rel => exact ⟨k + 1, by omega, rfl, HG.out HN.out he.out⟩
          case measure => simp; omega
      · have hnx : ∀ ty, (Instr.next (.pointer (some ⟨w.heap.size, 0, none⟩)) true ty).run Tryz.prog (w.iter s k) = _ := fun ty => run_next_any w s k ty hlt
        have hd := (decode_high s k hlt (by omega)).1
        have hN : goodI k ((s[k]'hlt).toNat : Int) = false := by unfold goodI letterI; simp; omega
        have HE := Lib.hid (good_stop s k hlt hN he.out)
        generalize Utf8.decode s k = d at *
        obtain ⟨c, m⟩ := d
        dsimp only at hnx hd
        have hL : letterI c = false := by unfold letterI; simp; omega
        have HC := Lib.hid (isLetter_no c · hL)
        have h95' : ((c : Int) != 95) = true := by simp; omega
        have h48 : ¬ (c : Int) < 48 := by omega
        have h57 : 57 < (c : Int) := by omega
        clear hN hL ha he
        by_cases h0 : k = 0
        · have h0' : ((k : Int) == 0) = true := by simp; omega
          have HK := Lib.hid h0
          clear h0
          go_wp2_with (go_at_call 152; refine (HC.out _).mono ?_; rintro e w' ⟨rfl, rfl⟩)
          go_ret
          exact ⟨ret_bool (by rw [nameB, HE.out]; simp), hbi _⟩
        · have h0' : ((k : Int) == 0) = false := by simp; omega
          go_wp2_with (go_at_call 152; refine (HC.out _).mono ?_; rintro e w' ⟨rfl, rfl⟩)
          go_ret
          exact ⟨ret_bool (by rw [nameB, HE.out]; simp), hbi _⟩
    · have hnx : ∀ ty, (Instr.next (.pointer (some ⟨w.heap.size, 0, none⟩)) true ty).run Tryz.prog (w.iter s k) = _ := fun ty => run_next_end w s k ty hlt
      have HG := Lib.hid (good_end s k (by omega) he.out)
      have hem : s.toList.isEmpty = decide (s.size = 0) := bytes_empty s
      by_cases h0 : s.size = 0
      · have hem1 : s.toList.isEmpty = true := by rw [hem]; simpa using h0
        have hem2 : s.toList = [] := by simpa using hem1
        have H0 := Lib.hid h0
        clear h0 hem
        go_wp2
        go_ret
        exact ⟨ret_bool (by rw [nameB, H0.out]; rfl), hbi _⟩
      · have hem1 : s.toList.isEmpty = false := by rw [hem]; simpa using h0
        have hem2 : ¬ s.toList = [] := by simpa using hem1
        have HZ := Lib.hid (show 0 < s.size by omega)
        clear hem
        go_wp2
        go_ret
        exact ⟨ret_bool (by have := HZ.out; have h1 : decide (0 < s.size) = true := by simpa using this
                            rw [nameB, HG.out, h1]; simp; omega), hbi _⟩
end Go.Proofs.YtlffgdmljioaoaaGreatDoor
