/- Part 2 of the walks of the golf union's program: L1, Name, L2, L3, L4, LF1h, UM1, MapB, TailQ, L5, MapS. -/
import Derived.Test.YtnaafefcijgpkaaGreatDoorProg
import Derived.WalkLawsBesides
import Derived.BigQuiet
import Derived.Deep.QuietTactic
import Derived.Deep.RegionHeld3
import Derived.StillTailTactics
import Derived.Test.YtnaafefcijgpkaaGreatDoorB01
import Derived.Maps.OwnOps
import Derived.Maps.Views
import Derived.RangeFuncOwn
import Derived.MapFrom
set_option linter.unusedVariables false
set_option linter.unusedSimpArgs false
set_option linter.unusedSectionVars false
set_option linter.constructorNameAsVariable false
/- Chapter 5: the small functions of card, format, handicap. -/
namespace Go.Proofs.YtnaafefcijgpkaaGreatDoor
open Go.RowKit Go.Mem Go.Sheet Go.Adj
theorem eltI : Elt Tryz.prog 57 3 (.int .i64 0) 1 8 := ⟨Tryz.underlying57, by kernel_rfl, rfl, by decide⟩
theorem ret_i64 {a b : Int} (h : a = b) : Ending.returned (.int .i64 a) = .returned (.int .i64 b) := by rw [h]
theorem ret_bool {a b : Bool} (h : a = b) : Ending.returned (.bool a) = .returned (.bool b) := by rw [h]
def intsI (l : List Int) : List Value := l.map (Value.int .i64)
theorem cardWhen_any (b : Bool) (e : Int) (w : World) : Calls Tryz.prog 106 #[.bool b, .int .i64 e] w fun r w' => r = .returned (.int .i64 (whenE b e)) ∧ w = w' := by
  go_enter Tryz.func106, Tryz.ntmps106
  cases b
  all_goals
    go_wp2
    go_ret
    exact ⟨rfl, rfl⟩
set_option maxHeartbeats 400000 in
theorem cardFirst_any (w : World) (F : Nat → Prop) (v : Value) (n : Nat) (es : List Int) (h : Rd w F 1 v n (es.map (Value.int .i64))) :
    Calls Tryz.prog 105 #[v] w fun r w' => r = .returned (.int .i64 (fst es)) ∧ w = w' := by
  have HL := Lib.hid h.count1
  have hn := h.le
  obtain ⟨A, c, rfl, _, _, h⟩ := h.open_
  go_enter Tryz.func105, Tryz.ntmps105
  go_wp2
  go_loop [7] (fun i => ∃ k : Nat, k ≤ n ∧ i = .int .i64 k ∧ Hid (fst (es.drop k) = fst es)) (fun i => n - (intOf i).toNat)
  case atStart => exact ⟨0, Nat.zero_le _, rfl, rfl⟩
  case round =>
    obtain ⟨k, hk, rfl, he⟩ := hrel
    by_cases hlt : k < n
    · obtain ⟨b, o, x, rfl, hx, hc⟩ := h.int hlt
      have HX := Lib.hid hx
      clear hx
      go_wp2
      · go_ret
        exact ⟨ret_i64 (fst_stop HX.out (by simpa using ‹(x != 0) = true›) he.out), rfl⟩
      · go_round
        case rel => exact ⟨k + 1, by omega, by go_num, fst_go HX.out (by simpa using ‹(x != 0) = false›) he.out⟩
        case measure => simp [intOf]; omega
    · go_wp2
      go_ret
      obtain rfl : k = n := by omega
      exact ⟨ret_i64 (fst_end (Nat.le_of_eq HL.out.symm) he.out).symm, rfl⟩
theorem cardFirst2 (w : World) (g : Nat) (a b : Int) (hg : g < w.heap.size) (h0 : w.cell? ⟨g, 0, none⟩ = some (.int .i64 a)) (h1 : w.cell? ⟨g, 1, none⟩ = some (.int .i64 b)) :
    Calls Tryz.prog 105 #[.slice (some ⟨g, 0, none⟩) 2 2] w fun r w' => r = .returned (.int .i64 (fst [a, b])) ∧ w = w' :=
  cardFirst_any w (fun _ => True) _ 2 [a, b] (rd_cells hg (by simp) fun j u hu => by
    match j, hu with
    | 0, hu => cases hu; exact h0
    | 1, hu => cases hu; exact h1)
theorem formatWhen_any (b : Bool) (e : Int) (w : World) : Calls Tryz.prog 63 #[.bool b, .int .i64 e] w fun r w' => r = .returned (.int .i64 (whenE b e)) ∧ w = w' := by
  go_enter Tryz.func63, Tryz.ntmps63
  cases b
  all_goals
    go_wp2
    go_ret
    exact ⟨rfl, rfl⟩
set_option maxHeartbeats 400000 in
theorem formatFirst_any (w : World) (F : Nat → Prop) (v : Value) (n : Nat) (es : List Int) (h : Rd w F 1 v n (es.map (Value.int .i64))) :
    Calls Tryz.prog 91 #[v] w fun r w' => r = .returned (.int .i64 (fst es)) ∧ w = w' := by
  have HL := Lib.hid h.count1
  have hn := h.le
  obtain ⟨A, c, rfl, _, _, h⟩ := h.open_
  go_enter Tryz.func91, Tryz.ntmps91
  go_wp2
  go_loop [7] (fun i => ∃ k : Nat, k ≤ n ∧ i = .int .i64 k ∧ Hid (fst (es.drop k) = fst es)) (fun i => n - (intOf i).toNat)
  case atStart => exact ⟨0, Nat.zero_le _, rfl, rfl⟩
  case round =>
    obtain ⟨k, hk, rfl, he⟩ := hrel
    by_cases hlt : k < n
    · obtain ⟨b, o, x, rfl, hx, hc⟩ := h.int hlt
      have HX := Lib.hid hx
      clear hx
      go_wp2
      · go_ret
        exact ⟨ret_i64 (fst_stop HX.out (by simpa using ‹(x != 0) = true›) he.out), rfl⟩
      · go_round
        case rel => exact ⟨k + 1, by omega, by go_num, fst_go HX.out (by simpa using ‹(x != 0) = false›) he.out⟩
        case measure => simp [intOf]; omega
    · go_wp2
      go_ret
      obtain rfl : k = n := by omega
      exact ⟨ret_i64 (fst_end (Nat.le_of_eq HL.out.symm) he.out).symm, rfl⟩
theorem formatFirst2 (w : World) (g : Nat) (a b : Int) (hg : g < w.heap.size) (h0 : w.cell? ⟨g, 0, none⟩ = some (.int .i64 a)) (h1 : w.cell? ⟨g, 1, none⟩ = some (.int .i64 b)) :
    Calls Tryz.prog 91 #[.slice (some ⟨g, 0, none⟩) 2 2] w fun r w' => r = .returned (.int .i64 (fst [a, b])) ∧ w = w' :=
  formatFirst_any w (fun _ => True) _ 2 [a, b] (rd_cells hg (by simp) fun j u hu => by
    match j, hu with
    | 0, hu => cases hu; exact h0
    | 1, hu => cases hu; exact h1)
theorem cardFirst4 (w : World) (g : Nat) (a b c d : Int) (hg : g < w.heap.size) (h0 : w.cell? ⟨g, 0, none⟩ = some (.int .i64 a)) (h1 : w.cell? ⟨g, 1, none⟩ = some (.int .i64 b)) (h2 : w.cell? ⟨g, 2, none⟩ = some (.int .i64 c)) (h3 : w.cell? ⟨g, 3, none⟩ = some (.int .i64 d)) :
    Calls Tryz.prog 105 #[.slice (some ⟨g, 0, none⟩) 4 4] w fun r w' => r = .returned (.int .i64 (fst [a, b, c, d])) ∧ w = w' :=
  cardFirst_any w (fun _ => True) _ 4 [a, b, c, d] (rd_cells hg (by simp) fun j u hu => by
    match j, hu with
    | 0, hu => cases hu; exact h0
    | 1, hu => cases hu; exact h1
    | 2, hu => cases hu; exact h2
    | 3, hu => cases hu; exact h3)
theorem outside_no (n : Int) (w : World) (h : -99 ≤ n ∧ n ≤ 99) : Calls Tryz.prog 92 #[.int .i64 n, .int .i64 99] w fun r w' => r = .returned (.bool false) ∧ w = w' := by
  have h1 : decide (n < -99) = false := by simp; omega
  have h2 : decide (99 < n) = false := by simp; omega
  go_enter Tryz.func92, Tryz.ntmps92
  go_wp2
  go_ret
  exact ⟨rfl, rfl⟩
theorem played_ok (n : Int) (w : World) (h : 1 ≤ n ∧ n ≤ 99) : Calls Tryz.prog 131 #[.int .i64 n] w fun r w' => r = .returned (.bool true) ∧ w = w' := by
  have h1 : decide (1 ≤ n) = true := by simp; omega
  have h2 : decide (n ≤ 99) = true := by simp; omega
  go_enter Tryz.func131, Tryz.ntmps131
  go_wp2
  go_ret
  exact ⟨rfl, rfl⟩
theorem none_ok (w : World) : Calls Tryz.prog 132 #[.int .i64 0] w fun r w' => r = .returned (.bool true) ∧ w = w' := by
  go_enter Tryz.func132, Tryz.ntmps132
  go_wp2
  go_ret
  exact ⟨rfl, rfl⟩
theorem floor_any (a b : Int) (w : World) (ha : -1000 ≤ a ∧ a ≤ 1000) (hb : 1 ≤ b ∧ b ≤ 1000) : Calls Tryz.prog 115 #[.int .i64 a, .int .i64 b] w fun r w' => r = .returned (.int .i64 (floorF a b)) ∧ w = w' := by
  have hq := tdiv_bd a b ha hb
  have hr := tmod_bd a b ha hb
  by_cases h0 : a.tmod b < 0
  · have e : floorF a b = a.tdiv b - 1 := by unfold floorF; rw [if_pos h0]
    rw [e]
    go_enter Tryz.func115, Tryz.ntmps115
    go_wp2
    go_ret
    exact ⟨rfl, rfl⟩
  · have e : floorF a b = a.tdiv b := by unfold floorF; rw [if_neg h0]
    rw [e]
    go_enter Tryz.func115, Tryz.ntmps115
    go_wp2
    go_ret
    exact ⟨rfl, rfl⟩
/-- net strokes of a hole, as they lie in memory: strokes, or picked up -/
inductive MK where
  | o
  | x
  | d
  deriving DecidableEq
structure NI where
  s : Int
  x : MK
instance : Inhabited NI := ⟨⟨0, .o⟩⟩
def mkN : MK → ByteArray
  | .o => ⟨#[]⟩
  | .x => ⟨#[120]⟩
  | .d => ⟨#[45]⟩
def isO : MK → Bool
  | .o => true
  | _ => false
def NI.cells (x : NI) : List Value := [.int .i64 x.s, .string (mkN x.x)]
def NI.val (x : NI) : Value := .agg #[.int .i64 x.s, .string (mkN x.x)]
theorem counts_any (s : Int) (b : MK) (w : World) : Calls Tryz.prog 31 #[.agg #[.int .i64 s, .string (mkN b)]] w fun r w' => r = .returned (.bool (isO b)) ∧ Below w.heap.size w w' := by
  cases b
  all_goals
    simp only [mkN]
    have hb := (Below.refl w.heap.size w).alloc (Nat.le_refl _)
    go_enter Tryz.func31, Tryz.ntmps31
    go_wp2
    go_ret
    exact ⟨rfl, hb _⟩
theorem all1_any (s : Int) (b : MK) (w : World) : Calls Tryz.prog 95 #[.agg #[.int .i64 s, .string (mkN b)]] w fun r w' => r = .returned (.bool (!isO b)) ∧ Below w.heap.size w w' := by
  have hb := (Below.refl w.heap.size w).alloc (Nat.le_refl _) (.cells #[.int .i64 s, .string (mkN b)] 99)
  have HC : ∀ w, Calls Tryz.prog 31 #[.agg #[.int .i64 s, .string (mkN b)]] w fun r w' => r = .returned (.bool (isO b)) ∧ Below w.heap.size w w' := fun w => counts_any s b w
  generalize mkN b = m at *
  cases b
  all_goals
    go_enter Tryz.func95, Tryz.ntmps95
    go_wp2_with (go_at_call 31; refine (HC _).mono ?_; rintro e w' ⟨rfl, hb2⟩)
    go_ret
    exact ⟨rfl, hb.trans (hb2.mono hb.size)⟩
theorem netStrokes_any (s : Int) (m : ByteArray) (w : World) : Calls Tryz.prog 28 #[.agg #[.int .i64 s, .string m]] w fun r w' => r = .returned (.int .i64 s) ∧ Below w.heap.size w w' := by
  have hb := (Below.refl w.heap.size w).alloc (Nat.le_refl _) (.cells #[.int .i64 s, .string m] 99)
  go_enter Tryz.func28, Tryz.ntmps28
  go_wp2
  go_ret
  exact ⟨rfl, hb⟩
end Go.Proofs.YtnaafefcijgpkaaGreatDoor
/- Names, on bytes. -/
namespace Go.Sheet
def letterI (c : Int) : Bool := (decide (97 ≤ c) && decide (c ≤ 122)) || (decide (65 ≤ c) && decide (c ≤ 90))
def goodI (i : Nat) (c : Int) : Bool := letterI c || (!decide (i = 0) && (decide (c = 95) || (decide (48 ≤ c) && decide (c ≤ 57))))
def goodAt : Nat → List UInt8 → Bool
  | _, [] => true
  | i, b :: r => goodI i b.toNat && goodAt (i + 1) r
def nameB (s : ByteArray) : Bool := decide (0 < s.size) && decide (s.size ≤ 24) && goodAt 0 s.data.toList
theorem byte_at (s : ByteArray) (k : Nat) (h : k < s.size) : s.data.toList[k]? = some s[k] := by
  have : k < s.data.toList.length := by simpa using h
  rw [List.getElem?_eq_getElem this]; rfl
theorem good_stop (s : ByteArray) (k : Nat) (h : k < s.size) (h0 : goodI k (s[k].toNat : Int) = false) (e : goodAt k (s.data.toList.drop k) = goodAt 0 s.data.toList) : goodAt 0 s.data.toList = false := by
  rw [← e, drop_at (byte_at s k h), goodAt, h0]; rfl
theorem good_go (s : ByteArray) (k : Nat) (h : k < s.size) (h0 : goodI k (s[k].toNat : Int) = true) (e : goodAt k (s.data.toList.drop k) = goodAt 0 s.data.toList) : goodAt (k + 1) (s.data.toList.drop (k + 1)) = goodAt 0 s.data.toList := by
  rw [← e, drop_at (byte_at s k h), goodAt, h0]; rfl
theorem good_end (s : ByteArray) (k : Nat) (h : s.size ≤ k) (e : goodAt k (s.data.toList.drop k) = goodAt 0 s.data.toList) : goodAt 0 s.data.toList = true := by
  rw [← e, List.drop_of_length_le (by simpa using h)]; rfl
def nameL (l : List UInt8) : Bool := decide (0 < l.length) && decide (l.length ≤ 24) && goodAt 0 l
theorem nameB_eq (s : ByteArray) : nameB s = nameL s.data.toList := by
  have h : s.data.toList.length = s.size := by simp
  rw [nameB, nameL, h]
end Go.Sheet
/- Walks: card.isLetter, card.IsName, niblickref01.IsName. -/
namespace Go.Proofs.YtnaafefcijgpkaaGreatDoor
open Go.RowKit Go.Mem Go.Sheet
theorem isLetter_any (c : Int) (w : World) : Calls Tryz.prog 97 #[.int .i32 c] w fun r w' => r = .returned (.bool (letterI c)) ∧ w = w' := by
  go_enter Tryz.func97, Tryz.ntmps97
  by_cases h1 : 97 ≤ c <;> by_cases h2 : c ≤ 122 <;> by_cases h3 : 65 ≤ c <;> by_cases h4 : c ≤ 90
  all_goals first | omega | skip
  all_goals
    go_wp2
    go_ret
    exact ⟨ret_bool (by unfold letterI; simp; omega), rfl⟩
theorem isLetter_yes (c : Int) (w : World) (h : letterI c = true) : Calls Tryz.prog 97 #[.int .i32 c] w fun r w' => r = .returned (.bool true) ∧ w = w' := by
  rw [← h]; exact isLetter_any c w
theorem isLetter_no (c : Int) (w : World) (h : letterI c = false) : Calls Tryz.prog 97 #[.int .i32 c] w fun r w' => r = .returned (.bool false) ∧ w = w' := by
  rw [← h]; exact isLetter_any c w
theorem bytes_empty (s : ByteArray) : s.toList.isEmpty = decide (s.size = 0) := by
  rw [ByteArray.toList_eq]
  have h : s.data.toList.length = s.size := by simp
  cases hl : s.data.toList with
  | nil => rw [hl] at h; simp at h; simp [← h]
  | cons a l => rw [hl] at h; rw [← h]; rfl
set_option maxRecDepth 100000 in
set_option maxHeartbeats 1000000 in
theorem cardIsName_any (s : ByteArray) (w : World) (hs : s.size ≤ 9223372036854775807) : Calls Tryz.prog 66 #[.string s] w fun e w' => e = .returned (.bool (nameB s)) ∧ Below w.heap.size w w' := by
  have hbi : ∀ p, Below w.heap.size w (w.iter s p) := fun p => (Below.refl _ _).alloc (Nat.le_refl _) _
  go_enter Tryz.func66, Tryz.ntmps66
  go_wp2
  go_loopw [3] (fun _ wr => ∃ k : Nat, k ≤ s.size ∧ wr = w.iter s k ∧ Hid (goodAt k (s.data.toList.drop k) = goodAt 0 s.data.toList)) (fun _ wr => s.size - wr.iterPos w.heap.size)
  case atStart => exact ⟨0, Nat.zero_le _, rfl, rfl⟩
  case round =>
    obtain ⟨k, hk, rfl, he⟩ := hrel
    by_cases hlt : k < s.size
    · by_cases ha : (s[k]'hlt).toNat < 128
      · have hnx : ∀ ty, (Instr.next (.pointer (some ⟨w.heap.size, 0, none⟩)) true ty).run Tryz.prog (w.iter s k) = _ := fun ty => run_next_ascii w s k ty hlt ha
        obtain ⟨c, hc⟩ : ∃ c : Nat, c = (s[k]'hlt).toNat := ⟨_, rfl⟩
        have hstop := good_stop s k hlt
        have hgo := good_go s k hlt
        rw [← hc] at hnx hstop hgo ha
        have HS := Lib.hid hstop
        have HG := Lib.hid hgo
        clear hstop hgo hc
        cases hL : letterI c
        · have hg : goodI k c = (!decide (k = 0) && (decide ((c : Int) = 95) || (decide (48 ≤ (c : Int)) && decide ((c : Int) ≤ 57)))) := by unfold goodI; rw [hL]; rfl
          have HG2 := Lib.hid hg
          have HC := Lib.hid (isLetter_no c · hL)
          clear hg hL
          by_cases h0 : k = 0
          · have HN : Hid (goodI k c = false) := by show _ = _; rw [HG2.out]; simp [h0]
            have h0' : ((k : Int) == 0) = true := by simp; omega
            have HK := Lib.hid h0
            clear h0
            go_wp2_with (go_at_call 97; refine (HC.out _).mono ?_; rintro e w' ⟨rfl, rfl⟩)
            go_ret
            exact ⟨ret_bool (by rw [nameB, HS.out HN.out he.out]; simp), hbi _⟩
          · have h0' : ((k : Int) == 0) = false := by simp; omega
            by_cases h95 : (c : Int) = 95
            · have HN : Hid (goodI k c = true) := by show _ = _; rw [HG2.out]; simp [h0, h95]
              have h95' : ((c : Int) != 95) = false := by simp [h95]
              have HK := Lib.hid h95
              clear h95
              go_wp2_with (go_at_call 97; refine (HC.out _).mono ?_; rintro e w' ⟨rfl, rfl⟩)
              go_roundw
              case rel => exact ⟨k + 1, by omega, rfl, HG.out HN.out he.out⟩
              case measure => simp; omega
            · have h95' : ((c : Int) != 95) = true := by simp; omega
              by_cases h48 : (c : Int) < 48
              · have HN : Hid (goodI k c = false) := by show _ = _; rw [HG2.out]; simp; omega
                go_wp2_with (go_at_call 97; refine (HC.out _).mono ?_; rintro e w' ⟨rfl, rfl⟩)
                go_ret
                exact ⟨ret_bool (by rw [nameB, HS.out HN.out he.out]; simp), hbi _⟩
              · by_cases h57 : 57 < (c : Int)
                · have HN : Hid (goodI k c = false) := by show _ = _; rw [HG2.out]; simp; omega
                  go_wp2_with (go_at_call 97; refine (HC.out _).mono ?_; rintro e w' ⟨rfl, rfl⟩)
                  go_ret
                  exact ⟨ret_bool (by rw [nameB, HS.out HN.out he.out]; simp), hbi _⟩
                · have HN : Hid (goodI k c = true) := by show _ = _; rw [HG2.out]; simp; omega
                  go_wp2_with (go_at_call 97; refine (HC.out _).mono ?_; rintro e w' ⟨rfl, rfl⟩)
                  go_roundw
                  case rel => exact ⟨k + 1, by omega, rfl, HG.out HN.out he.out⟩
                  case measure => simp; omega
        · have HC := Lib.hid (isLetter_yes c · hL)
          have hg : goodI k c = true := by unfold goodI; rw [hL]; rfl
          have HN := Lib.hid hg
          clear hL hg
          go_wp2_with (go_at_call 97; refine (HC.out _).mono ?_; rintro e w' ⟨rfl, rfl⟩)
          go_roundw
          case rel => exact ⟨k + 1, by omega, rfl, HG.out HN.out he.out⟩
          case measure => simp; omega
      · have hnx : ∀ ty, (Instr.next (.pointer (some ⟨w.heap.size, 0, none⟩)) true ty).run Tryz.prog (w.iter s k) = _ := fun ty => run_next_any w s k ty hlt
        have hd := (decode_high s k hlt (by omega)).1
        have hN : goodI k ((s[k]'hlt).toNat : Int) = false := by unfold goodI letterI; simp; omega
        have HE := Lib.hid (good_stop s k hlt hN he.out)
        generalize Utf8.decode s k = d at *
        obtain ⟨c, m⟩ := d
        dsimp only at hnx hd
        have hL : letterI c = false := by unfold letterI; simp; omega
        have HC := Lib.hid (isLetter_no c · hL)
        have h95' : ((c : Int) != 95) = true := by simp; omega
        have h48 : ¬ (c : Int) < 48 := by omega
        have h57 : 57 < (c : Int) := by omega
        clear hN hL ha he
        by_cases h0 : k = 0
        · have h0' : ((k : Int) == 0) = true := by simp; omega
          have HK := Lib.hid h0
          clear h0
          go_wp2_with (go_at_call 97; refine (HC.out _).mono ?_; rintro e w' ⟨rfl, rfl⟩)
          go_ret
          exact ⟨ret_bool (by rw [nameB, HE.out]; simp), hbi _⟩
        · have h0' : ((k : Int) == 0) = false := by simp; omega
          go_wp2_with (go_at_call 97; refine (HC.out _).mono ?_; rintro e w' ⟨rfl, rfl⟩)
          go_ret
          exact ⟨ret_bool (by rw [nameB, HE.out]; simp), hbi _⟩
    · have hnx : ∀ ty, (Instr.next (.pointer (some ⟨w.heap.size, 0, none⟩)) true ty).run Tryz.prog (w.iter s k) = _ := fun ty => run_next_end w s k ty hlt
      have HG := Lib.hid (good_end s k (by omega) he.out)
      have hem : s.toList.isEmpty = decide (s.size = 0) := bytes_empty s
      by_cases h0 : s.size = 0
      · have hem1 : s.toList.isEmpty = true := by rw [hem]; simpa using h0
        have hem2 : s.toList = [] := by simpa using hem1
        have H0 := Lib.hid h0
        clear h0 hem
        go_wp2
        go_ret
        exact ⟨ret_bool (by rw [nameB, H0.out]; rfl), hbi _⟩
      · have hem1 : s.toList.isEmpty = false := by rw [hem]; simpa using h0
        have hem2 : ¬ s.toList = [] := by simpa using hem1
        have HZ := Lib.hid (show 0 < s.size by omega)
        clear hem
        go_wp2
        go_ret
        exact ⟨ret_bool (by have := HZ.out; have h1 : decide (0 < s.size) = true := by simpa using this
                            rw [nameB, HG.out, h1]; simp; omega), hbi _⟩
set_option maxRecDepth 100000 in
set_option maxHeartbeats 1000000 in
theorem refIsName_any (s : ByteArray) (w : World) (hs : s.size ≤ 9223372036854775807) : Calls Tryz.prog 44 #[.string s] w fun e w' => e = .returned (.bool (nameB s)) ∧ w = w' := by
  go_enter Tryz.func44, Tryz.ntmps44
  by_cases h1 : s.size < 1
  · have H := Lib.hid (show nameB s = false by rw [nameB]; simp; omega)
    go_wp2
    go_ret
    exact ⟨ret_bool H.out.symm, rfl⟩
  by_cases h24 : 24 < s.size
  · have H := Lib.hid (show nameB s = false by rw [nameB]; simp; omega)
    go_wp2
    go_ret
    exact ⟨ret_bool H.out.symm, rfl⟩
  go_wp2
  go_loop [3] (fun i => ∃ k : Nat, k ≤ s.size ∧ i = .int .i64 k ∧ Hid (goodAt k (s.data.toList.drop k) = goodAt 0 s.data.toList)) (fun i => s.size - (intOf i).toNat)
  case atStart => exact ⟨0, Nat.zero_le _, rfl, rfl⟩
  case round =>
    obtain ⟨k, hk, rfl, he⟩ := hrel
    by_cases hlt : k < s.size
    · have hstop := good_stop s k hlt
      have hgo := good_go s k hlt
      obtain ⟨c, hc⟩ : ∃ c : Nat, (s[k]'hlt).toNat = c := ⟨_, rfl⟩
      rw [hc] at hstop hgo
      have HS := Lib.hid hstop
      have HG := Lib.hid hgo
      have HNS : Hid (goodI k c = false → nameB s = false) := fun h => by rw [nameB, HS.out h he.out]; simp
      clear hstop hgo
      have hg : goodI k c = (letterI c || (!decide (k = 0) && (decide ((c : Int) = 95) || (decide (48 ≤ (c : Int)) && decide ((c : Int) ≤ 57))))) := rfl
      have HG2 := Lib.hid hg
      clear hg
      by_cases hL : (97 ≤ c ∧ c ≤ 122) ∨ (65 ≤ c ∧ c ≤ 90)
      · have HN : Hid (goodI k c = true) := by show _ = _; rw [HG2.out]; unfold letterI; simp; omega
        rcases hL with ⟨l1, l2⟩ | ⟨l1, l2⟩
        all_goals
          (try have d0 : decide ((97 : Int) ≤ (c : Int)) = true := by simp; omega)
          (try have d0 : decide ((97 : Int) ≤ (c : Int)) = false := by simp; omega)
          (try have d1 : decide ((c : Int) ≤ 122) = true := by simp; omega)
          (try have d1 : decide ((c : Int) ≤ 122) = false := by simp; omega)
          (try have d2 : decide ((65 : Int) ≤ (c : Int)) = true := by simp; omega)
          (try have d2 : decide ((65 : Int) ≤ (c : Int)) = false := by simp; omega)
          (try have d3 : decide ((c : Int) ≤ 90) = true := by simp; omega)
          (try have d3 : decide ((c : Int) ≤ 90) = false := by simp; omega)
          (try have d4 : decide ((48 : Int) ≤ (c : Int)) = true := by simp; omega)
          (try have d4 : decide ((48 : Int) ≤ (c : Int)) = false := by simp; omega)
          (try have d5 : decide ((c : Int) ≤ 57) = true := by simp; omega)
          (try have d5 : decide ((c : Int) ≤ 57) = false := by simp; omega)
          go_wp2
          go_round
          case rel => exact ⟨k + 1, by omega, by go_num, HG.out HN.out he.out⟩
          case measure => simp [intOf]; omega
      · have HL := Lib.hid hL
        by_cases h0 : k = 0
        · have HN : Hid (goodI k c = false) := by show _ = _; rw [HG2.out]; unfold letterI; simp; omega
          have HB : Hid (nameB s = false) := HNS.out HN.out
          have h0' : ((k : Int) == 0) = true := by simp; omega
          have HK := Lib.hid h0
          clear h0 hL
          have l : c < 65 ∨ (90 < c ∧ c < 97) ∨ 122 < c := by have := HL.out; omega
          rcases l with l | ⟨l1, l2⟩ | l
          all_goals
            (try have d0 : decide ((97 : Int) ≤ (c : Int)) = true := by simp; omega)
            (try have d0 : decide ((97 : Int) ≤ (c : Int)) = false := by simp; omega)
            (try have d1 : decide ((c : Int) ≤ 122) = true := by simp; omega)
            (try have d1 : decide ((c : Int) ≤ 122) = false := by simp; omega)
            (try have d2 : decide ((65 : Int) ≤ (c : Int)) = true := by simp; omega)
            (try have d2 : decide ((65 : Int) ≤ (c : Int)) = false := by simp; omega)
            (try have d3 : decide ((c : Int) ≤ 90) = true := by simp; omega)
            (try have d3 : decide ((c : Int) ≤ 90) = false := by simp; omega)
            (try have d4 : decide ((48 : Int) ≤ (c : Int)) = true := by simp; omega)
            (try have d4 : decide ((48 : Int) ≤ (c : Int)) = false := by simp; omega)
            (try have d5 : decide ((c : Int) ≤ 57) = true := by simp; omega)
            (try have d5 : decide ((c : Int) ≤ 57) = false := by simp; omega)
            go_wp2
            go_ret
            exact ⟨ret_bool HB.out.symm, rfl⟩
        · have h0' : ((k : Int) == 0) = false := by simp; omega
          by_cases hd : c = 95 ∨ (48 ≤ c ∧ c ≤ 57)
          · have HN : Hid (goodI k c = true) := by show _ = _; rw [HG2.out]; simp; omega
            rcases hd with rfl | ⟨l1, l2⟩
            all_goals
              clear hL
              (try have d0 : decide ((97 : Int) ≤ (c : Int)) = true := by simp; omega)
              (try have d0 : decide ((97 : Int) ≤ (c : Int)) = false := by simp; omega)
              (try have d1 : decide ((c : Int) ≤ 122) = true := by simp; omega)
              (try have d1 : decide ((c : Int) ≤ 122) = false := by simp; omega)
              (try have d2 : decide ((65 : Int) ≤ (c : Int)) = true := by simp; omega)
              (try have d2 : decide ((65 : Int) ≤ (c : Int)) = false := by simp; omega)
              (try have d3 : decide ((c : Int) ≤ 90) = true := by simp; omega)
              (try have d3 : decide ((c : Int) ≤ 90) = false := by simp; omega)
              (try have d4 : decide ((48 : Int) ≤ (c : Int)) = true := by simp; omega)
              (try have d4 : decide ((48 : Int) ≤ (c : Int)) = false := by simp; omega)
              (try have d5 : decide ((c : Int) ≤ 57) = true := by simp; omega)
              (try have d5 : decide ((c : Int) ≤ 57) = false := by simp; omega)
              go_wp2
              go_round
              case rel => exact ⟨k + 1, by omega, by go_num, HG.out HN.out he.out⟩
              case measure => simp [intOf]; omega
          · have HN : Hid (goodI k c = false) := by show _ = _; rw [HG2.out]; unfold letterI; simp; omega
            have HB : Hid (nameB s = false) := HNS.out HN.out
            have h95 : ((c : Int) == 95) = false := by simp; omega
            have l : c < 48 ∨ (57 < c ∧ c < 65) ∨ (90 < c ∧ c < 97) ∨ 122 < c := by omega
            clear hL hd
            rcases l with l | ⟨l1, l2⟩ | ⟨l1, l2⟩ | l
            all_goals
              (try have d0 : decide ((97 : Int) ≤ (c : Int)) = true := by simp; omega)
              (try have d0 : decide ((97 : Int) ≤ (c : Int)) = false := by simp; omega)
              (try have d1 : decide ((c : Int) ≤ 122) = true := by simp; omega)
              (try have d1 : decide ((c : Int) ≤ 122) = false := by simp; omega)
              (try have d2 : decide ((65 : Int) ≤ (c : Int)) = true := by simp; omega)
              (try have d2 : decide ((65 : Int) ≤ (c : Int)) = false := by simp; omega)
              (try have d3 : decide ((c : Int) ≤ 90) = true := by simp; omega)
              (try have d3 : decide ((c : Int) ≤ 90) = false := by simp; omega)
              (try have d4 : decide ((48 : Int) ≤ (c : Int)) = true := by simp; omega)
              (try have d4 : decide ((48 : Int) ≤ (c : Int)) = false := by simp; omega)
              (try have d5 : decide ((c : Int) ≤ 57) = true := by simp; omega)
              (try have d5 : decide ((c : Int) ≤ 57) = false := by simp; omega)
              go_wp2
              go_ret
              exact ⟨ret_bool HB.out.symm, rfl⟩
    · have HG := Lib.hid (good_end s k (by omega) he.out)
      have HN : Hid (nameB s = true) := by show _ = _; rw [nameB, HG.out]; simp; omega
      go_wp2
      go_ret
      exact ⟨ret_bool HN.out.symm, rfl⟩
end Go.Proofs.YtnaafefcijgpkaaGreatDoor
/- Chapter 5: the reference's checks of holes, entries, cards. -/
namespace Go.Proofs.YtnaafefcijgpkaaGreatDoor
open Go.RowKit Go.Mem Go.Sheet Go.Adj
theorem below_drewN {B : Nat} {a w : World} (h : Below B a w) (n : Nat) : Below B a (w.drewN n) := ⟨h.os, h.tape, h.output, h.size, h.block⟩
/-- an error number: 0 only if P -/
def IsE (P : Prop) (e : Ending) : Prop := ∃ c : Int, e = .returned (.int .i64 c) ∧ (c = 0 → P)
theorem isE_ne {P : Prop} {c : Int} (h : c ≠ 0) : IsE P (.returned (.int .i64 c)) := ⟨c, rfl, fun h0 => absurd h0 h⟩
theorem isE_ok {P : Prop} (h : P) : IsE P (.returned (.int .i64 0)) := ⟨0, rfl, fun _ => h⟩
/-- the first k holes are without an error -/
structure GoodTo (hs : List HI) (k : Nat) : Prop where
  par : ∀ i, i < k → 3 ≤ (hAt hs i).par ∧ (hAt hs i).par ≤ 6
  idx : ∀ i, i < k → 1 ≤ (hAt hs i).idx ∧ (hAt hs i).idx ≤ hs.length
  two : ∀ i j, i < k → j < i → (hAt hs j).idx ≠ (hAt hs i).idx
theorem goodTo_succ {hs : List HI} {k : Nat} {x : HI} (h : GoodTo hs k) (hx : hs[k]? = some x) (hp : 3 ≤ x.par ∧ x.par ≤ 6) (hi : 1 ≤ x.idx ∧ x.idx ≤ hs.length) (ht : ∀ j, j < k → (hAt hs j).idx ≠ x.idx) : GoodTo hs (k + 1) := by
  have e := hAt_eq hx
  refine ⟨fun i hi2 => ?_, fun i hi2 => ?_, fun i j hi2 hj => ?_⟩
  · by_cases hik : i = k
    · subst hik; rw [e]; exact hp
    · exact h.par i (by omega)
  · by_cases hik : i = k
    · subst hik; rw [e]; exact hi
    · exact h.idx i (by omega)
  · by_cases hik : i = k
    · subst hik; rw [e]; exact ht j hj
    · exact h.two i j (by omega) hj
set_option maxRecDepth 100000 in
set_option maxHeartbeats 4000000 in
theorem refCheckHoles_any (w : World) (v : Value) (n : Nat) (hs : List HI) (h : Rd w (· < w.heap.size) 2 v n (hs.flatMap HI.cells)) :
    Calls Tryz.prog 47 #[v] w fun e w' => IsE (GoodH hs) e ∧ ∃ q, w' = w.drewN q := by
  have HL := Lib.hid (h.count (f := HI.cells) (size := 2) (fun _ => rfl) (by decide))
  have hn := h.le
  obtain ⟨A, c, rfl, _, _, h⟩ := h.open_
  generalize hP : GoodH hs = P
  have HP := Lib.hid hP
  clear hP
  go_enter Tryz.func47, Tryz.ntmps47
  by_cases h0 : n = 0
  · subst h0
    go_wp2
    go_ret
    exact ⟨isE_ne (by decide), 0, rfl⟩
  have e0 : ((n : Int) == 0) = false := by simp; omega
  by_cases h36 : 36 < n
  · go_wp2
    go_ret
    exact ⟨isE_ne (by decide), 0, rfl⟩
  have HN := Lib.hid (And.intro h0 h36)
  go_wp2
  clear e0
  go_loopw [3] (fun i w' => ∃ k q : Nat, k ≤ n ∧ i = .int .i64 k ∧ w' = w.drewN q ∧ Hid (GoodTo hs k)) (fun i _ => n - (intOf i).toNat)
  case atStart => exact ⟨0, 0, Nat.zero_le _, rfl, rfl, ⟨fun i hi => by omega, fun i hi => by omega, fun i j hi => by omega⟩⟩
  case round =>
    obtain ⟨k, q, hk, rfl, rfl, he⟩ := hrel
    by_cases hlt : k < n
    · obtain ⟨b, o, x, hA, hx, c0, c1⟩ := h.elem2 (k := k) (fun s : HI => .int .i64 s.par) (fun s : HI => .int .i64 s.idx) (fun _ => rfl) hlt
      have HX := Lib.hid hx
      clear hx
      by_cases t1 : x.par < 3
      · subst hA
        go_wp2
        go_ret
        exact ⟨isE_ne (by decide), _, rfl⟩
      by_cases t2 : 6 < x.par
      · subst hA
        go_wp2
        go_ret
        exact ⟨isE_ne (by decide), _, rfl⟩
      by_cases t3 : x.idx < 1
      · subst hA
        go_wp2
        go_ret
        exact ⟨isE_ne (by decide), _, rfl⟩
      by_cases t4 : (n : Int) < x.idx
      · subst hA
        go_wp2
        go_ret
        exact ⟨isE_ne (by decide), _, rfl⟩
      have HT := Lib.hid (And.intro (And.intro t1 t2) (And.intro t3 t4))
      have HH := Lib.hid h
      subst hA
      go_wp2
      clear t1 t2 t3 t4
      obtain ⟨wA, hwA⟩ : ∃ w1, w1 = w.drewN q := ⟨_, rfl⟩
      go_loopw [4] (fun i w' => ∃ j q : Nat, j ≤ k ∧ i = .int .i64 j ∧ w' = w.drewN q ∧ Hid (∀ i, i < j → (hAt hs i).idx ≠ x.idx)) (fun i _ => k - (intOf i).toNat)
      case atStart => exact ⟨0, q, Nat.zero_le _, rfl, rfl, fun i hi => by omega⟩
      case round =>
        obtain ⟨j, q2, hj, rfl, rfl, hd⟩ := hrel
        by_cases hjl : j < k
        · obtain ⟨b', o', y, hA', hy, d0, d1⟩ := HH.out.elem2 (k := j) (fun s : HI => .int .i64 s.par) (fun s : HI => .int .i64 s.idx) (fun _ => rfl) (by omega)
          cases hA'
          have HY := Lib.hid hy
          clear hy
          go_wp2_with fail
          go_quiet (fail)
          go_wp2
          · go_ret
            exact ⟨isE_ne (by decide), _, World.drewN_drewN _ _ _⟩
          · go_roundw
            case rel => exact ⟨j + 1, _, by omega, by go_num, rfl, fun i hi => by
              by_cases e : i = j
              · subst e; rw [hAt_eq HY.out]; simpa using ‹(y.idx == x.idx) = false›
              · exact hd.out i (by omega)⟩
            case measure => simp [intOf]; omega
        · have ejk : j = k := by omega
          subst ejk
          have HG : Hid (GoodTo hs (j + 1)) := goodTo_succ he.out HX.out (by have := HT.out; omega) (by have := HT.out; have := HL.out; omega) hd.out
          clear he hd
          go_wp2
          go_roundw
          case rel => exact ⟨j + 1, q2, by omega, by go_num, rfl, HG.out⟩
          case measure => simp [intOf]; omega
    · go_wp2
      go_ret
      obtain rfl : k = n := by omega
      refine ⟨isE_ok ?_, q, rfl⟩
      rw [← HP.out]
      have hl := HL.out
      subst hl
      exact ⟨by have := HN.out; omega, he.out.par, he.out.idx, he.out.two⟩
theorem bytes_ne {m : ByteArray} {l : List UInt8} (h : m ≠ ⟨⟨l⟩⟩) : (m.toList == l) = false := by
  rw [ByteArray.toList_eq]
  rw [Bool.eq_false_iff]
  intro e
  obtain ⟨⟨d⟩⟩ := m
  have : d = l := by simpa using e
  subst this
  exact h rfl
theorem bytes_ne0 {m : ByteArray} (h : m ≠ ⟨#[]⟩) : m.toList.isEmpty = false := by
  have := bytes_ne (l := []) h
  cases hm : m.toList with
  | nil => rw [hm] at this; cases this
  | cons a l => rfl
set_option maxRecDepth 100000 in
theorem refCheckEntry_any (w : World) (s : Int) (m : ByteArray) : Calls Tryz.prog 74 #[.agg #[.int .i64 s, .string m]] w fun e w' => IsE (GoodE ⟨s, m⟩) e ∧ Below w.heap.size w w' := by
  have hoth : ∀ m : ByteArray, m ≠ be → m ≠ bc → m ≠ bx → m ≠ bd → Calls Tryz.prog 74 #[.agg #[.int .i64 s, .string m]] w fun e w' => IsE (GoodE ⟨s, m⟩) e ∧ Below w.heap.size w w' := by
    intro m h1 h2 h3 h4
    generalize GoodE ⟨s, m⟩ = P
    have HB := Lib.hid ((Below.refl w.heap.size w).alloc (Nat.le_refl _) (.cells #[.int .i64 s, .string m] 65))
    have t1 := bytes_ne0 h1
    have t2 : (m.toList == [99]) = false := bytes_ne h2
    have t3 : (m.toList == [120]) = false := bytes_ne h3
    have t4 : (m.toList == [45]) = false := bytes_ne h4
    clear h1 h2 h3 h4
    go_enter Tryz.func74, Tryz.ntmps74
    go_wp2
    go_ret
    exact ⟨isE_ne (by decide), HB.out⟩
  have hnum : ∀ m : ByteArray, (m = ⟨#[]⟩ ∨ m = ⟨#[99]⟩) → Calls Tryz.prog 74 #[.agg #[.int .i64 s, .string m]] w fun e w' => IsE (GoodE ⟨s, m⟩) e ∧ Below w.heap.size w w' := by
    rintro m hm
    have HB := Lib.hid ((Below.refl w.heap.size w).alloc (Nat.le_refl _) (.cells #[.int .i64 s, .string m] 65))
    have HG : Hid (1 ≤ s ∧ s ≤ 99 → GoodE ⟨s, m⟩) := fun h => .inl ⟨hm, h⟩
    generalize GoodE ⟨s, m⟩ = P at *
    by_cases h1 : s < 1
    · rcases hm with rfl | rfl
      all_goals
        go_enter Tryz.func74, Tryz.ntmps74
        go_wp2
        go_ret
        exact ⟨isE_ne (by decide), HB.out⟩
    by_cases h2 : 99 < s
    · rcases hm with rfl | rfl
      all_goals
        go_enter Tryz.func74, Tryz.ntmps74
        go_wp2
        go_ret
        exact ⟨isE_ne (by decide), HB.out⟩
    have HOK := Lib.hid (HG.out (by omega))
    rcases hm with rfl | rfl
    all_goals
      go_enter Tryz.func74, Tryz.ntmps74
      go_wp2
      go_ret
      exact ⟨isE_ok HOK.out, HB.out⟩
  have hno : ∀ m : ByteArray, (m = ⟨#[120]⟩ ∨ m = ⟨#[45]⟩) → Calls Tryz.prog 74 #[.agg #[.int .i64 s, .string m]] w fun e w' => IsE (GoodE ⟨s, m⟩) e ∧ Below w.heap.size w w' := by
    rintro m hm
    have HB := Lib.hid ((Below.refl w.heap.size w).alloc (Nat.le_refl _) (.cells #[.int .i64 s, .string m] 65))
    have HG : Hid (s = 0 → GoodE ⟨s, m⟩) := fun h => .inr ⟨hm, h⟩
    generalize GoodE ⟨s, m⟩ = P at *
    by_cases h1 : s = 0
    · have HOK := Lib.hid (HG.out h1)
      subst h1
      clear HG
      rcases hm with rfl | rfl
      all_goals
        go_enter Tryz.func74, Tryz.ntmps74
        go_wp2
        go_ret
        exact ⟨isE_ok HOK.out, HB.out⟩
    · have h2 : (s != 0) = true := by simp [h1]
      clear HG
      rcases hm with rfl | rfl
      all_goals
        go_enter Tryz.func74, Tryz.ntmps74
        go_wp2
        go_ret
        exact ⟨isE_ne (by decide), HB.out⟩
  by_cases m1 : m = be
  · exact hnum m (.inl m1)
  by_cases m2 : m = bc
  · exact hnum m (.inr m2)
  by_cases m3 : m = bx
  · exact hno m (.inl m3)
  by_cases m4 : m = bd
  · exact hno m (.inr m4)
  exact hoth m m1 m2 m3 m4
set_option maxRecDepth 100000 in
set_option maxHeartbeats 4000000 in
theorem refCheckEntries_any (W : World) (v : Value) (n : Nat) (es : List EI) (h : Rd W (· < W.heap.size) 2 v n (es.flatMap EI.cells)) :
    Calls Tryz.prog 104 #[v] W fun e w' => IsE (∀ i, i < n → GoodE (eAt es i)) e ∧ Below W.heap.size W w' := by
  have hn := h.le
  obtain ⟨A, c, rfl, _, _, h⟩ := h.open_
  have H := Lib.hid h
  generalize hP : (∀ i, i < n → GoodE (eAt es i)) = P
  have HP := Lib.hid hP
  clear hP h
  go_enter Tryz.func104, Tryz.ntmps104
  go_wp2
  go_loopw [3] (fun i w' => ∃ k : Nat, k ≤ n ∧ i = .int .i64 k ∧ Below W.heap.size W w' ∧ Hid (∀ i, i < k → GoodE (eAt es i))) (fun i _ => n - (intOf i).toNat)
  case atStart => exact ⟨0, Nat.zero_le _, rfl, Below.refl _ _, fun i hi => by omega⟩
  case round =>
    obtain ⟨k, hk, rfl, hbw, he⟩ := hrel
    by_cases hlt : k < n
    · obtain ⟨b, o, x, rfl, hx, c0, c1⟩ := (H.out.below hbw).elem2 (k := k) (fun s : EI => .int .i64 s.s) (fun s : EI => .string s.m) (fun _ => rfl) hlt
      have HX := Lib.hid hx
      have HB := Lib.hid hbw
      clear hx hbw
      obtain ⟨xs, xm⟩ := x
      simp only at c0 c1
      go_wp2_with (go_at_call 74; refine (refCheckEntry_any _ _ _).mono ?_; rintro e w' ⟨⟨ec, rfl, hg⟩, hb2⟩; have HG := Lib.hid hg; have HB2 := Lib.hid hb2; clear hg hb2)
      · go_ret
        refine ⟨isE_ne ?_, HB.out.trans (HB2.out.mono HB.out.size)⟩
        simpa using ‹(ec != 0) = true›
      · have e0 : ec = 0 := by simpa using ‹(ec != 0) = false›
        have HG2 : Hid (∀ i, i < k + 1 → GoodE (eAt es i)) := fun i hi => by
          by_cases e : i = k
          · subst e; rw [eAt_eq HX.out]; exact HG.out e0
          · exact he.out i (by omega)
        go_roundw
        case rel => exact ⟨k + 1, by omega, by go_num, HB.out.trans (HB2.out.mono HB.out.size), HG2.out⟩
        case measure => simp [intOf]; omega
    · have HB := Lib.hid hbw
      clear hbw
      go_wp2
      go_ret
      obtain rfl : k = n := by omega
      exact ⟨isE_ok (by rw [← HP.out]; exact he.out), HB.out⟩
end Go.Proofs.YtnaafefcijgpkaaGreatDoor
/- Chapter 5: the reference's check of a card. -/
namespace Go.Proofs.YtnaafefcijgpkaaGreatDoor
open Go.RowKit Go.Mem Go.Sheet Go.Adj
def GoodC (hs : List HI) (name : ByteArray) (m : Nat) (es : List EI) : Prop := GoodH hs ∧ nameB name = true ∧ m = hs.length ∧ ∀ i, i < m → GoodE (eAt es i)
theorem ret_isE {P : Prop} {c : Int} (h : c = 0 → P) : IsE P (.returned (.int .i64 c)) := ⟨c, rfl, h⟩
set_option maxRecDepth 100000 in
set_option maxHeartbeats 4000000 in
theorem refCheckCard_any (W : World) (v ve : Value) (n m : Nat) (hs : List HI) (es : List EI) (name : ByteArray) (hsz : name.size ≤ 9223372036854775807) (h : Rd W (· < W.heap.size) 2 v n (hs.flatMap HI.cells)) (he : Rd W (· < W.heap.size) 2 ve m (es.flatMap EI.cells)) :
    Calls Tryz.prog 79 #[v, .agg #[.string name, ve]] W fun e w' => IsE (GoodC hs name m es) e ∧ Below W.heap.size W w' := by
  have HL := Lib.hid (h.count (f := HI.cells) (size := 2) (fun _ => rfl) (by decide))
  have hn := h.le
  have hm := he.le
  have H := Lib.hid h
  have HE := Lib.hid he
  obtain ⟨A, c, rfl, _, _, _⟩ := h.open_
  obtain ⟨Ae, ce, rfl, _, _, _⟩ := he.open_
  clear h he
  have hb := (Below.refl W.heap.size W).alloc (Nat.le_refl _) (.cells #[.string name, .slice Ae m ce] 47)
  have hc : ∀ w', Below (W.alloc (.cells #[.string name, .slice Ae m ce] 47)).heap.size (W.alloc (.cells #[.string name, .slice Ae m ce] 47)) w' → w'.cell? ⟨W.heap.size, 0, none⟩ = some (.string name) ∧ w'.cell? ⟨W.heap.size, 1, none⟩ = some (.slice Ae m ce) := fun w' h => ⟨(h.cell (p := ⟨W.heap.size, 0, none⟩) (by simp)).trans (by simp), (h.cell (p := ⟨W.heap.size, 1, none⟩) (by simp)).trans (by simp)⟩
  have HNM := Lib.hid (fun w => refIsName_any name w hsz)
  generalize hnb : nameB name = nb at *
  generalize hP : GoodC hs name m es = P
  have HP : Hid (GoodH hs → nb = true → m = n → (∀ i, i < m → GoodE (eAt es i)) → P) := fun g1 g2 g3 g4 => by rw [← hP]; exact ⟨g1, hnb.trans g2, g3.trans HL.out, g4⟩
  clear hP hnb HL
  go_enter Tryz.func79, Tryz.ntmps79
  go_wp2_with fail
  have HB := Lib.hid hb
  have HC := Lib.hid hc
  have H1 := Lib.hid (H.out.later hb)
  have HE1 := Lib.hid (HE.out.later hb)
  clear hb hc H HE
  generalize W.alloc (.cells #[.string name, .slice Ae m ce] 47) = W1 at *
  generalize W.heap.size = gc at HC ⊢
  have HCH := Lib.hid (refCheckHoles_any W1 _ n hs H1.out)
  go_at_call 47
  refine HCH.out.mono ?_
  rintro e w' ⟨⟨ec, rfl, hg⟩, q, rfl⟩
  have hbw := below_drewN (Below.refl W1.heap.size W1) q
  obtain ⟨c0, c1⟩ := HC.out _ hbw
  have HB2 := Lib.hid hbw
  have HG := Lib.hid hg
  clear hbw hg
  generalize W1.drewN q = w1 at *
  have HEX := Lib.hid (refCheckEntries_any w1 _ m es (HE1.out.later HB2.out))
  clear HCH H1 HE1 HC
  by_cases h0 : ec = 0
  · subst h0
    have HG2 := Lib.hid (HG.out rfl)
    clear HG
    cases nb
    · go_wp2_with (go_at_call 44; refine (HNM.out _).mono ?_; rintro e w' ⟨rfl, rfl⟩)
      go_ret
      exact ⟨isE_ne (by decide), HB.out.trans (HB2.out.mono HB.out.size)⟩
    · by_cases hmn : m = n
      · have HMN := Lib.hid hmn
        have e1 : ((m : Int) != n) = false := by simp [hmn]
        clear hmn
        go_wp2_with (first
          | (go_at_call 44; refine (HNM.out _).mono ?_; rintro e w' ⟨rfl, rfl⟩)
          | (go_at_call 104; refine HEX.out.mono ?_; rintro e w' ⟨⟨ed, rfl, hg2⟩, hb2⟩; have HG3 := Lib.hid hg2; have HB3 := Lib.hid hb2; clear hg2 hb2))
        go_ret
        exact ⟨ret_isE (fun h => HP.out HG2.out (by trivial) HMN.out (HG3.out h)), HB.out.trans ((HB2.out.trans (HB3.out.mono HB2.out.size)).mono HB.out.size)⟩
      · have e1 : ((m : Int) != n) = true := by simp; omega
        clear hmn
        go_wp2_with (go_at_call 44; refine (HNM.out _).mono ?_; rintro e w' ⟨rfl, rfl⟩)
        go_ret
        exact ⟨isE_ne (by decide), HB.out.trans (HB2.out.mono HB.out.size)⟩
  · have e0 : (ec == 0) = false := by simp [h0]
    have H0 := Lib.hid h0
    clear h0
    go_wp2
    go_ret
    exact ⟨isE_ne H0.out, HB.out.trans (HB2.out.mono HB.out.size)⟩
end Go.Proofs.YtnaafefcijgpkaaGreatDoor
/- Chapter 5: the reference's check of a field. -/
namespace Go.Adj
open Go.RowKit Go.Mem
structure PI where
  name : ByteArray
  a : Option Addr
  m : Nat
  c : Nat
  es : List EI
  co : Int
instance : Inhabited PI := ⟨⟨⟨#[]⟩, none, 0, 0, [], 0⟩⟩
def PI.cells (p : PI) : List Value := [.string p.name, .slice p.a p.m p.c, .int .i64 p.co]
def pAt (ps : List PI) (i : Nat) : PI := ps.getD i default
theorem pAt_eq {ps : List PI} {i : Nat} {x : PI} (h : ps[i]? = some x) : pAt ps i = x := by unfold pAt; simp [List.getD, h]
/-- players, as they lie in memory -/
def RdPl (w : World) (S : Nat → Prop) (v : Value) (n : Nat) (ps : List PI) : Prop :=
  Go.Mem.Rd w S 3 v n (ps.flatMap PI.cells) ∧ ∀ p ∈ ps, Go.Mem.Rd w S 2 (.slice p.a p.m p.c) p.m (p.es.flatMap EI.cells) ∧ p.name.size ≤ 9223372036854775807
theorem RdPl.below {w w' : World} {B : Nat} {v : Value} {n : Nat} {ps : List PI} (h : RdPl w (· < B) v n ps) (hb : Below B w w') : RdPl w' (· < B) v n ps :=
  ⟨h.1.below hb, fun p hp => ⟨(h.2 p hp).1.below hb, (h.2 p hp).2⟩⟩
theorem RdPl.later {w w' : World} {v : Value} {n : Nat} {ps : List PI} (h : RdPl w (· < w.heap.size) v n ps) (hb : Below w.heap.size w w') : RdPl w' (· < w'.heap.size) v n ps :=
  ⟨h.1.later hb, fun p hp => ⟨(h.2 p hp).1.later hb, (h.2 p hp).2⟩⟩
theorem RdPl.count {w : World} {S : Nat → Prop} {v : Value} {n : Nat} {ps : List PI} (h : RdPl w S v n ps) : n = ps.length := h.1.count (f := PI.cells) (size := 3) (fun _ => rfl) (by decide)
theorem RdPl.elem {w : World} {S : Nat → Prop} {A : Option Addr} {m c n k : Nat} {ps : List PI} (h : RdPl w S (.slice A m c) n ps) (hk : k < n) :
    ∃ g o x, A = some ⟨g, o, none⟩ ∧ ps[k]? = some x ∧ w.cell? ⟨g, o + k * 3, none⟩ = some (.string x.name) ∧ w.cell? ⟨g, o + k * 3 + 1, none⟩ = some (.slice x.a x.m x.c) ∧ w.cell? ⟨g, o + k * 3 + 2, none⟩ = some (.int .i64 x.co) :=
  h.1.elem3 (k := k) (fun s : PI => .string s.name) (fun s : PI => .slice s.a s.m s.c) (fun s : PI => .int .i64 s.co) (fun _ => rfl) hk
end Go.Adj
namespace Go.Proofs.YtnaafefcijgpkaaGreatDoor
open Go.RowKit Go.Mem Go.Sheet Go.Adj
def IsBo (P : Prop) (e : Ending) : Prop := ∃ b : Bool, e = .returned (.bool b) ∧ (b = true → P)
theorem isBo_no {P : Prop} : IsBo P (.returned (.bool false)) := ⟨false, rfl, fun h => by cases h⟩
theorem isBo_yes {P : Prop} (h : P) : IsBo P (.returned (.bool true)) := ⟨true, rfl, fun _ => h⟩
theorem isBo_of {P : Prop} {b : Bool} (h : b = true → P) : IsBo P (.returned (.bool b)) := ⟨b, rfl, h⟩
set_option maxRecDepth 100000 in
set_option maxHeartbeats 4000000 in
theorem shortPlayer_any (W : World) (name : ByteArray) (A : Option Addr) (m c : Nat) (es : List EI) (co : Int) (h : Rd W (· < W.heap.size) 2 (.slice A m c) m (es.flatMap EI.cells)) :
    Calls Tryz.prog 73 #[.agg #[.string name, .slice A m c, .int .i64 co]] W fun e w' => IsBo True e ∧ Below W.heap.size W w' := by
  have hn := h.le
  have hb := (Below.refl W.heap.size W).alloc (Nat.le_refl _) (.cells #[.string name, .slice A m c, .int .i64 co] 146)
  have HB := Lib.hid hb
  have c0 : (W.alloc (.cells #[.string name, .slice A m c, .int .i64 co] 146)).cell? ⟨W.heap.size, 0, none⟩ = some (.string name) := by simp
  have c1 : (W.alloc (.cells #[.string name, .slice A m c, .int .i64 co] 146)).cell? ⟨W.heap.size, 1, none⟩ = some (.slice A m c) := by simp
  have H := Lib.hid (h.later hb)
  clear h hb
  generalize hW1 : W.alloc (.cells #[.string name, .slice A m c, .int .i64 co] 146) = W1 at *
  go_enter Tryz.func73, Tryz.ntmps73
  by_cases h1 : 60 < (name.size : Int)
  · have t1 : decide (60 < (name.size : Int)) = true := by simpa using h1
    subst hW1
    clear h1
    go_wp2
    go_ret
    exact ⟨isBo_no, HB.out⟩
  have t1 : decide (60 < (name.size : Int)) = false := by simpa using h1
  by_cases h2 : 39 < (m : Int)
  · have t2 : decide (39 < (m : Int)) = true := by simpa using h2
    subst hW1
    clear h1 h2
    go_wp2
    go_ret
    exact ⟨isBo_no, HB.out⟩
  have t2 : decide (39 < (m : Int)) = false := by simpa using h2
  clear h1 h2
  subst hW1
  go_wp2
  generalize W.alloc (.cells #[.string name, .slice A m c, .int .i64 co] 146) = W1 at *
  go_loopw [3] (fun i w' => ∃ k : Nat, k ≤ m ∧ i = .int .i64 k ∧ w' = W1) (fun i _ => m - (intOf i).toNat)
  case atStart => exact ⟨0, Nat.zero_le _, rfl, rfl⟩
  case round =>
    obtain ⟨k, hk, rfl, rfl⟩ := hrel
    by_cases hlt : k < m
    · obtain ⟨b, o, x, rfl, hx, d0, d1⟩ := H.out.elem2 (k := k) (fun s : EI => .int .i64 s.s) (fun s : EI => .string s.m) (fun _ => rfl) hlt
      clear hx
      obtain ⟨xs, xm⟩ := x
      simp only at d0 d1
      by_cases h3 : 60 < (xm.size : Int)
      · have t3 : decide (60 < (xm.size : Int)) = true := by simpa using h3
        go_wp2
        go_ret
        exact ⟨isBo_no, HB.out⟩
      · have t3 : decide (60 < (xm.size : Int)) = false := by simpa using h3
        clear h3
        go_wp2
        go_roundw
        case rel => exact ⟨k + 1, by omega, by go_num, by first | rfl | trivial⟩
        case measure => simp [intOf]; omega
    · go_wp2
      go_ret
      exact ⟨isBo_yes trivial, HB.out⟩
end Go.Proofs.YtnaafefcijgpkaaGreatDoor
/- Chapter 10: a union, as it lies in memory; what it is to be without an error. Plain. -/
namespace Go.Adj
open Go.RowKit Go.Mem
structure MbI where
  name : ByteArray
  club : ByteArray
  co : Int
structure MkI where
  pl : ByteArray
  by_ : ByteArray
  h : Int
  s : Int
  m : ByteArray
structure CdI where
  name : ByteArray
  a : Option Addr
  m : Nat
  c : Nat
  es : List EI
structure KpI where
  name : ByteArray
  ha : Option Addr
  hn : Nat
  hc : Nat
  hs : List HI
  ca : Option Addr
  cn : Nat
  cc : Nat
  cs : List CdI
instance : Inhabited MbI := ⟨⟨be, be, 0⟩⟩
instance : Inhabited MkI := ⟨⟨be, be, 0, 0, be⟩⟩
instance : Inhabited CdI := ⟨⟨be, none, 0, 0, []⟩⟩
instance : Inhabited KpI := ⟨⟨be, none, 0, 0, [], none, 0, 0, []⟩⟩
def MbI.cells (x : MbI) : List Value := [.string x.name, .string x.club, .int .i64 x.co]
def MkI.cells (x : MkI) : List Value := [.string x.pl, .string x.by_, .int .i64 x.h, .int .i64 x.s, .string x.m]
def MkI.e (x : MkI) : EI := ⟨x.s, x.m⟩
def CdI.cells (x : CdI) : List Value := [.string x.name, .slice x.a x.m x.c]
def KpI.cells (x : KpI) : List Value := [.string x.name, .slice x.ha x.hn x.hc, .slice x.ca x.cn x.cc]
def StrOk (b : ByteArray) : Prop := b.size ≤ 9223372036854775807
/-- cards, as they lie in memory -/
def RdCd (w : World) (S : Nat → Prop) (v : Value) (n : Nat) (cs : List CdI) : Prop :=
  Go.Mem.Rd w S 2 v n (cs.flatMap CdI.cells) ∧ ∀ p ∈ cs, Go.Mem.Rd w S 2 (.slice p.a p.m p.c) p.m (p.es.flatMap EI.cells) ∧ StrOk p.name
/-- rounds of the past, as they lie in memory -/
def RdKp (w : World) (S : Nat → Prop) (v : Value) (n : Nat) (ps : List KpI) : Prop :=
  Go.Mem.Rd w S 3 v n (ps.flatMap KpI.cells) ∧ ∀ p ∈ ps, Go.Mem.Rd w S 2 (.slice p.ha p.hn p.hc) p.hn (p.hs.flatMap HI.cells) ∧ RdCd w S (.slice p.ca p.cn p.cc) p.cn p.cs ∧ StrOk p.name
structure UI where
  vc : Value
  nc : Nat
  cl : List ByteArray
  vm : Value
  nm : Nat
  ms : List MbI
  vh : Value
  nh : Nat
  hs : List HI
  vk : Value
  nk : Nat
  ks : List MkI
  vs : Value
  ns : Nat
  sg : List ByteArray
  vp : Value
  np : Nat
  ps : List KpI
def UI.val (u : UI) : Value := .agg #[u.vc, u.vm, u.vh, u.vk, u.vs, u.vp]
/-- a union, as it lies in memory -/
structure RdU (w : World) (S : Nat → Prop) (u : UI) : Prop where
  c : Go.Mem.Rd w S 1 u.vc u.nc (u.cl.map .string)
  m : Go.Mem.Rd w S 3 u.vm u.nm (u.ms.flatMap MbI.cells)
  h : Go.Mem.Rd w S 2 u.vh u.nh (u.hs.flatMap HI.cells)
  k : Go.Mem.Rd w S 5 u.vk u.nk (u.ks.flatMap MkI.cells)
  s : Go.Mem.Rd w S 1 u.vs u.ns (u.sg.map .string)
  p : RdKp w S u.vp u.np u.ps
  so : (∀ x ∈ u.cl, StrOk x) ∧ (∀ x ∈ u.ms, StrOk x.name ∧ StrOk x.club) ∧ (∀ x ∈ u.ks, StrOk x.pl ∧ StrOk x.by_ ∧ StrOk x.m) ∧ ∀ x ∈ u.sg, StrOk x
theorem RdCd.later {w w' : World} {v : Value} {n : Nat} {cs : List CdI} (h : RdCd w (· < w.heap.size) v n cs) (hb : Below w.heap.size w w') : RdCd w' (· < w'.heap.size) v n cs :=
  ⟨h.1.later hb, fun p hp => ⟨(h.2 p hp).1.later hb, (h.2 p hp).2⟩⟩
theorem RdKp.later {w w' : World} {v : Value} {n : Nat} {ps : List KpI} (h : RdKp w (· < w.heap.size) v n ps) (hb : Below w.heap.size w w') : RdKp w' (· < w'.heap.size) v n ps :=
  ⟨h.1.later hb, fun p hp => ⟨(h.2 p hp).1.later hb, (h.2 p hp).2.1.later hb, (h.2 p hp).2.2⟩⟩
theorem RdU.later {w w' : World} {u : UI} (h : RdU w (· < w.heap.size) u) (hb : Below w.heap.size w w') : RdU w' (· < w'.heap.size) u :=
  ⟨h.c.later hb, h.m.later hb, h.h.later hb, h.k.later hb, h.s.later hb, h.p.later hb, h.so⟩
def mbAt (l : List MbI) (i : Nat) : MbI := l.getD i default
def mkAt (l : List MkI) (i : Nat) : MkI := l.getD i default
def cdAt (l : List CdI) (i : Nat) : CdI := l.getD i default
def kpAt (l : List KpI) (i : Nat) : KpI := l.getD i default
def sAt (l : List ByteArray) (i : Nat) : ByteArray := l.getD i be
theorem mbAt_eq {l : List MbI} {i : Nat} {x : MbI} (h : l[i]? = some x) : mbAt l i = x := by unfold mbAt; simp [List.getD, h]
theorem mkAt_eq {l : List MkI} {i : Nat} {x : MkI} (h : l[i]? = some x) : mkAt l i = x := by unfold mkAt; simp [List.getD, h]
theorem cdAt_eq {l : List CdI} {i : Nat} {x : CdI} (h : l[i]? = some x) : cdAt l i = x := by unfold cdAt; simp [List.getD, h]
theorem kpAt_eq {l : List KpI} {i : Nat} {x : KpI} (h : l[i]? = some x) : kpAt l i = x := by unfold kpAt; simp [List.getD, h]
theorem sAt_eq {l : List ByteArray} {i : Nat} {x : ByteArray} (h : l[i]? = some x) : sAt l i = x := by unfold sAt; simp [List.getD, h]
/-- the first place below n, -1 for none -/
def fstI (P : Nat → Bool) : Nat → Int
  | 0 => -1
  | n + 1 => if 0 ≤ fstI P n then fstI P n else if P n then (n : Int) else -1
theorem fstI_none {P : Nat → Bool} : ∀ {n : Nat}, (∀ j, j < n → P j = false) → fstI P n = -1
  | 0, _ => rfl
  | n + 1, h => by
    have e := fstI_none (n := n) fun j hj => h j (by omega)
    unfold fstI
    rw [e, if_neg (by omega), h n (by omega)]
    rfl
theorem fstI_at {P : Nat → Bool} {k : Nat} (hk : P k = true) (h : ∀ j, j < k → P j = false) : ∀ {n : Nat}, k < n → fstI P n = (k : Int)
  | n + 1, hn => by
    unfold fstI
    rcases Nat.lt_or_ge k n with h1 | h1
    · have e := fstI_at hk h h1
      rw [e, if_pos (by omega)]
    · obtain rfl : k = n := by omega
      rw [fstI_none h, if_neg (by omega), if_pos hk]
theorem fstI_inv (P : Nat → Bool) : ∀ n, (fstI P n = -1 ∧ ∀ j, j < n → P j = false) ∨ ∃ k, k < n ∧ fstI P n = (k : Int) ∧ P k = true ∧ ∀ j, j < k → P j = false
  | 0 => .inl ⟨rfl, fun _ h => absurd h (Nat.not_lt_zero _)⟩
  | n + 1 => by
    rcases fstI_inv P n with ⟨e, h⟩ | ⟨k, hk, e, h1, h2⟩
    · by_cases hp : P n = true
      · exact .inr ⟨n, by omega, fstI_at hp h (by omega), hp, h⟩
      · rw [Bool.not_eq_true] at hp
        have h' : ∀ j, j < n + 1 → P j = false := fun j hj => by
          rcases Nat.lt_or_ge j n with h3 | h3
          · exact h j h3
          · rw [show j = n by omega]; exact hp
        exact .inl ⟨fstI_none h', h'⟩
    · exact .inr ⟨k, by omega, fstI_at h1 h2 (by omega), h1, h2⟩
/-- the member with a name; the mark of a player on a hole -/
def memI (ms : List MbI) (s : ByteArray) : Int := fstI (fun j => decide ((mbAt ms j).name = s)) ms.length
def ownK (x : MkI) : Bool := decide (x.by_ = x.pl)
def keyK (x : MkI) (p : ByteArray) (h : Int) (own : Bool) : Bool := decide (x.pl = p) && decide (x.h = h) && (ownK x == own)
def mkI (ks : List MkI) (p : ByteArray) (h : Int) (own : Bool) : Int := fstI (fun j => keyK (mkAt ks j) p h own) ks.length
def rdI (ps : List KpI) (s : ByteArray) : Int := fstI (fun j => decide ((kpAt ps j).name = s)) ps.length
/-- the entry of the marker's (the player's own) mark -/
def entK (ks : List MkI) (p : ByteArray) (h : Int) (own : Bool) : EI := if 0 ≤ mkI ks p h own then (mkAt ks (mkI ks p h own).toNat).e else ⟨0, bd⟩
/-- a member who can sign -/
def Sgn (u : UI) (s : ByteArray) : Prop := u.nh ≠ 0 ∧ ∀ h : Nat, 1 ≤ h → h ≤ u.nh → 0 ≤ mkI u.ks s h false ∧ 0 ≤ mkI u.ks s h true ∧ entK u.ks s h false = entK u.ks s h true
end Go.Adj
namespace Go.Proofs.YtnaafefcijgpkaaGreatDoor
open Go.RowKit Go.Mem Go.Sheet Go.Adj
def GoodKp (p : KpI) : Prop := nameB p.name = true ∧ GoodH p.hs ∧ p.cn ≤ 200 ∧ ∀ i, i < p.cn → GoodC p.hs (cdAt p.cs i).name (cdAt p.cs i).m (cdAt p.cs i).es
/-- a union without an error -/
structure GoodU (u : UI) (mxl mxp : Nat) : Prop where
  len : u.nc ≤ mxl ∧ u.nm ≤ mxp ∧ u.nk ≤ 1000 ∧ u.ns ≤ mxp ∧ u.np ≤ mxl
  cl : ∀ i, i < u.nc → nameB (sAt u.cl i) = true
  cl2 : ∀ i j, i < u.nc → j < i → sAt u.cl j ≠ sAt u.cl i
  mb : ∀ i, i < u.nm → nameB (mbAt u.ms i).name = true ∧ -99 ≤ (mbAt u.ms i).co ∧ (mbAt u.ms i).co ≤ 99 ∧ ∃ j, j < u.nc ∧ sAt u.cl j = (mbAt u.ms i).club
  mb2 : ∀ i j, i < u.nm → j < i → (mbAt u.ms j).name ≠ (mbAt u.ms i).name
  hs : u.nh = 0 ∨ GoodH u.hs
  kk : ∀ i, i < u.nk → (∃ j, j < u.nm ∧ (mbAt u.ms j).name = (mkAt u.ks i).pl) ∧ (∃ j, j < u.nm ∧ (mbAt u.ms j).name = (mkAt u.ks i).by_) ∧ 1 ≤ (mkAt u.ks i).h ∧ (mkAt u.ks i).h ≤ u.nh ∧ GoodE (mkAt u.ks i).e
  kk2 : ∀ i j, i < u.nk → j < i → keyK (mkAt u.ks j) (mkAt u.ks i).pl (mkAt u.ks i).h (ownK (mkAt u.ks i)) = false
  sg : ∀ i, i < u.ns → (∃ j, j < u.nm ∧ (mbAt u.ms j).name = sAt u.sg i) ∧ Sgn u (sAt u.sg i)
  sg2 : ∀ i j, i < u.ns → j < i → sAt u.sg j ≠ sAt u.sg i
  ps : ∀ i, i < u.np → GoodKp (kpAt u.ps i)
  ps2 : ∀ i j, i < u.np → j < i → (kpAt u.ps j).name ≠ (kpAt u.ps i).name
end Go.Proofs.YtnaafefcijgpkaaGreatDoor
/- A map of ints to bools that the call has made, as an assertion. -/
namespace Go.Mem
open Go.RowKit Go.Maps
theorem plainElem_bool_inv {H : Type} {P : Program} {e : TypeId} (he : P.underlying e = some .bool) {v : Value} {z : DataW H × List MemPlace} (h : plainElem P e v = some z) : ∃ a, v = .bool a ∧ z = (.lit (.bool a), []) := by
  unfold plainElem at h
  rw [he] at h
  cases v <;> simp at h
  subst h
  exact ⟨_, rfl, rfl⟩
/-- block b is a map from ints to bools of at most m entries; at x lies f x -/
def mapB (P : Program) (K E : TypeId) (b m : Nat) (f : Int → Bool) : Asr where
  holds w F := (∃ D : DataW Unit, w.ownsMap P K (plainElem P E) b m D ∧ IsMap D ∧ ∀ x : Int, D.atKey (.int .i64 x) (.lit (.bool false)) = .lit (.bool (f x))) ∧ F b
  loc := by
    rintro w w' F ⟨⟨D, ⟨es, clock, hb, h2⟩, h3, h4⟩, hF⟩ hs hk
    exact ⟨⟨D, ⟨es, clock, (hk b hF).trans hb, h2⟩, h3, h4⟩, hF⟩
  mono := fun ⟨h, hF⟩ hh => ⟨h, hh _ hF⟩
theorem St.mapB_new {W w : World} {L : List Asr} (h : St W w L) (P : Program) (K E : TypeId) : St W (w.alloc (.map #[] 0)) (L ++ [mapB P K E w.heap.size 0 (fun _ => false)]) :=
  h.push (F := fun b => b = w.heap.size) ((Below.refl _ _).alloc (Nat.le_refl _) _) ⟨⟨.map [], World.ownsMap_made _ _ _ _, isMap_empty, fun _ => rfl⟩, rfl⟩ (fun b hb => by subst hb; simp)
theorem run_lookupB_st {P : Program} {W w : World} {L : List Asr} {i : Nat} (t : TypeId)
    (k e : TypeId) (hk : P.underlying k = some (.int .i64)) (ht : P.underlying t = some (.map k e)) (he : P.underlying e = some .bool) (hz : ∀ w, (zeroValue e).run P w = .ok (.bool false) w)
    {b c : Nat} {f : Int → Bool} (S : St W w L) (hi : L[i]? = some (mapB P k e b c f)) (key : Int) (h63 : -1000000 ≤ key ∧ key ≤ 1000000) :
    (Instr.lookup t (.map (some b)) (.int .i64 key) false).run P w = .ok (.bool (f key)) w := by
  obtain ⟨F, h1, ⟨⟨D, hown, hM, hat⟩, hF⟩⟩ := S.get hi
  have hwf : (Lit.int .i64 key).wf = true := WalkArith.wf_i64 (by omega)
  obtain ⟨v, ps, hrun, hv⟩ := hown.lookup (int_keyed hk) ht (hz w) (plainElem_bool he false) (keyOf_int_mk hk hwf)
  rw [hat key] at hv
  obtain ⟨a, rfl, ha⟩ := plainElem_bool_inv he hv
  simp only [Prod.mk.injEq, DataW.lit.injEq, Lit.bool.injEq] at ha
  rw [ha.1]; exact hrun
theorem wpList_mapUpdateB_st {P : Program} {W w : World} {L : List Asr} {i : Nat} {ops : Array Oper} {rest : List Oper} {o : Oper} {a : Act} {Q : Exit → Act → World → Prop}
    (hg : o.guard = none) (m x v : Operand) (t : TypeId) (hop : o.op = Op.mapUpdate t m x v)
    (k e : TypeId) (hk : P.underlying k = some (.int .i64)) (ht : P.underlying t = some (.map k e)) (he : P.underlying e = some .bool)
    {b c : Nat} {f : Int → Bool} (S : St W w L) (hi : L[i]? = some (mapB P k e b c f)) (hm : a.eval m = .map (some b)) (hc : c ≤ 1000000) (key : Int) (hx : a.eval x = .int .i64 key) (h63 : -1000000 ≤ key ∧ key ≤ 1000000)
    (val : Bool) (hv : a.eval v = .bool val)
    (hK : ∀ w', St W w' (L.set i (mapB P k e b (c + 1) (fun j => if j = key then val else f j))) → wpList P ops Q rest (a.put o.dst undef) w') : wpList P ops Q (o :: rest) a w := by
  obtain ⟨F1, h1, ⟨⟨D, hown, hM, hat⟩, hF⟩, h3⟩ := S.upd hi
  have hwf : (Lit.int .i64 key).wf = true := WalkArith.wf_i64 (by omega)
  refine wpList_mapUpdate_own _ hg m x v t hop k e (int_keyed hk) ht _ b c D hm hown (by unfold maxLen; omega) _ _ _ hx hv (keyOf_int_mk hk hwf) _ [] (plainElem_bool he val) ?_
  intro w' hown' hg'
  refine hK w' (h3 w' _ F1 (some b) ⟨⟨_, hown', hM.put _ _, fun y => ?_⟩, hF⟩ hg' (fun g hg => by cases hg; exact hF) (fun b hb => .inl hb))
  show _ = DataW.lit (.bool (if y = key then val else f y))
  by_cases hy : y = key
  · subst hy
    rw [if_pos rfl]
    exact atKey_put_same hM (by trivial) _ _
  · rw [if_neg hy, atKey_put_other (by intro e; simp only [Lit.int.injEq, true_and] at e; omega)]
    exact hat y
end Go.Mem
/- The lexical order of a long drawn region whose operations number their slots one by one: a check of each operation by itself (the pairwise check of 100 operations runs the kernel out of memory). -/
namespace Go.MemQ
def seqOp (md : Region.Mode) (ops : Array Oper) (b k : Nat) (o : Oper) : Bool :=
  (o.dst == some (b + k)) && o.after.all (fun e => !Region.binds md e || decide (e.on < k)) &&
  (o.looksAt ops).all (fun t => decide (t < b) || (decide (t < b + k) && o.after.any (fun e => Region.binds md e && e.on == t - b)))
def seqOk (md : Region.Mode) (ops : Array Oper) (b : Nat) : Nat → List Oper → Bool
  | _, [] => true
  | k, o :: l => seqOp md ops b k o && seqOk md ops b (k + 1) l
theorem seqOk_at {md : Region.Mode} {ops : Array Oper} {b : Nat} : ∀ (l : List Oper) (k j : Nat) (o : Oper), seqOk md ops b k l = true → l[j]? = some o → seqOp md ops b (k + j) o = true
  | [], _, _, _ => fun _ h => by simp at h
  | x :: l, k, j, o => fun hs h => by
    rw [seqOk, Bool.and_eq_true] at hs
    cases j with
    | zero => simp at h; subst h; exact hs.1
    | succ j =>
      have := seqOk_at l (k + 1) j o hs.2 (by simpa using h)
      rwa [show k + 1 + j = k + (j + 1) by omega] at this
theorem seqOp_spec {md : Region.Mode} {ops : Array Oper} {b k : Nat} {o : Oper} (h : seqOp md ops b k o = true) :
    o.dst = some (b + k) ∧ (∀ e ∈ o.after, Region.binds md e = true → e.on < k) ∧ (∀ t ∈ o.looksAt ops, t < b + k) ∧ (∀ i, i < k → b + i ∈ o.looksAt ops → o.after.any (fun e => Region.binds md e && e.on == i) = true) := by
  simp only [seqOp, Bool.and_eq_true, beq_iff_eq] at h
  obtain ⟨⟨h1, h2⟩, h3⟩ := h
  refine ⟨h1, fun e he hb => ?_, fun t ht => ?_, fun i hi ht => ?_⟩
  · have := Array.all_eq_true_iff_forall_mem.1 h2 e he
    simp only [hb, Bool.not_true, Bool.false_or, decide_eq_true_eq] at this
    exact this
  · have := List.all_eq_true.1 h3 t ht
    simp only [Bool.or_eq_true, Bool.and_eq_true, decide_eq_true_eq] at this
    rcases this with h | h
    · exact Nat.lt_of_lt_of_le h (Nat.le_add_right b k)
    · exact h.1
  · have := List.all_eq_true.1 h3 _ ht
    simp only [Bool.or_eq_true, Bool.and_eq_true, decide_eq_true_eq] at this
    rcases this with h | h
    · exact absurd h (Nat.not_lt.2 (Nat.le_add_right b i))
    · have h4 := h.2
      rwa [show b + i - b = i from Nat.add_sub_cancel_left b i] at h4
theorem seq_apart {md : Region.Mode} {ops : Array Oper} {b k j : Nat} {x y : Oper} (hx : seqOp md ops b k x = true) (hy : seqOp md ops b j y = true) (hkj : k < j) (hno : y.after.any (fun e => Region.binds md e && e.on == k) = false) : x.apart ops y = true := by
  obtain ⟨x1, x2, x3, x4⟩ := seqOp_spec hx
  obtain ⟨y1, y2, y3, y4⟩ := seqOp_spec hy
  have h1 : b + k ∉ y.looksAt ops := fun h => by rw [y4 k hkj h] at hno; cases hno
  have h2 : b + j ∉ x.looksAt ops := fun h => absurd (Nat.lt_of_add_lt_add_left (x3 _ h)) (Nat.not_lt.2 (Nat.le_of_lt hkj))
  simp only [Oper.apart, x1, y1, Bool.and_eq_true, Bool.not_eq_true', bne_iff_ne, ne_eq, Option.some.injEq]
  exact ⟨⟨by simpa using h1, fun h => absurd (Nat.add_left_cancel h) (by omega)⟩, by simpa using h2⟩
theorem lexFrom_seq {md : Region.Mode} {l : List Oper} {b : Nat} (hs : seqOk md l.toArray b 0 l = true) : ∀ (n k : Nat) (listed : Array Bool), k + n = l.length → listed.size = l.length → (∀ j, j < k → listed.getD j false = true) → (∀ j, k ≤ j → j < l.length → listed.getD j true = false) →
    Region.lexFrom md l.toArray n k listed = true := by
  have hat : ∀ (j : Nat) (o : Oper), l.toArray[j]? = some o → seqOp md l.toArray b j o = true := fun j o h => by
    have := seqOk_at l 0 j o hs (by simpa using h)
    rwa [Nat.zero_add] at this
  intro n
  induction n with
  | zero =>
    intro k listed hk hz h1 h2
    rw [Region.lexFrom, List.isEmpty_iff, List.eq_nil_iff_forall_not_mem]
    intro j hj
    obtain ⟨h3, o, ho, _⟩ := mem_ready.1 hj
    have hjl : j < l.length := by have := (Array.getElem?_eq_some_iff.1 ho).1; simpa using this
    have h4 := h1 j (by omega)
    simp [hz, hjl] at h3 h4
    rw [h3] at h4
    cases h4
  | succ n ih =>
    intro k listed hk hz h1 h2
    have hkl : k < l.length := by omega
    have hok : l.toArray[k]? = some l[k] := by simp [hkl]
    have hsk := hat k _ hok
    rw [Region.lexFrom, Bool.and_eq_true, Bool.and_eq_true]
    refine ⟨⟨?_, ?_⟩, ih (k + 1) _ (by omega) (by simpa using hz) (fun j hj => ?_) (fun j hj hl => ?_)⟩
    · rw [List.contains_iff_mem, mem_ready]
      exact ⟨h2 k (Nat.le_refl _) hkl, _, hok, fun e he hb => h1 _ ((seqOp_spec hsk).2.1 e he hb)⟩
    · simp only [Region.free, hok, List.all_eq_true, List.mem_range]
      intro j hj
      have hjl : j < l.length := by simpa using hj
      have hoj : l.toArray[j]? = some l[j] := by simp [hjl]
      rcases Nat.lt_trichotomy j k with h | h | h
      · have h4 := h1 j h
        have h5 : listed.getD j true = true := by simp [hz, hjl] at h4 ⊢; exact h4
        rw [h5]; simp
      · subst h; simp
      · simp only [hoj]
        cases hb : (l[j]).after.any (fun e => Region.binds md e && e.on == k) with
        | true => simp
        | false => rw [seq_apart hsk (hat j _ hoj) h hb]; simp
    · by_cases hjk : k = j
      · subst hjk; simp [hz, hkl]
      · rw [getD_set_ne false hjk]; exact h1 j (by omega)
    · rw [getD_set_ne true (by omega)]; exact h2 j (by omega) hl
theorem lexB_seq {md : Region.Mode} {l : List Oper} (b : Nat) (hn : Region.noSelect l.toArray = true) (hs : seqOk md l.toArray b 0 l = true) : Region.lexB md l.toArray = true := by
  rw [Region.lexB, Bool.and_eq_true]
  refine ⟨hn, lexFrom_seq hs _ 0 _ (by simp) (by simp) (fun j hj => absurd hj (Nat.not_lt_zero j)) (fun j _ hj => ?_)⟩
  simp [hj]
end Go.MemQ
/- Chapter 5: the program's check of holes, where they are without an error. -/
namespace Go.Proofs.YtnaafefcijgpkaaGreatDoor
open Go.RowKit Go.Mem Go.Sheet Go.Adj
theorem zeroB : ∀ w, (zeroValue 4).run Tryz.prog w = .ok (.bool false) w := fun _ => by kernel_rfl
theorem cardOk2 (w : World) (g : Nat) (hg : g < w.heap.size) (h0 : w.cell? ⟨g, 0, none⟩ = some (.int .i64 0)) (h1 : w.cell? ⟨g, 1, none⟩ = some (.int .i64 0)) :
    Calls Tryz.prog 105 #[.slice (some ⟨g, 0, none⟩) 2 2] w fun r w' => r = .returned (.int .i64 0) ∧ w = w' := cardFirst2 w g 0 0 hg h0 h1
theorem formatOk2 (w : World) (g : Nat) (hg : g < w.heap.size) (h0 : w.cell? ⟨g, 0, none⟩ = some (.int .i64 0)) (h1 : w.cell? ⟨g, 1, none⟩ = some (.int .i64 0)) :
    Calls Tryz.prog 91 #[.slice (some ⟨g, 0, none⟩) 2 2] w fun r w' => r = .returned (.int .i64 0) ∧ w = w' := formatFirst2 w g 0 0 hg h0 h1
theorem cardOk4 (w : World) (g : Nat) (hg : g < w.heap.size) (h0 : w.cell? ⟨g, 0, none⟩ = some (.int .i64 0)) (h1 : w.cell? ⟨g, 1, none⟩ = some (.int .i64 0)) (h2 : w.cell? ⟨g, 2, none⟩ = some (.int .i64 0)) (h3 : w.cell? ⟨g, 3, none⟩ = some (.int .i64 0)) :
    Calls Tryz.prog 105 #[.slice (some ⟨g, 0, none⟩) 4 4] w fun r w' => r = .returned (.int .i64 0) ∧ w = w' := cardFirst4 w g 0 0 0 0 hg h0 h1 h2 h3
theorem cardNo (e : Int) (w : World) : Calls Tryz.prog 106 #[.bool false, .int .i64 e] w fun r w' => r = .returned (.int .i64 0) ∧ w = w' := cardWhen_any false e w
theorem formatNo (e : Int) (w : World) : Calls Tryz.prog 63 #[.bool false, .int .i64 e] w fun r w' => r = .returned (.int .i64 0) ∧ w = w' := formatWhen_any false e w
set_option maxRecDepth 100000 in
set_option maxHeartbeats 4000000 in
theorem checkHoles_ok (W : World) (v : Value) (n : Nat) (hs : List HI) (h : Rd W (· < W.heap.size) 2 v n (hs.flatMap HI.cells)) (hg : GoodH hs) :
    Calls Tryz.prog 80 #[v] W fun e w' => e = .returned (.int .i64 0) ∧ Below W.heap.size W w' := by
  have HL := Lib.hid (h.count (f := HI.cells) (size := 2) (fun _ => rfl) (by decide))
  have H := Lib.hid h
  obtain ⟨A, c, rfl, _, _, _⟩ := h.open_
  clear h
  have hn1 := hg.len
  rw [← HL.out] at hn1
  have HG := Lib.hid hg
  clear hg
  have hn0 : ((n : Int) == 0) = false := by simp; omega
  have hn36 : decide (36 < (n : Int)) = false := by simp; omega
  have hmm := @run_makeMap Tryz.prog
  go_enter Tryz.func80, Tryz.ntmps80
  go_wp2_with (first
    | (go_at_call 106; refine (cardNo _ _).mono ?_; rintro e w' ⟨rfl, rfl⟩)
    | (go_at_call 105; refine (cardOk2 _ _ (by simp) (by simp) (by simp)).mono ?_; rintro e w' ⟨rfl, rfl⟩))
  have S0 := ((St.refl W).alloc (.cells #[.int .i64 0, .int .i64 0] 38)).mapB_new Tryz.prog 3 4
  have e1 : (W.alloc (.cells #[.int .i64 0, .int .i64 0] 38)).heap.size = W.heap.size + 1 := by simp
  simp only [List.nil_append] at S0
  rw [e1] at S0
  clear e1
  generalize W.heap.size + 1 = B at *
  generalize (W.alloc (.cells #[.int .i64 0, .int .i64 0] 38)).alloc (.map #[] 0) = W1 at *
  go_loopw [24] (fun i w' => ∃ (k : Nat) (f : Int → Bool), k ≤ n ∧ i = .int .i64 k ∧ Hid (∀ x, f x = true → ∃ i, i < k ∧ (hAt hs i).idx = x) ∧ St W w' [mapB Tryz.prog 3 4 B k f]) (fun i _ => n - (intOf i).toNat)
  case atStart => exact ⟨0, _, Nat.zero_le _, rfl, (fun x hx => by cases hx), S0⟩
  case round =>
    obtain ⟨k, f, hk, rfl, hf, S⟩ := hrel
    clear S0
    by_cases hlt : k < n
    · obtain ⟨b, o, x, hA, hx, c0, c1⟩ := (H.out.below S.bel).elem2 (k := k) (fun s : HI => .int .i64 s.par) (fun s : HI => .int .i64 s.idx) (fun _ => rfl) hlt
      subst hA
      have hxe := hAt_eq hx
      have hp := HG.out.par k (by rw [← HL.out]; exact hlt)
      have hi := HG.out.idx k (by rw [← HL.out]; exact hlt)
      have ht := HG.out.two k
      have hfx : f x.idx = false := by
        rw [Bool.eq_false_iff]
        intro he
        obtain ⟨i, hi1, hi2⟩ := hf.out _ he
        exact ht i (by rw [← HL.out]; exact hlt) hi1 (by rw [hi2, hxe])
      rw [hxe, ← HL.out] at hi
      rw [hxe] at hp
      have HF2 : Hid (∀ y, (if y = x.idx then true else f y) = true → ∃ i, i < k + 1 ∧ (hAt hs i).idx = y) := fun y hy => by
        by_cases e : y = x.idx
        · exact ⟨k, by omega, by rw [hxe, e]⟩
        · rw [if_neg e] at hy
          obtain ⟨i, h1, h2⟩ := hf.out y hy
          exact ⟨i, by omega, h2⟩
      clear hx hxe ht hf
      obtain ⟨par, idx⟩ := x
      simp only at c0 c1 hp hi hfx HF2
      have HS := Lib.hid S
      clear S
      go_wp2_with fail
      clear c0 c1
      have SA := (HS.out.blk_new #[.int .i64 par, .int .i64 idx] 42).drew
      simp only [List.cons_append, List.nil_append] at SA
      generalize wr.heap.size = gx at *
      have t1 : decide (par < 3) = false := by simp; omega
      have t2 : decide (6 < par) = false := by simp; omega
      have t3 : decide (idx < 1) = false := by simp; omega
      have t4 : decide ((n : Int) < idx) = false := by simp; omega
      refine wp_cls 26 (fun w' => St W w' [mapB Tryz.prog 3 4 B k f, blk gx 42 #[.int .i64 par, .int .i64 idx]]) (by kernel_rfl) (by kernel_rfl) SA ?_
      simp only [List.take_succ_cons, List.take_zero, List.drop_succ_cons, List.drop_zero]
      generalize hK : (fun w' => St W w' [mapB Tryz.prog 3 4 B k f, blk gx 42 #[.int .i64 par, .int .i64 idx]]) = K
      intro hne
      have kS : ∀ y : Wd K, St W y.w [mapB Tryz.prog 3 4 B k f, blk gx 42 #[.int .i64 par, .int .i64 idx]] := by subst hK; exact fun y => y.h
      have k0 : ∀ y : Wd K, y.w.cell? ⟨gx, 0, none⟩ = some (.int .i64 par) := fun y => (kS y).blk_cell (i := 1) rfl 0
      have k1 : ∀ y : Wd K, y.w.cell? ⟨gx, 1, none⟩ = some (.int .i64 idx) := fun y => (kS y).blk_cell (i := 1) rfl 1
      have k2 : ∀ y : Wd K, (Instr.lookup 181 (.map (some B)) (.int .i64 idx) false).run Tryz.prog y.w = .ok (.bool false) y.w := fun y => by
        have := run_lookupB_st 181 3 4 Tryz.underlying3 Tryz.underlying181 Tryz.underlying4 zeroB (kS y) (i := 0) rfl idx (by omega)
        rw [hfx] at this; exact this
      have KS := Lib.hid kS
      clear hK kS SA HS
      iterate 20 (go_big_quiet_step ((fail)))
      go_big_quiet_step ((go_at_call 106; exact cls_same (cardNo _ _)))
      iterate 4 (go_big_quiet_step ((fail)))
      go_big_quiet_step ((go_at_call 106; exact cls_same (cardNo _ _)))
      refine wpQuiet_nil ?_
      intro y
      have hS := KS.out y
      have HS := Lib.hid hS
      clear k0 k1 k2
      have c1 := hS.blk_cell (i := 1) rfl 1
      clear hS KS hne t1 t2 t3 t4
      generalize y.w = wy at *
      have c2 : wy.cell? ⟨gx, 1, none⟩ = some (.int .i64 idx) := c1
      clear c1
      have hgx := World.block_lt_of_cell? _ _ c2
      have hba := (Below.refl wy.heap.size wy).alloc (Nat.le_refl _) (.cells #[.int .i64 0, .int .i64 0] 38)
      have c3 := (hba.cell (p := ⟨gx, 1, none⟩) hgx).trans c2
      clear hba hgx c2
      go_wp2_with (first
        | (go_at_call 105; refine (cardOk2 _ _ (by simp) (by simp) (by simp)).mono ?_; rintro e w' ⟨rfl, rfl⟩)
        | (at_mapUpdate
           refine wpList_mapUpdateB_st rfl _ _ _ 181 rfl 3 4 Tryz.underlying3 Tryz.underlying181 Tryz.underlying4 (HS.out.alloc _) (i := 0) rfl rfl (by omega) idx rfl (by omega) true rfl ?_
           intro w6 S6))
      have S7 := S6.sub (L' := [_]) (List.sublist_append_left [_] [_])
      go_roundw
      case rel => exact ⟨k + 1, _, by omega, by go_num, HF2.out, S7⟩
      case measure => simp [intOf]; omega
    · have HS := Lib.hid S
      clear S
      obtain rfl : k = n := by omega
      go_wp2
      go_ret
      exact ⟨rfl, HS.out.bel⟩
end Go.Proofs.YtnaafefcijgpkaaGreatDoor
/- A map with known entries that the call has made, as an assertion. -/
namespace Go.Mem
open Go.RowKit Go.MapKept
/-- block b is a map with these entries -/
def mapS (b : Nat) (es : Array MapEntry) (clock : Nat) : Asr where
  holds w F := w.heap[b]? = some (.map es clock) ∧ F b
  loc := fun ⟨h, hF⟩ _ hk => ⟨(hk b hF).trans h, hF⟩
  mono := fun ⟨h, hF⟩ hh => ⟨h, hh _ hF⟩
theorem St.mapS_new {W w : World} {L : List Asr} (h : St W w L) : St W (w.alloc (.map #[] 0)) (L ++ [mapS w.heap.size #[] 0]) :=
  h.push (F := fun b => b = w.heap.size) ((Below.refl _ _).alloc (Nat.le_refl _) _) ⟨heap_alloc_new w _, rfl⟩ (fun b hb => by subst hb; simp)
theorem St.mapS_at {W w : World} {L : List Asr} {i b : Nat} {es : Array MapEntry} {clock : Nat} (h : St W w L) (hi : L[i]? = some (mapS b es clock)) : w.heap[b]? = some (.map es clock) := by
  obtain ⟨F, _, h1, _⟩ := h.get hi
  exact h1
theorem wpList_insert_st {P : Program} {W w : World} {L : List Asr} {i : Nat} {ops : Array Oper} {rest : List Oper} {o : Oper} {a : Act} {Q : Exit → Act → World → Prop}
    (hg : o.guard = none) (m x v : Operand) (t : TypeId) (hop : o.op = Op.insert t m x v)
    (k e : TypeId) (hk : P.underlying k = some .string) (ht : P.underlying t = some (.map k e))
    {b clock : Nat} {es : Array MapEntry} (S : St W w L) (hi : L[i]? = some (mapS b es clock)) (hm : a.eval m = .map (some b)) (key : ByteArray) (hx : a.eval x = .string key)
    (hf : Instr.findNow .string (.string key) es.toList 0 = some none) (val : Value) (hv : a.eval v = val)
    (hK : ∀ w', St W w' (L.set i (mapS b (es.push { key := .string key, val := val, born := clock }) (clock + 1))) → wpList P ops Q rest (a.put o.dst undef) w') : wpList P ops Q (o :: rest) a w := by
  obtain ⟨F1, h1, ⟨hb, hF⟩, h3⟩ := S.upd hi
  have hrun : (Instr.mapUpdate t (.map (some b)) (.string key) val).run P w = .ok () (w.putObj b (.map (es.push { key := .string key, val := val, born := clock }) (clock + 1))) := by
    have hkk : IsKey .string (.string key) := trivial
    simp [Instr.mapUpdate, run_underlying ht, MapKept.run_getObj_map hb, MapKept.run_checkKey hk hkk, MapKept.run_findKey hk hf, MapKept.run_setObj_map _ hb, Result.andThen]
    rfl
  have hlt := (Array.getElem?_eq_some_iff.1 hb).1
  have hat : (w.putObj b (.map (es.push { key := .string key, val := val, born := clock }) (clock + 1))).heap[b]? = some (.map (es.push { key := .string key, val := val, born := clock }) (clock + 1)) := by
    show (w.heap.setIfInBounds b _)[b]? = _
    simp [hlt]
  refine wpList_plain hg fun K' hK' => ?_
  unfold Oper.wp
  simp [execOp, hop, hm, hx, hv, hrun, Result.andThen]
  exact hK' _ _ (hK _ (h3 _ _ F1 (some b) ⟨hat, hF⟩ (grownBy_putObj' w b _) (fun g hg => by cases hg; exact hF) (fun b hb => .inl hb)))
theorem run_lookupS {P : Program} {w : World} (t : TypeId) (k e : TypeId) (hk : P.underlying k = some .string) (ht : P.underlying t = some (.map k e)) {b clock : Nat} {es : Array MapEntry} (hb : w.heap[b]? = some (.map es clock))
    (key : ByteArray) (j : Nat) (v : Value) (hf : Instr.findNow .string (.string key) es.toList 0 = some (some (j, v))) :
    (Instr.lookup t (.map (some b)) (.string key) true).run P w = .ok (.tuple #[v, .bool true]) w := by
  have hkk : IsKey .string (.string key) := trivial
  simp [Instr.lookup, run_underlying ht, MapKept.run_getObj_map hb, MapKept.run_checkKey hk hkk, MapKept.run_findKey hk hf, Result.andThen]
theorem St.blk_row {W w : World} {L : List Asr} {i g : Nat} {t : TypeId} {cs : Array Value} (h : St W w L) (hi : L[i]? = some (blk g t cs)) (cs' : Array Value) : St W (w.setRow g cs') (L.set i (blk g t cs')) := by
  obtain ⟨F1, h1, ⟨h2, hF⟩, h3⟩ := h.upd hi
  exact h3 _ _ F1 (some g) ⟨setRow_heap w g cs cs' t (0, 0) h2, hF⟩ ⟨rfl, rfl, rfl, by simp [World.setRow], fun k _ hk => setRow_other w g k cs' (fun e => hk (by subst e; rfl))⟩ (fun k hk => by cases hk; exact hF) (fun b hb => .inl hb)
end Go.Mem
