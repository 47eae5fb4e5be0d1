/- Part 35 of the walks of the golf union's program: DP1, DS2, DS3, DP2. -/
import Derived.Test.YtkkkfjinflepmaaGreatDoorB34
import Derived.Test.YtkkkfjinflepmaaGreatDoorB25
import Derived.Test.YtkkkfjinflepmaaGreatDoorB18
import Derived.Test.YtkkkfjinflepmaaGreatDoorB02
set_option linter.unusedVariables false
set_option linter.unusedSimpArgs false
set_option linter.unusedSectionVars false
set_option linter.constructorNameAsVariable false
/- Chapter 7: lines with one score: who is ranked, how they compare. -/
namespace Go.Adj
open Go.RowKit Go.Mem
/-- a line with one score, no amateur, no state -/
structure LnI where
  name : ByteArray
  a : Option Addr
  c : Nat
  s : Int
deriving Inhabited
def LnI.cells (x : LnI) : List Value := [.string x.name, .bool false, .slice x.a 1 x.c, .string ⟨#[]⟩]
def LnI.val (x : LnI) : Value := .agg #[.string x.name, .bool false, .slice x.a 1 x.c, .string ⟨#[]⟩]
def RdLn (w : World) (S : Nat → Prop) (v : Value) (m : Nat) (ls : List LnI) : Prop := Rd w S 4 v m (ls.flatMap LnI.cells) ∧ ∀ x ∈ ls, Rd w S 1 (.slice x.a 1 x.c) 1 [.int .i64 x.s]
theorem RdLn.later {w w' : World} {v : Value} {m : Nat} {ls : List LnI} (h : RdLn w (· < w.heap.size) v m ls) (hb : Below w.heap.size w w') : RdLn w' (· < w'.heap.size) v m ls :=
  ⟨h.1.later hb, fun x hx => (h.2 x hx).later hb⟩
theorem RdLn.elem {w : World} {S : Nat → Prop} {A : Option Addr} {m c n k : Nat} {ls : List LnI} (h : RdLn w S (.slice A m c) n ls) (hk : k < n) :
    ∃ g o x, A = some ⟨g, o, none⟩ ∧ ls[k]? = some x ∧ w.cell? ⟨g, o + k * 4, none⟩ = some (.string x.name) ∧ w.cell? ⟨g, o + k * 4 + 1, none⟩ = some (.bool false) ∧ w.cell? ⟨g, o + k * 4 + 2, none⟩ = some (.slice x.a 1 x.c) ∧ w.cell? ⟨g, o + k * 4 + 3, none⟩ = some (.string ⟨#[]⟩) := by
  obtain ⟨g, o, x, hA, hx, hc⟩ := h.1.elem (f := LnI.cells) (fun _ => rfl) (by decide) hk
  exact ⟨g, o, x, hA, hx, hc 0 _ rfl, hc 1 _ rfl, hc 2 _ rfl, hc 3 _ rfl⟩
theorem RdLn.count {w : World} {S : Nat → Prop} {v : Value} {n : Nat} {ls : List LnI} (h : RdLn w S v n ls) : n = ls.length := h.1.count (f := LnI.cells) (fun _ => rfl) (by decide)
end Go.Adj
namespace Go.Proofs.YtkkkfjinflepmaaGreatDoor
open Go.RowKit Go.Mem Go.Sheet Go.Adj
set_option maxRecDepth 100000 in
set_option maxHeartbeats 4000000 in
theorem ranked_ok (w : World) (x : LnI) : Calls Tryz.prog 66 #[x.val] w fun e w' => e = .returned (.bool true) ∧ Below w.heap.size w w' := by
  obtain ⟨nm, a, c, s⟩ := x
  unfold LnI.val
  go_enter Tryz.func66, Tryz.ntmps66
  have t1 : ((ByteArray.mk #[]).toList != (ByteArray.mk #[111, 117, 116]).toList) = true := by decide +kernel
  have t2 : ((ByteArray.mk #[]).toList != (ByteArray.mk #[100, 105, 115]).toList) = true := by decide +kernel
  go_wp2_with fail
  go_ret
  exact ⟨rfl, (Below.refl _ _).alloc (Nat.le_refl _) _⟩
set_option maxRecDepth 100000 in
set_option maxHeartbeats 4000000 in
theorem prizes1_ok (w : World) (x : LnI) : Calls Tryz.prog 90 #[x.val] w fun e w' => e = .returned (.bool true) ∧ Below w.heap.size w w' := by
  have HR := fun w => ranked_ok w x
  obtain ⟨nm, a, c, s⟩ := x
  unfold LnI.val at *
  simp only at HR ⊢
  go_enter Tryz.func90, Tryz.ntmps90
  have hb := (Below.refl w.heap.size w).alloc (Nat.le_refl _) (.cells #[.string nm, .bool false, .slice a 1 c, .string ⟨#[]⟩] 89)
  have hlt : w.heap.size < (w.alloc (.cells #[.string nm, .bool false, .slice a 1 c, .string ⟨#[]⟩] 89)).heap.size := by simp
  have c1 : (w.alloc (.cells #[.string nm, .bool false, .slice a 1 c, .string ⟨#[]⟩] 89)).cell? ⟨w.heap.size, 1, none⟩ = some (.bool false) := by simp
  have HB := Lib.hid hb
  clear hb
  go_wp2_with (go_at_call 66; refine (HR _).mono ?_; rintro e w2 ⟨rfl, hb2⟩; have d1 := (hb2.cell (p := ⟨w.heap.size, 1, none⟩) hlt).trans c1; have HB2 := Lib.hid (HB.out.trans (hb2.mono HB.out.size)); clear hb2 c1)
  go_ret
  exact ⟨rfl, HB2.out⟩
set_option maxRecDepth 100000 in
set_option maxHeartbeats 4000000 in
theorem total_ok (w : World) (x : LnI) (hx : 1 ≤ x.s ∧ x.s ≤ 9999) (h : Rd w (· < w.heap.size) 1 (.slice x.a 1 x.c) 1 [.int .i64 x.s]) : Calls Tryz.prog 67 #[x.val, .int .i64 1] w fun e w' => e = .returned (.int .i64 x.s) ∧ Below w.heap.size w w' := by
  obtain ⟨nm, a, c, s⟩ := x
  unfold LnI.val
  simp only at h hx ⊢
  have hc := h.caps
  have hb := (Below.refl w.heap.size w).alloc (Nat.le_refl _) (.cells #[.string nm, .bool false, .slice a 1 c, .string ⟨#[]⟩] 89)
  have H := Lib.hid (h.later hb)
  obtain ⟨b, o, u, rfl, _, hu, d0⟩ := (h.later hb).at_ (k := 0) (by omega)
  cases hu
  rw [Nat.add_zero] at d0
  have HB := Lib.hid hb
  have hcc : decide ((c : Int) < 1) = false := decide_eq_false (by omega)
  have hw : IntKind.i64.wrap s = s := IntWalk.i64_in _ (by omega)
  have hcc' : decide (c < 1) = false := decide_eq_false (by omega)
  clear h hb
  go_enter Tryz.func67, Tryz.ntmps67
  go_wp2_with fail
  generalize w.alloc (.cells #[.string nm, .bool false, .slice (some ⟨b, o, none⟩) 1 c, .string ⟨#[]⟩] 89) = w1 at *
  go_loopw [13, 5] (fun i t w' => ((i = .int .i64 0 ∧ t = .int .i64 0) ∨ (i = .int .i64 1 ∧ t = .int .i64 s)) ∧ w' = w1) (fun i _ _ => 1 - (intOf i).toNat)
  case atStart => exact ⟨.inl ⟨rfl, rfl⟩, rfl⟩
  case round =>
    obtain ⟨⟨rfl, rfl⟩ | ⟨rfl, rfl⟩, rfl⟩ := hrel
    · go_wp2_with fail
      go_roundw
      case rel => exact ⟨.inr ⟨by go_num, by simp⟩, by first | rfl | trivial⟩
      case measure => simp [intOf]
    · go_wp2_with fail
      go_ret
      exact ⟨rfl, HB.out⟩
theorem cmpOr2 (w : World) (g : Nat) (x : Int) (hg : g < w.heap.size) (h0 : w.cell? ⟨g, 0, none⟩ = some (.int .i64 0)) (h1 : w.cell? ⟨g, 1, none⟩ = some (.int .i64 x)) :
    Calls Tryz.prog 122 #[.slice (some ⟨g, 0, none⟩) 2 2] w fun r w' => r = .returned (.int .i64 x) ∧ w = w' := by
  go_enter Tryz.func122, Tryz.ntmps122
  go_wp2
  go_loop [8] (fun i => i = .int .i64 0 ∨ i = .int .i64 1 ∨ (i = .int .i64 2 ∧ x = 0)) (fun i => 2 - (intOf i).toNat)
  case atStart => exact .inl rfl
  case round =>
    rcases hrel with rfl | rfl | ⟨rfl, hx0⟩
    · go_wp2
      go_round
      case rel => exact .inr (.inl rfl)
      case measure => simp [intOf]
    · by_cases hx : x = 0
      · have t : (x != 0) = false := by simp [hx]
        have HX := Lib.hid hx
        clear hx
        go_wp2
        go_round
        case rel => exact .inr (.inr ⟨rfl, HX.out⟩)
        case measure => simp [intOf]
      · have t : (x != 0) = true := by simp [hx]
        clear hx
        go_wp2
        go_ret
        exact ⟨rfl, rfl⟩
    · have HX := Lib.hid hx0
      clear hx0
      go_wp2
      go_ret
      exact ⟨by rw [HX.out]; rfl, rfl⟩
end Go.Proofs.YtkkkfjinflepmaaGreatDoor
/- A stable sort where all are equal changes nothing. -/
namespace Go.Proofs.YtkkkfjinflepmaaGreatDoor
open Go.RowKit Go.Mem Go.Sheet Go.Adj
set_option maxRecDepth 100000 in
set_option maxHeartbeats 4000000 in
theorem insSame (w : World) (F : Nat → Prop) (A : Option Addr) (gp c q : Nat) (l : List Int) (hq : q ≤ 19) (h : Rd w F 1 (.slice A q c) q (intsI l))
    (hC : ∀ (n : Nat) (x y : Int), x ∈ l → y ∈ l → Calls Tryz.prog 45 #[.int .i64 x, .int .i64 y, .pointer (some ⟨gp, 0, none⟩)] (w.drewN n) fun e w2 => e = .returned (.int .i64 0) ∧ ∃ n, w2 = w.drewN n) :
    Calls Tryz.prog 116 #[.slice A q c, .int .i64 0, .int .i64 q, .func (.func 45) #[] #[.pointer (some ⟨gp, 0, none⟩)]] w fun e w' => e = .returned (.tuple #[]) ∧ ∃ n, w' = w.drewN n := by
  have H := Lib.hid h
  have HCC := Lib.hid hC
  clear h hC
  have hE := enters Tryz.func45 (by kernel_rfl) rfl
  unfold Enters at hE
  go_enter Tryz.func116, Tryz.ntmps116
  go_wp2
  go_loopw [8] (fun i w' => ∃ k : Nat, 1 ≤ k ∧ (k ≤ q ∨ k = 1) ∧ i = .int .i64 k ∧ ∃ n, w' = w.drewN n) (fun i _ => q - (intOf i).toNat)
  case atStart => exact ⟨1, Nat.le_refl _, .inr rfl, rfl, 0, rfl⟩
  case round =>
    obtain ⟨k, hk1, hk, rfl, n, hn⟩ := hrel
    by_cases hlt : k < q
    · obtain ⟨jp, hjp⟩ : ∃ jp, jp = k - 1 := ⟨_, rfl⟩
      have hjm : (k : Int) - 1 = (jp : Int) := by omega
      have hjw : IntKind.i64.wrap ((k : Int) - 1) = (jp : Int) := by rw [hjm]; exact IntWalk.i64_in _ (by omega)
      have hjpq : jp < q := by omega
      have hlt' : (k : Int) < q := by omega
      have t0 : decide ((0 : Int) < (k : Int)) = true := by simp; omega
      have t0' : decide (0 < k) = true := by simp; omega
      obtain ⟨b, o, x, hA, hx, c0⟩ := Rd.int (q := .i64) H.out hlt
      obtain ⟨b', o', y, hA', hy, c1⟩ := Rd.int (q := .i64) H.out hjpq
      subst hA
      cases hA'
      have HCL : Hid (∀ w', (∃ n, w' = w.drewN n) → Calls Tryz.prog 45 #[.int .i64 x, .int .i64 y, .pointer (some ⟨gp, 0, none⟩)] w' fun e w2 => e = .returned (.int .i64 0) ∧ ∃ n, w2 = w.drewN n) := fun w' ⟨n, hn⟩ => by
        rw [hn]; exact HCC.out n x y (List.mem_of_getElem? hx) (List.mem_of_getElem? hy)
      have HN := Lib.hid hn
      clear hx hy hjp hn
      go_wp2_with fail
      go_loopw [9] (fun i w' => i = .int .i64 k ∧ ∃ n, w' = w.drewN n) (fun _ _ => 0)
      case atStart => exact ⟨rfl, n, HN.out⟩
      case round =>
        obtain ⟨rfl, n2, hn2⟩ := hrel
        have d0 : wr.cell? ⟨b, o + k, none⟩ = some (.int .i64 x) := by rw [hn2]; exact c0
        have d1 : wr.cell? ⟨b, o + jp, none⟩ = some (.int .i64 y) := by rw [hn2]; exact c1
        go_wp2_with fail
        refine wp_cls 16 (fun w' => ∃ n, w' = w.drewN n) (by kernel_rfl) (by kernel_rfl) ⟨n2 + 1, by rw [hn2]; rfl⟩ ?_
        simp only [List.take_succ_cons, List.take_zero, List.drop_succ_cons, List.drop_zero]
        generalize hK : (fun w' => ∃ n, w' = w.drewN n) = K
        intro hne
        have kw : ∀ y : Wd K, ∃ n, y.w = w.drewN n := by subst hK; exact fun y => y.h
        have HC3 : Hid (∀ z : Wd K, Calls Tryz.prog 45 #[.int .i64 x, .int .i64 y, .pointer (some ⟨gp, 0, none⟩)] z.w fun e w2 => e = .returned (.int .i64 0) ∧ ∃ z : Wd K, w2 = z.w) := by
          subst hK
          exact fun z => (HCL.out z.w z.h).mono fun e w2 ⟨h1, h2⟩ => ⟨h1, ⟨⟨w2, h2⟩, rfl⟩⟩
        have y0 : ∀ z : Wd K, z.w.cell? ⟨b, o + k, none⟩ = some (.int .i64 x) := fun z => by obtain ⟨n, e⟩ := kw z; rw [e]; exact c0
        have y1 : ∀ z : Wd K, z.w.cell? ⟨b, o + jp, none⟩ = some (.int .i64 y) := fun z => by obtain ⟨n, e⟩ := kw z; rw [e]; exact c1
        clear hK d0 d1
        repeat (go_big_quiet_step ((exact HC3.out _)))
        refine wpQuiet_nil ?_
        intro z
        obtain ⟨nn, hyn⟩ := kw z
        clear y0 y1 kw HC3 hne c0 c1
        generalize z.w = w3 at *
        go_wp2_with fail
        go_roundw
        case rel => exact ⟨k + 1, by omega, by omega, by go_num, nn, by first | rfl | exact hyn⟩
        case measure => simp [intOf]; omega
    · have hge : ¬ (k : Int) < q := by omega
      go_wp2_with fail
      go_end0
      exact ⟨rfl, n, by first | rfl | exact hn⟩
set_option maxRecDepth 100000 in
set_option maxHeartbeats 4000000 in
theorem stableSame (w : World) (F : Nat → Prop) (A : Option Addr) (gp c q : Nat) (l : List Int) (hq : q ≤ 19) (h : Rd w F 1 (.slice A q c) q (intsI l))
    (hC : ∀ (n : Nat) (x y : Int), x ∈ l → y ∈ l → Calls Tryz.prog 45 #[.int .i64 x, .int .i64 y, .pointer (some ⟨gp, 0, none⟩)] (w.drewN n) fun e w2 => e = .returned (.int .i64 0) ∧ ∃ n, w2 = w.drewN n) :
    Calls Tryz.prog 44 #[.slice A q c, .func (.func 45) #[] #[.pointer (some ⟨gp, 0, none⟩)]] w fun e w' => e = .returned (.tuple #[]) ∧ ∃ n, w' = w.drewN n := by
  have HI := Lib.hid (insSame w F A gp c q l hq h hC)
  clear h hC
  have t1 : decide ((20 : Int) ≤ (q : Int)) = false := by simp; omega
  have t2 : decide ((20 : Int) < (q : Int)) = false := by simp; omega
  have HS : Hid (Calls Tryz.prog 93 #[.slice A q c, .int .i64 q, .func (.func 45) #[] #[.pointer (some ⟨gp, 0, none⟩)]] w fun e w' =>
      e = .returned (.tuple #[]) ∧ ∃ n, w' = w.drewN n) := by
    show Calls _ _ _ _ _
    go_enter Tryz.func93, Tryz.ntmps93
    go_wp2_with fail
    go_loopw [7, 8] (fun i j w' => i = .int .i64 0 ∧ j = .int .i64 20 ∧ w' = w) (fun _ _ _ => 0)
    case atStart => exact ⟨rfl, rfl, rfl⟩
    case round =>
      obtain ⟨rfl, rfl, rfl⟩ := hrel
      go_wp2_with fail
      go_at_call 116
      refine HI.out.mono ?_
      rintro e w2 ⟨rfl, hr⟩
      have HR := Lib.hid hr
      clear hr
      go_wp2_with fail
      go_loopw [6] (fun i w' => i = .int .i64 20 ∧ w' = w2) (fun _ _ => 0)
      case atStart => exact ⟨rfl, rfl⟩
      case round =>
        obtain ⟨rfl, rfl⟩ := hrel
        go_wp2_with fail
        go_end0
        exact ⟨rfl, HR.out⟩
  go_enter Tryz.func44, Tryz.ntmps44
  go_wp2_with fail
  go_at_call 93
  refine HS.out.mono ?_
  rintro e w2 ⟨rfl, hr⟩
  have HR := Lib.hid hr
  clear hr
  go_wp2_with fail
  go_end0
  exact ⟨rfl, HR.out⟩
end Go.Proofs.YtkkkfjinflepmaaGreatDoor
/- Chapter 1: shares of a number for equal weights. -/
namespace Go.Proofs.YtkkkfjinflepmaaGreatDoor
open Go.RowKit Go.Mem Go.Sheet Go.Adj
def shareF (k : Nat) (t : Int) (i : Nat) : Int := t.tdiv k + (if (i : Int) < t.tmod k then 1 else 0)
theorem gl_set5 {f f' : Nat → Int} {k j : Nat} {x : Int} (h1 : f' j = x) (h2 : ∀ i, i ≠ j → f' i = f i) : (intsI (gl f k)).set j (.int .i64 x) = intsI (gl f' k) := by
  unfold intsI gl
  rw [List.map_map, List.map_map]
  apply List.ext_getElem?
  intro i
  rw [List.getElem?_set]
  split
  · rename_i e
    subst e
    split
    · rename_i hl
      rw [List.length_map, List.length_range] at hl
      rw [List.getElem?_map, List.getElem?_range hl]
      show _ = some (Value.int .i64 (f' j))
      rw [h1]
    · rename_i hl
      rw [List.length_map, List.length_range] at hl
      rw [List.getElem?_eq_none (by simp; omega)]
  · rename_i e
    rw [List.getElem?_map, List.getElem?_map]
    rcases Nat.lt_or_ge i k with hl | hl
    · rw [List.getElem?_range hl]
      show some (Value.int .i64 (f i)) = some (Value.int .i64 (f' i))
      rw [h2 i (fun h => e h.symm)]
    · rw [List.getElem?_eq_none (by simpa using hl)]; rfl
def upto (j : Nat) (x : Int) (f : Nat → Int) (i : Nat) : Int := if i < j then x else f i
theorem gl_upto {f : Nat → Int} {k j : Nat} {x : Int} : (intsI (gl (upto j x f) k)).set j (.int .i64 x) = intsI (gl (upto (j + 1) x f) k) := by
  refine gl_set5 ?_ fun i hi => ?_
  · unfold upto; rw [if_pos (by omega)]
  · unfold upto
    by_cases h : i < j
    · rw [if_pos h, if_pos (by omega)]
    · rw [if_neg h, if_neg (by omega)]
theorem zeros_gl (k : Nat) : (madeCells (Value.int .i64 0).cells (k * 1)).toList = intsI (gl (fun _ => 0) k) := by
  show (madeCells #[.int .i64 0] (k * 1)).toList = _
  rw [toList_madeCells_one, Nat.mul_one]
  unfold intsI gl
  rw [List.map_map]
  apply List.ext_getElem?
  intro i
  rw [List.getElem?_map]
  rcases Nat.lt_or_ge i k with hl | hl
  · rw [List.getElem?_range hl, List.getElem?_replicate, if_pos hl]; rfl
  · rw [List.getElem?_eq_none (by simpa using hl), List.getElem?_eq_none (by simpa using hl)]; rfl
theorem row_int5 {W w : World} {L : List Asr} {i j g n c : Nat} {f : Nat → Int} (h : St W w L) (hi : L[i]? = some (row 3 1 (.slice (some ⟨g, 0, none⟩) n c) n (intsI (gl f n)))) (hj : j < n) : w.cell? ⟨g, j, none⟩ = some (.int .i64 (f j)) ∧ w.frozen? ⟨g, j, none⟩ = false := by
  obtain ⟨g', cap, hv, _, _, _, hc, hf⟩ := h.row_form hi (by omega)
  cases hv
  refine ⟨?_, hf j⟩
  rw [hc j (by omega)]
  unfold intsI
  rw [List.getElem?_map, gl_at f hj]
  rfl
set_option maxRecDepth 100000 in
set_option maxHeartbeats 8000000 in
theorem shares_ones (W : World) (v : Value) (k : Nat) (total : Int) (hk : 1 ≤ k ∧ k ≤ 19) (ht : 0 ≤ total ∧ total ≤ 999999999) (h : Rd W (· < W.heap.size) 1 v k (intsI (onesL k))) :
    Calls Tryz.prog 15 #[.int .i64 total, v] W fun e w' => ∃ v', e = .returned (.tuple #[v', .int .i64 0]) ∧ St W w' [row 3 1 v' k (intsI (gl (shareF k total) k))] := by
  have HW := Lib.hid (checkWeights_ones W _ v k ⟨hk.1, by omega⟩ h)
  obtain ⟨A, c, rfl, _, _, _⟩ := h.open_
  have H := Lib.hid h
  have hcells : Hid (∀ j, j < k → ∀ w', Below W.heap.size W w' → ∃ b o, A = some ⟨b, o, none⟩ ∧ w'.cell? ⟨b, o + j, none⟩ = some (.int .i64 1)) := fun j hj w' hb => by
    obtain ⟨b, o, x, hA, hx, hc⟩ := Rd.int (q := .i64) (H.out.later hb) hj
    refine ⟨b, o, hA, ?_⟩
    rw [hc, List.eq_of_mem_replicate (List.mem_of_getElem? hx)]
  obtain ⟨Q, hQ⟩ : ∃ Q, Q = total.tdiv k := ⟨_, rfl⟩
  obtain ⟨Rm, hRm⟩ : ∃ Rm, Rm = total.tmod k := ⟨_, rfl⟩
  have hq0 : 0 ≤ Q ∧ Q ≤ total := by
    rw [hQ, Int.tdiv_eq_ediv_of_nonneg ht.1]
    exact ⟨Int.ediv_nonneg ht.1 (by omega), Int.ediv_le_self _ ht.1⟩
  have hr0 : 0 ≤ Rm ∧ Rm < k := by
    rw [hRm, Int.tmod_eq_emod_of_nonneg ht.1]
    exact ⟨Int.emod_nonneg _ (by omega), Int.emod_lt_of_pos _ (by omega)⟩
  have hqr : total = k * Q + Rm := by
    rw [hQ, hRm]; exact (Int.mul_tdiv_add_tmod total k).symm
  have hmono : ∀ j : Nat, j ≤ k → 0 ≤ total - j * Q ∧ total - j * Q ≤ total := fun j hj => by
    have h1 : (j : Int) * Q ≤ k * Q := Int.mul_le_mul_of_nonneg_right (by omega) hq0.1
    have h2 : 0 ≤ (j : Int) * Q := Int.mul_nonneg (by omega) hq0.1
    omega
  obtain ⟨LF, hLF⟩ : ∃ LF : Nat → Int, LF = fun j : Nat => total - (j : Int) * Q := ⟨_, rfl⟩
  have HL0 : Hid (LF 0 = total) := by show LF 0 = _; rw [hLF]; simp
  have HLS : Hid (∀ j, LF (j + 1) = LF j - Q) := fun j => by rw [hLF]; show total - ((j + 1 : Nat) : Int) * Q = total - j * Q - Q; push_cast; rw [Int.add_mul]; omega
  have HLE : Hid (LF k = Rm) := by show LF k = _; rw [hLF]; show total - k * Q = Rm; omega
  have HLB : Hid (∀ j, j ≤ k → 0 ≤ LF j ∧ LF j ≤ total) := fun j hj => by rw [hLF]; exact hmono j hj
  have hsh : gl (shareF k total) k = gl (upto Rm.toNat (Q + 1) (fun _ => Q)) k := by
    unfold gl
    refine List.map_congr_left fun i _ => ?_
    unfold shareF upto
    rw [← hQ, ← hRm]
    by_cases hi : (i : Int) < Rm
    · rw [if_pos hi, if_pos (by omega)]
    · rw [if_neg hi, if_neg (by omega), Int.add_zero]
  rw [hsh]
  have w1 : IntKind.i64.wrap (total.tdiv (k : Int)) = Q := by rw [← hQ]; exact IntWalk.i64_in _ (by omega)
  have w2 : IntKind.i64.wrap (total.tmod (k : Int)) = Rm := by rw [← hRm]; exact IntWalk.i64_in _ (by omega)
  have w3 : total.tdiv (k : Int) = Q := hQ.symm
  have w4 : total.tmod (k : Int) = Rm := hRm.symm
  have t1 : decide (total < 0) = false := decide_eq_false (by omega)
  have t2 : decide ((999999999 : Int) < total) = false := decide_eq_false (by omega)
  have tk : ((k : Int) == 0) = false := by simp; omega
  have tk' : (k == 0) = false := by simp; omega
  clear h hsh hLF hmono hqr hQ hRm
  go_enter Tryz.func15, Tryz.ntmps15
  go_wp2_with (go_at_call 42; refine (cardNo _ _).mono ?_; rintro e w' ⟨rfl, rfl⟩)
  go_at_call 43
  refine HW.out.mono ?_
  rintro e wa ⟨rfl, hb1⟩
  have HB1 := Lib.hid hb1
  clear hb1 HW
  go_wp2_with (go_at_call 41; refine (cardOk2 _ _ (by simp) (by simp) (by simp)).mono ?_; rintro e w' ⟨rfl, rfl⟩)
  have hb2 := HB1.out.alloc HB1.out.size (.cells #[.int .i64 0, .int .i64 0] 48)
  have HB2 := Lib.hid hb2
  clear hb2 HB1
  generalize wa.alloc (.cells #[.int .i64 0, .int .i64 0] 48) = wb at *
  go_loopw [34, 7] (fun i s w' => ∃ j : Nat, j ≤ k ∧ i = .int .i64 j ∧ s = .int .i64 j ∧ w' = wb) (fun i _ _ => k - (intOf i).toNat)
  case atStart => exact ⟨0, Nat.zero_le _, rfl, rfl, rfl⟩
  case round =>
    obtain ⟨j, hj, rfl, rfl, rfl⟩ := hrel
    by_cases hlt : j < k
    · obtain ⟨b, o, rfl, c0⟩ := hcells.out j hlt _ HB2.out
      go_wp2_with fail
      go_roundw
      case rel => exact ⟨j + 1, by omega, by go_num, by go_num, by first | rfl | trivial⟩
      case measure => simp [intOf]; omega
    · obtain rfl : k = j := by omega
      have HS0 := Lib.hid (St.of_below HB2.out)
      have HZ := Lib.hid (zeros_gl k)
      go_wp2_with (first
        | (at_make; refine wpList_make_st eltI rfl _ _ rfl (n := k) rfl rfl HS0.out (by omega) (by omega) ?_; intro wc g1 S1 _ _; rw [HZ.out] at S1; simp only [List.nil_append] at S1; have HS1 := Lib.hid S1; clear S1 HS0)
        | (at_make; refine wpList_make_st eltI rfl _ _ rfl (n := k) rfl rfl HS1.out (by omega) (by omega) ?_; intro wd g2 S2 _ _; rw [HZ.out] at S2; simp only [List.cons_append, List.nil_append] at S2
           have S4 := S2.blk_new #[.slice (some ⟨g2, 0, none⟩) k k] 43
           simp only [List.cons_append, List.nil_append] at S4
           have HS4 := Lib.hid S4; clear S2 S4 HS1)
        | (at_make; refine wpList_make_st eltI rfl _ _ rfl (n := k) rfl rfl HS4.out (by omega) (by omega) ?_; intro we g3 S5 _ _; rw [HZ.out] at S5; simp only [List.cons_append, List.nil_append] at S5; have HS5 := Lib.hid S5; clear S5 HS4))
      obtain ⟨gb, hgb⟩ : ∃ gb, gb = wd.heap.size := ⟨_, rfl⟩
      rw [← hgb] at HS5 ⊢
      clear hgb
      have e0 : ∀ x : Int, gl (fun _ => 0) k = gl (upto 0 x (fun _ => 0)) k := fun x => by
        unfold gl upto; simp
      have HS6 : Hid (St W we [row 3 1 (.slice (some ⟨g1, 0, none⟩) k k) k (intsI (gl (upto 0 Q (fun _ => 0)) k)), row 3 1 (.slice (some ⟨g2, 0, none⟩) k k) k (intsI (gl (upto 0 Rm (fun _ => 0)) k)), blk gb 43 #[.slice (some ⟨g2, 0, none⟩) k k], row 3 1 (.slice (some ⟨g3, 0, none⟩) k k) k (intsI (gl (fun i => if i < 0 then (i : Int) else 0) k))]) := by
        have h3 : gl (fun i : Nat => if i < 0 then (i : Int) else 0) k = gl (fun _ => 0) k := by simp
        rw [h3, ← e0 Q, ← e0 Rm]
        exact HS5.out
      clear HS5 e0 HZ
      go_loopw [54, 13] (fun i lf w' => ∃ j : Nat, j ≤ k ∧ i = .int .i64 j ∧ lf = .int .i64 (LF j) ∧ St W w' [row 3 1 (.slice (some ⟨g1, 0, none⟩) k k) k (intsI (gl (upto j Q (fun _ => 0)) k)), row 3 1 (.slice (some ⟨g2, 0, none⟩) k k) k (intsI (gl (upto j Rm (fun _ => 0)) k)), blk gb 43 #[.slice (some ⟨g2, 0, none⟩) k k], row 3 1 (.slice (some ⟨g3, 0, none⟩) k k) k (intsI (gl (fun i => if i < j then (i : Int) else 0) k))]) (fun i _ _ => k - (intOf i).toNat)
      case atStart => exact ⟨0, Nat.zero_le _, rfl, by rw [HL0.out], HS6.out⟩
      case round =>
        obtain ⟨j, hj, rfl, rfl, S⟩ := hrel
        clear HS6
        by_cases hlt : j < k
        · obtain ⟨b, o, rfl, c0⟩ := hcells.out j hlt _ S.bel
          have hlb := HLB.out j hj
          have hls := HLS.out j
          have hlb1 := HLB.out (j + 1) hlt
          have d0 := S.blk_cell (i := 2) rfl 0
          have HSX := Lib.hid S
          generalize LF j = lj at *
          have hw5 : IntKind.i64.wrap (lj - Q) = lj - Q := IntWalk.i64_in _ (by omega)
          have HLJ := Lib.hid hls
          clear hls S
          go_wp2_with fail
          have p1 : decide ((k : Int) ≤ (j : Int)) = false := decide_eq_false (by omega)
          have p2 : decide (k ≤ j) = false := decide_eq_false (by omega)
          have HNX : Hid (∀ w', St W w' [row 3 1 (.slice (some ⟨g1, 0, none⟩) k k) k (intsI (gl (upto (j + 1) Q (fun _ => 0)) k)), row 3 1 (.slice (some ⟨g2, 0, none⟩) k k) k (intsI (gl (upto (j + 1) Rm (fun _ => 0)) k)), blk gb 43 #[.slice (some ⟨g2, 0, none⟩) k k], row 3 1 (.slice (some ⟨g3, 0, none⟩) k k) k (intsI (gl (fun i => if i < j then (i : Int) else 0) k))] →
              (w'.cell? ⟨g3, j, none⟩ = some (.int .i64 0) ∧ w'.frozen? ⟨g3, j, none⟩ = false) ∧ St W (w'.setCell ⟨g3, j, none⟩ (.int .i64 j)) [row 3 1 (.slice (some ⟨g1, 0, none⟩) k k) k (intsI (gl (upto (j + 1) Q (fun _ => 0)) k)), row 3 1 (.slice (some ⟨g2, 0, none⟩) k k) k (intsI (gl (upto (j + 1) Rm (fun _ => 0)) k)), blk gb 43 #[.slice (some ⟨g2, 0, none⟩) k k], row 3 1 (.slice (some ⟨g3, 0, none⟩) k k) k (intsI (gl (fun i => if i < j + 1 then (i : Int) else 0) k))]) := fun w' hw => by
            have h1 := row_int5 hw (i := 3) rfl hlt
            have h2 := hw.row_set (i := 3) rfl j (.int .i64 j)
            simp only [List.set_cons_zero, List.set_cons_succ] at h2
            rw [gl_set5 (f' := fun i => if i < j + 1 then (i : Int) else 0) (by simp) (fun i hi => by by_cases h : i < j <;> simp [h] <;> omega)] at h2
            refine ⟨?_, h2⟩
            simpa using h1
          generalize (fun i : Nat => if i < j then (i : Int) else 0) = GA at *
          obtain ⟨GB, hGB⟩ : ∃ G : Nat → Int, G = fun i : Nat => if i < j + 1 then (i : Int) else 0 := ⟨_, rfl⟩
          rw [← hGB] at HNX
          have HGB := Lib.hid hGB
          clear hGB
          have HGP := Lib.hid (gl_upto (f := fun _ => 0) (k := k) (j := j) (x := Q))
          have HGR := Lib.hid (gl_upto (f := fun _ => 0) (k := k) (j := j) (x := Rm))
          have SD := HSX.out.drew
          refine wp_head_tail3 0 22 4 [] [0, 1, 2, 3, 4, 5, 6, 7, 8, 9, 10, 11, 12, 13, 14, 15, 16, 17] rfl (fun w' => w'.cell? ⟨gb, 0, none⟩ = some (.slice (some ⟨g2, 0, none⟩) k k))
            (fun a a' w' => a' = (a.put (some 77) (.pointer (some ⟨g2, j, none⟩))).put (some 78) (.pointer (some ⟨g3, j, none⟩)) ∧ St W w' [row 3 1 (.slice (some ⟨g1, 0, none⟩) k k) k (intsI (gl (upto (j + 1) Q (fun _ => 0)) k)), row 3 1 (.slice (some ⟨g2, 0, none⟩) k k) k (intsI (gl (upto (j + 1) Rm (fun _ => 0)) k)), blk gb 43 #[.slice (some ⟨g2, 0, none⟩) k k], row 3 1 (.slice (some ⟨g3, 0, none⟩) k k) k (intsI (gl GA k))]) (by kernel_rfl) (by kernel_rfl) (SD.blk_cell (i := 2) rfl 0) ?_
          simp only [pick, List.filterMap_cons, List.filterMap_nil, List.getElem?_toArray, List.getElem?_cons_succ, List.getElem?_cons_zero]
          generalize hK : (fun w' : World => w'.cell? ⟨gb, 0, none⟩ = some (.slice (some ⟨g2, 0, none⟩) k k)) = K
          have k0 : ∀ y : Wd K, y.w.cell? ⟨gb, 0, none⟩ = some (.slice (some ⟨g2, 0, none⟩) k k) := by subst hK; exact fun y => y.h
          have hKd : ∀ (w' : World), w'.cell? ⟨gb, 0, none⟩ = some (.slice (some ⟨g2, 0, none⟩) k k) → K w' := by subst hK; exact fun _ h => h
          have hne : Nonempty (Wd K) := ⟨⟨_, hKd _ (SD.blk_cell (i := 2) rfl 0)⟩⟩
          have HSD := Lib.hid SD
          clear hK HSX SD
          generalize World.drew _ = wq at *
          refine wpQuiet_nil ?_
          change wpQuiet _ _ _ _ (_ :: _ :: _ :: _ :: _ :: _ :: _ :: _ :: _ :: _ :: _ :: _ :: _ :: _ :: _ :: _ :: _ :: _ :: []) _
          repeat (go_big_quiet_step ((fail)))
          refine wpQuiet_nil ?_
          clear k0
          refine ⟨?_, ?_⟩
          · as_aux_lemma =>
            refine headW_all (rs := [18]) (by kernel_rfl) (by decide) (by decide) (List.forall_mem_cons.2 ⟨?_, List.forall_mem_nil _⟩)
            refine wpOp_list (o := _) rfl ?_
            intro Q' hQ'
            obtain ⟨c1, f1⟩ := row_int5 HSD.out (i := 0) rfl hlt
            have S1 := HSD.out.row_set (i := 0) rfl j (.int .i64 Q)
            simp only [List.set_cons_zero, List.set_cons_succ] at S1
            rw [HGP.out] at S1
            go_wp2_with fail
            refine ⟨hKd _ (S1.blk_cell (i := 2) rfl 0), ?_⟩
            refine headW_all (rs := [19]) (by kernel_rfl) (by decide) (by decide) (List.forall_mem_cons.2 ⟨?_, List.forall_mem_nil _⟩)
            refine wpOp_list (o := _) rfl ?_
            intro Q' hQ'
            go_wp2_with fail
            refine ⟨hKd _ (S1.blk_cell (i := 2) rfl 0), ?_⟩
            refine headW_all (rs := [20]) (by kernel_rfl) (by decide) (by decide) (List.forall_mem_cons.2 ⟨?_, List.forall_mem_nil _⟩)
            refine wpOp_list (o := _) rfl ?_
            intro Q' hQ'
            obtain ⟨c2, f2⟩ := row_int5 S1 (i := 1) rfl hlt
            have S2 := S1.row_set (i := 1) rfl j (.int .i64 Rm)
            simp only [List.set_cons_zero, List.set_cons_succ] at S2
            rw [HGR.out] at S2
            go_wp2_with fail
            refine ⟨hKd _ (S2.blk_cell (i := 2) rfl 0), ?_⟩
            refine headW_all (rs := [21]) (by kernel_rfl) (by decide) (by decide) (List.forall_mem_cons.2 ⟨?_, List.forall_mem_nil _⟩)
            refine wpOp_list (o := _) rfl ?_
            intro Q' hQ'
            go_wp2_with fail
            refine ⟨hKd _ (S2.blk_cell (i := 2) rfl 0), ?_⟩
            exact ⟨by kernel_rfl, by first | rfl | kernel_rfl, S2⟩
          rintro a' w8 ⟨rfl, S8⟩
          clear hKd hne HSD HGP HGR
          obtain ⟨⟨c3, f3⟩, S9⟩ := HNX.out _ S8
          have c9 := row_int5 S9 (i := 0) rfl hlt
          obtain ⟨c9, _⟩ := c9
          rw [show upto (j + 1) Q (fun _ => 0) j = Q from if_pos (by omega)] at c9
          have HS9 := Lib.hid S9
          clear S8 S9 HNX
          go_wp2_with fail
          refine NoPanic.normal ?_
          go_wp2_with fail
          go_roundw
          case rel => exact ⟨j + 1, by omega, by go_num, by rw [HLJ.out], by rw [← HGB.out]; exact HS9.out⟩
          case measure => simp [intOf]; omega
        · obtain rfl : k = j := by omega
          obtain ⟨rm, hrm⟩ : ∃ rm : Nat, rm = Rm.toNat := ⟨_, rfl⟩
          have hrl : LF k = (rm : Int) := by rw [HLE.out]; omega
          have hrk : rm < k := by omega
          have HRM := Lib.hid hrm
          have h1 : ∀ x : Int, gl (upto k x (fun _ => 0)) k = gl (fun _ => x) k := fun x => by
            unfold gl upto
            refine List.map_congr_left fun i hi => ?_
            rw [if_pos (List.mem_range.1 hi)]
          have h2 : gl (fun i : Nat => if i < k then (i : Int) else 0) k = gl (fun i => (i : Int)) k := by
            unfold gl
            refine List.map_congr_left fun i hi => ?_
            rw [if_pos (List.mem_range.1 hi)]
          rw [h1 Q, h1 Rm, h2] at S
          have HCS := Lib.hid (stableSame wr _ (some ⟨g3, 0, none⟩) gb k k _ (by omega) (S.row_rd (i := 3) rfl) (fun nn x y hx hy => by
            unfold gl at hx hy
            obtain ⟨xi, hxi, rfl⟩ := List.mem_map.1 hx
            obtain ⟨yi, hyi, rfl⟩ := List.mem_map.1 hy
            refine (shares1_same (wr.drewN nn) gb g2 0 k k xi yi Rm (List.mem_range.1 hxi) (List.mem_range.1 hyi) (S.blk_cell (i := 2) rfl 0) (fun i hi => ?_)).mono fun e w2 ⟨h3, n3, h4⟩ => ⟨h3, nn + n3, by rw [h4]; exact World.drewN_drewN _ _ _⟩
            rw [Nat.zero_add]
            exact (row_int5 S (i := 1) rfl hi).1))
          have HSX := Lib.hid S
          rw [hrl]
          have q1 : decide ((rm : Int) < 0) = false := by simp
          have q2 : decide ((k : Int) < (rm : Int)) = false := decide_eq_false (by omega)
          have q3 : decide (k < rm) = false := decide_eq_false (by omega)
          clear S h1 h2 hrl hrm
          go_wp2_with (go_at_call 44; refine HCS.out.mono ?_; rintro e w5 ⟨rfl, n5, hn5⟩; have HN5 := Lib.hid hn5; clear hn5 HCS)
          have S5 := HSX.out.drewN n5
          rw [← HN5.out] at S5
          have HS6 : Hid (St W w5 [row 3 1 (.slice (some ⟨g1, 0, none⟩) k k) k (intsI (gl (upto 0 (Q + 1) (fun _ => Q)) k)), row 3 1 (.slice (some ⟨g2, 0, none⟩) k k) k (intsI (gl (fun _ => Rm) k)), blk gb 43 #[.slice (some ⟨g2, 0, none⟩) k k], row 3 1 (.slice (some ⟨g3, 0, none⟩) k k) k (intsI (gl (fun i => (i : Int)) k))]) := by
            have : gl (upto 0 (Q + 1) (fun _ => Q)) k = gl (fun _ => Q) k := by unfold gl upto; simp
            rw [this]; exact S5
          clear S5 HSX HN5
          have w5 : IntKind.i64.wrap (Q + 1) = Q + 1 := IntWalk.i64_in _ (by omega)
          go_loopw [93] (fun i w' => ∃ j : Nat, j ≤ rm ∧ i = .int .i64 j ∧ St W w' [row 3 1 (.slice (some ⟨g1, 0, none⟩) k k) k (intsI (gl (upto j (Q + 1) (fun _ => Q)) k)), row 3 1 (.slice (some ⟨g2, 0, none⟩) k k) k (intsI (gl (fun _ => Rm) k)), blk gb 43 #[.slice (some ⟨g2, 0, none⟩) k k], row 3 1 (.slice (some ⟨g3, 0, none⟩) k k) k (intsI (gl (fun i => (i : Int)) k))]) (fun i _ => rm - (intOf i).toNat)
          case atStart => exact ⟨0, Nat.zero_le _, rfl, HS6.out⟩
          case round =>
            obtain ⟨j, hj, rfl, S⟩ := hrel
            clear HS6
            by_cases hlt : j < rm
            · obtain ⟨c1, f1⟩ := row_int5 S (i := 0) rfl (j := j) (by omega)
              obtain ⟨c3, f3⟩ := row_int5 S (i := 3) rfl (j := j) (by omega)
              rw [show upto j (Q + 1) (fun _ => Q) j = Q from if_neg (by omega)] at c1
              have S1 := S.row_set (i := 0) rfl j (.int .i64 (Q + 1))
              simp only [List.set_cons_zero, List.set_cons_succ] at S1
              rw [gl_upto] at S1
              have HS7 := Lib.hid S1
              have p1 : decide ((k : Int) ≤ (j : Int)) = false := decide_eq_false (by omega)
              have p2 : decide (k ≤ j) = false := decide_eq_false (by omega)
              clear S S1
              go_wp2_with fail
              go_roundw
              case rel => exact ⟨j + 1, by omega, by go_num, HS7.out⟩
              case measure => simp [intOf]; omega
            · obtain rfl : rm = j := by omega
              have HS7 := Lib.hid S
              clear S
              go_wp2_with fail
              go_ret2
              refine ⟨_, rfl, ?_⟩
              rw [← HRM.out]
              exact HS7.out.sub (.cons_cons _ (.cons _ (.cons _ (.cons _ (List.Sublist.refl _)))))
end Go.Proofs.YtkkkfjinflepmaaGreatDoor
/- Chapter 7: how lines compare; the ranks. -/
namespace Go.Proofs.YtkkkfjinflepmaaGreatDoor
open Go.RowKit Go.Mem Go.Sheet Go.Adj
set_option maxRecDepth 100000 in
set_option maxHeartbeats 4000000 in
theorem compare_ok (W : World) (x y : LnI) (hx : 1 ≤ x.s ∧ x.s ≤ 9999) (hy : 1 ≤ y.s ∧ y.s ≤ 9999) (h1 : Rd W (· < W.heap.size) 1 (.slice x.a 1 x.c) 1 [.int .i64 x.s]) (h2 : Rd W (· < W.heap.size) 1 (.slice y.a 1 y.c) 1 [.int .i64 y.s]) :
    Calls Tryz.prog 102 #[x.val, y.val] W fun e w' => e = .returned (.int .i64 (cmpI x.s y.s)) ∧ Below W.heap.size W w' := by
  have HTX : Hid (∀ w, Below W.heap.size W w → Calls Tryz.prog 67 #[x.val, .int .i64 1] w fun e w' => e = .returned (.int .i64 x.s) ∧ Below w.heap.size w w') := fun w hw => total_ok w x hx (h1.later hw)
  have HTY : Hid (∀ w, Below W.heap.size W w → Calls Tryz.prog 67 #[y.val, .int .i64 1] w fun e w' => e = .returned (.int .i64 y.s) ∧ Below w.heap.size w w') := fun w hw => total_ok w y hy (h2.later hw)
  obtain ⟨na, aa, ca, sa⟩ := x
  obtain ⟨nb, ab, cb, sb⟩ := y
  have HCA : Hid (∀ w, Calls Tryz.prog 70 #[.int .i64 1, .int .i64 1] w fun e w' => e = .returned (.int .i64 0) ∧ w = w') := fun w => cmpInt_any 1 1 w
  obtain ⟨cv, hcv⟩ : ∃ cv, cv = cmpI sa sb := ⟨_, rfl⟩
  have HCB : Hid (∀ w, Calls Tryz.prog 70 #[.int .i64 sa, .int .i64 sb] w fun e w' => e = .returned (.int .i64 cv) ∧ w = w') := fun w => by rw [hcv]; exact cmpInt_any sa sb w
  unfold LnI.val at *
  simp only at HTX HTY ⊢
  rw [← hcv]
  clear h1 h2 hx hy hcv
  have S0 := ((St.refl W).blk_new #[.string na, .bool false, .slice aa 1 ca, .string ⟨#[]⟩] 89).blk_new #[.string nb, .bool false, .slice ab 1 cb, .string ⟨#[]⟩] 89
  simp only [World.size_alloc, List.cons_append, List.nil_append] at S0
  have HS0 := Lib.hid S0
  clear S0
  go_enter Tryz.func102, Tryz.ntmps102
  go_wp2_with fail
  have S1 := HS0.out.drew
  refine wp_cls 18 (fun w' => St W w' [blk W.heap.size 89 #[.string na, .bool false, .slice aa 1 ca, .string ⟨#[]⟩], blk (W.heap.size + 1) 89 #[.string nb, .bool false, .slice ab 1 cb, .string ⟨#[]⟩]]) (by kernel_rfl) (by kernel_rfl) S1 ?_
  simp only [List.take_succ_cons, List.take_zero, List.drop_succ_cons, List.drop_zero]
  generalize hK : (fun w' => St W w' [blk W.heap.size 89 #[.string na, .bool false, .slice aa 1 ca, .string ⟨#[]⟩], blk (W.heap.size + 1) 89 #[.string nb, .bool false, .slice ab 1 cb, .string ⟨#[]⟩]]) = K
  intro hne
  have kS : ∀ y : Wd K, St W y.w [blk W.heap.size 89 #[.string na, .bool false, .slice aa 1 ca, .string ⟨#[]⟩], blk (W.heap.size + 1) 89 #[.string nb, .bool false, .slice ab 1 cb, .string ⟨#[]⟩]] := by subst hK; exact fun y => y.h
  have hK3 : ∀ w w' : World, K w → Below w.heap.size w w' → K w' := by subst hK; exact fun w w' h h' => h.ext h'
  have a0 : ∀ y : Wd K, y.w.cell? ⟨W.heap.size, 0, none⟩ = some (.string na) := fun y => (kS y).blk_cell (i := 0) rfl 0
  have a1 : ∀ y : Wd K, y.w.cell? ⟨W.heap.size, 1, none⟩ = some (.bool false) := fun y => (kS y).blk_cell (i := 0) rfl 1
  have a2 : ∀ y : Wd K, y.w.cell? ⟨W.heap.size, 2, none⟩ = some (.slice aa 1 ca) := fun y => (kS y).blk_cell (i := 0) rfl 2
  have a3 : ∀ y : Wd K, y.w.cell? ⟨W.heap.size, 3, none⟩ = some (.string ⟨#[]⟩) := fun y => (kS y).blk_cell (i := 0) rfl 3
  have b0 : ∀ y : Wd K, y.w.cell? ⟨W.heap.size + 1, 0, none⟩ = some (.string nb) := fun y => (kS y).blk_cell (i := 1) rfl 0
  have b1 : ∀ y : Wd K, y.w.cell? ⟨W.heap.size + 1, 1, none⟩ = some (.bool false) := fun y => (kS y).blk_cell (i := 1) rfl 1
  have b2 : ∀ y : Wd K, y.w.cell? ⟨W.heap.size + 1, 2, none⟩ = some (.slice ab 1 cb) := fun y => (kS y).blk_cell (i := 1) rfl 2
  have b3 : ∀ y : Wd K, y.w.cell? ⟨W.heap.size + 1, 3, none⟩ = some (.string ⟨#[]⟩) := fun y => (kS y).blk_cell (i := 1) rfl 3
  have KS := Lib.hid kS
  clear hK kS S1 HS0
  iterate 6 (go_big_quiet_step ((fail)))
  go_big_quiet_step ((go_at_call 70; exact cls_same (HCA.out _)))
  iterate 4 (go_big_quiet_step ((fail)))
  go_big_quiet_step ((go_at_call 67; exact cls_below hK3 (HTX.out _ (KS.out _).bel)))
  iterate 4 (go_big_quiet_step ((fail)))
  go_big_quiet_step ((go_at_call 67; exact cls_below hK3 (HTY.out _ (KS.out _).bel)))
  go_big_quiet_step ((go_at_call 70; exact cls_same (HCB.out _)))
  refine wpQuiet_nil ?_
  intro y
  have HSY := Lib.hid (KS.out y)
  clear a0 a1 a2 a3 b0 b1 b2 b3 hK3 KS hne HTX HTY HCA HCB
  generalize y.w = w3 at *
  go_wp2_with (go_at_call 122; refine (cmpOr2 _ _ cv (by simp) (by simp) (by simp)).mono ?_; rintro e w' ⟨rfl, rfl⟩)
  go_ret
  exact ⟨rfl, (HSY.out.alloc _).bel⟩
def bfL (ls : List LnI) (s : Int) : Nat := (ls.filter fun y => decide (y.s < s)).length
def lnAt (ls : List LnI) (i : Nat) : LnI := ls.getD i default
theorem lnAt_some {ls : List LnI} {i : Nat} {x : LnI} (h : ls[i]? = some x) : lnAt ls i = x := by unfold lnAt; simp [List.getD, h]
theorem bfL_take {ls : List LnI} {k : Nat} {x : LnI} (h : ls[k]? = some x) (s : Int) : bfL (ls.take (k + 1)) s = bfL (ls.take k) s + (if x.s < s then 1 else 0) := by
  unfold bfL
  rw [List.take_add_one, h, List.filter_append, List.length_append]
  by_cases hx : x.s < s <;> simp [hx]
theorem bfL_le (ls : List LnI) (s : Int) : bfL ls s ≤ ls.length := List.length_filter_le _ _
/-- the rank of a line: one more than there are better ones -/
def rkL (ls : List LnI) (i : Nat) : Int := 1 + (bfL ls (lnAt ls i).s : Int)
def GoodL (ls : List LnI) : Prop := ∀ x ∈ ls, 1 ≤ x.s ∧ x.s ≤ 9999
def updF (f : Nat → Int) (k : Nat) (x : Int) (i : Nat) : Int := if i = k then x else f i
theorem gl_upd {f : Nat → Int} {n k : Nat} {x : Int} : (intsI (gl f n)).set k (.int .i64 x) = intsI (gl (updF f k x) n) := gl_set5 (by unfold updF; rw [if_pos rfl]) fun i hi => by unfold updF; rw [if_neg hi]
theorem upd_upd (f : Nat → Int) (k : Nat) (x y : Int) : updF (updF f k x) k y = updF f k y := by
  funext i; unfold updF; split <;> rfl
set_option maxRecDepth 100000 in
set_option maxHeartbeats 4000000 in
theorem rank_ok (W : World) (v : Value) (m : Nat) (ls : List LnI) (F : FuncId) (hE : Enters Tryz.prog F) (hm : m ≤ 200) (h : RdLn W (· < W.heap.size) v m ls) (hg : GoodL ls)
    (hF : ∀ w (x : LnI), Calls Tryz.prog F #[x.val] w fun e w' => e = .returned (.bool true) ∧ Below w.heap.size w w') :
    Calls Tryz.prog 65 #[v, .func (.func F) #[] #[]] W fun e w' => ∃ v', e = .returned v' ∧ St W w' [row 3 1 v' m (intsI (gl (rkL ls) m))] := by
  have hlen := h.count
  obtain ⟨A, c, rfl, _, _, _⟩ := h.1.open_
  have H := Lib.hid h
  have HG := Lib.hid hg
  have HF := Lib.hid hF
  have HLN := Lib.hid hlen
  have HCM : Hid (∀ w, Below W.heap.size W w → ∀ x y, x ∈ ls → y ∈ ls → Calls Tryz.prog 102 #[x.val, y.val] w fun e w' => e = .returned (.int .i64 (cmpI x.s y.s)) ∧ Below w.heap.size w w') := fun w hw x y hx hy =>
    compare_ok w x y (hg x hx) (hg y hy) ((h.later hw).2 x hx) ((h.later hw).2 y hy)
  have HZ := Lib.hid (zeros_gl m)
  unfold Enters at hE
  clear h hg hF hlen
  have HS0 := Lib.hid (St.refl W)
  go_enter Tryz.func65, Tryz.ntmps65
  go_wp2_with (at_make; refine wpList_make_st eltI rfl _ _ rfl (n := m) rfl rfl HS0.out (by omega) (by omega) ?_; intro wc go S1 _ _; rw [HZ.out] at S1; simp only [List.nil_append] at S1; have HS1 := Lib.hid S1; clear S1 HS0)
  have HS2 : Hid (St W wc [row 3 1 (.slice (some ⟨go, 0, none⟩) m m) m (intsI (gl (fun i => if i < 0 then rkL ls i else 0) m))]) := by
    have : (fun i => if i < 0 then rkL ls i else 0) = fun _ => (0 : Int) := by funext i; simp
    rw [this]; exact HS1.out
  clear HS1
  go_loopw [15] (fun i w' => ∃ k : Nat, k ≤ m ∧ i = .int .i64 k ∧ St W w' [row 3 1 (.slice (some ⟨go, 0, none⟩) m m) m (intsI (gl (fun i => if i < k then rkL ls i else 0) m))]) (fun i _ => m - (intOf i).toNat)
  case atStart => exact ⟨0, Nat.zero_le _, rfl, HS2.out⟩
  case round =>
    obtain ⟨k, hk, rfl, S⟩ := hrel
    clear HS2
    by_cases hlt : k < m
    · obtain ⟨b, o, x, hA, hx, c0, c1, c2, c3⟩ := (H.out.later S.bel).elem hlt
      subst hA
      have hxl := List.mem_of_getElem? hx
      have S1 := S.blk_new #[.string x.name, .bool false, .slice x.a 1 x.c, .string ⟨#[]⟩] 89
      simp only [List.cons_append, List.nil_append] at S1
      have hrk : rkL ls k = ((1 + bfL (ls.take m) x.s : Nat) : Int) := by
        unfold rkL
        rw [lnAt_some hx, List.take_of_length_le (Nat.le_of_eq HLN.out.symm)]
        push_cast; rfl
      have HCX : Hid (∀ w, Below W.heap.size W w → ∀ y, y ∈ ls → Calls Tryz.prog 102 #[y.val, .agg #[.string x.name, .bool false, .slice x.a 1 x.c, .string ⟨#[]⟩]] w fun e w' => e = .returned (.int .i64 (cmpI y.s x.s)) ∧ Below w.heap.size w w') := fun w hw y hy => HCM.out w hw y x hy hxl
      have HFX : Hid (∀ w, Calls Tryz.prog F #[.agg #[.string x.name, .bool false, .slice x.a 1 x.c, .string ⟨#[]⟩]] w fun e w' => e = .returned (.bool true) ∧ Below w.heap.size w w') := fun w => HF.out w x
      obtain ⟨nx, ax, cx, sx⟩ := x
      simp only at S1 HCX HFX hrk c0 c1 c2 c3
      obtain ⟨gx, hgx⟩ : ∃ gx, gx = wr.heap.size := ⟨_, rfl⟩
      have HRK := Lib.hid hrk
      have HS1 := Lib.hid S1
      clear S S1 hx hxl hrk
      have hor : ∀ w', St W w' [row 3 1 (.slice (some ⟨go, 0, none⟩) m m) m (intsI (gl (fun i => if i < k then rkL ls i else 0) m)), blk gx 89 #[.string nx, .bool false, .slice ax 1 cx, .string ⟨#[]⟩]] →
          (w'.cell? ⟨go, k, none⟩ = some (.int .i64 0) ∧ w'.frozen? ⟨go, k, none⟩ = false) ∧ St W (w'.setCell ⟨go, k, none⟩ (.int .i64 1)) [row 3 1 (.slice (some ⟨go, 0, none⟩) m m) m (intsI (gl (updF (fun i => if i < k then rkL ls i else 0) k 1) m)), blk gx 89 #[.string nx, .bool false, .slice ax 1 cx, .string ⟨#[]⟩]] := fun w' hw => by
        have h1 := row_int5 hw (i := 0) rfl hlt
        have h2 := hw.row_set (i := 0) rfl k (.int .i64 1)
        simp only [List.set_cons_zero, List.set_cons_succ] at h2
        rw [gl_upd] at h2
        exact ⟨by simpa using h1, h2⟩
      have hfin : gl (updF (fun i => if i < k then rkL ls i else 0) k (rkL ls k)) m = gl (fun i => if i < k + 1 then rkL ls i else 0) m := by
        unfold gl updF
        refine List.map_congr_left fun i _ => ?_
        by_cases h1 : i = k
        · rw [if_pos h1, if_pos (by omega), h1]
        · rw [if_neg h1]
          by_cases h2 : i < k
          · show (if i < k then rkL ls i else 0) = _
            rw [if_pos h2, if_pos (by omega)]
          · show (if i < k then rkL ls i else 0) = _
            rw [if_neg h2, if_neg (by omega)]
      have HOR := Lib.hid hor
      have HFIN := Lib.hid hfin
      obtain ⟨GN, hGN⟩ : ∃ G : Nat → Int, G = fun i => if i < k + 1 then rkL ls i else 0 := ⟨_, rfl⟩
      have HGN := Lib.hid hGN
      rw [← hGN] at HFIN
      generalize (fun i => if i < k then rkL ls i else 0) = GA at *
      clear hor hfin hGN
      go_wp2_with fail
      rw [← hgx]
      rw [← hgx] at HS1
      generalize wr.alloc (.cells #[.string nx, .bool false, .slice ax 1 cx, .string ⟨#[]⟩] 89) = w1 at *
      clear hgx c0 c1 c2 c3
      have d0 := HS1.out.blk_cell (i := 1) rfl 0
      have d1 := HS1.out.blk_cell (i := 1) rfl 1
      have d2 := HS1.out.blk_cell (i := 1) rfl 2
      have d3 := HS1.out.blk_cell (i := 1) rfl 3
      go_wp2_with fail
      refine (HFX.out _).mono ?_
      rintro e w2 ⟨rfl, hb2⟩
      obtain ⟨⟨e0, f0⟩, S3⟩ := HOR.out _ (HS1.out.ext hb2)
      have HS3 := Lib.hid S3
      clear d0 d1 d2 d3 S3 HS1 hb2 HOR
      go_wp2_with fail
      go_loopw [29] (fun i w' => ∃ j : Nat, j ≤ m ∧ i = .int .i64 j ∧ St W w' [row 3 1 (.slice (some ⟨go, 0, none⟩) m m) m (intsI (gl (updF GA k ((1 + bfL (ls.take j) sx : Nat) : Int)) m)), blk gx 89 #[.string nx, .bool false, .slice ax 1 cx, .string ⟨#[]⟩]]) (fun i _ => m - (intOf i).toNat)
      case atStart => exact ⟨0, Nat.zero_le _, rfl, HS3.out⟩
      case round =>
        obtain ⟨j, hj, rfl, S⟩ := hrel
        clear HS3
        by_cases hltj : j < m
        · obtain ⟨b', o', y, hA', hy, c0, c1, c2, c3⟩ := (H.out.later S.bel).elem hltj
          cases hA'
          have hyl := List.mem_of_getElem? hy
          have hbt := bfL_take hy sx
          have hble : bfL (ls.take j) sx ≤ 200 := by have := bfL_le (ls.take j) sx; rw [List.length_take] at this; omega
          have HCY : Hid (∀ w, Below W.heap.size W w → Calls Tryz.prog 102 #[.agg #[.string y.name, .bool false, .slice y.a 1 y.c, .string ⟨#[]⟩], .agg #[.string nx, .bool false, .slice ax 1 cx, .string ⟨#[]⟩]] w fun e w' => e = .returned (.int .i64 (cmpI y.s sx)) ∧ Below w.heap.size w w') := fun w hw => HCX.out w hw y hyl
          have HFY : Hid (∀ w, Calls Tryz.prog F #[.agg #[.string y.name, .bool false, .slice y.a 1 y.c, .string ⟨#[]⟩]] w fun e w' => e = .returned (.bool true) ∧ Below w.heap.size w w') := fun w => HF.out w y
          have S1 := S.blk_new #[.string y.name, .bool false, .slice y.a 1 y.c, .string ⟨#[]⟩] 89
          simp only [List.cons_append, List.nil_append] at S1
          have HCUT : Hid (∀ w' g, St W w' [row 3 1 (.slice (some ⟨go, 0, none⟩) m m) m (intsI (gl (updF GA k ((1 + bfL (ls.take j) sx : Nat) : Int)) m)), blk gx 89 #[.string nx, .bool false, .slice ax 1 cx, .string ⟨#[]⟩], blk g 89 #[.string y.name, .bool false, .slice y.a 1 y.c, .string ⟨#[]⟩]] → St W w' [row 3 1 (.slice (some ⟨go, 0, none⟩) m m) m (intsI (gl (updF GA k ((1 + bfL (ls.take j) sx : Nat) : Int)) m)), blk gx 89 #[.string nx, .bool false, .slice ax 1 cx, .string ⟨#[]⟩]]) := fun w' g hw => hw.sub (List.sublist_append_left [_, _] [_])
          have hcv : ∃ cv, cmpI y.s sx = cv ∧ decide (cv < 0) = decide (y.s < sx) := ⟨_, rfl, by
            unfold cmpI
            by_cases h : y.s < sx
            · rw [if_pos h]; simp [h]
            · rw [if_neg h]; split <;> simp [h]⟩
          obtain ⟨cv, hcv, hcd⟩ := hcv
          rw [hcv] at HCY
          obtain ⟨ny, ay, cy, sy⟩ := y
          simp only at S1 HCY HFY hbt c0 c1 c2 c3 HCUT hcd
          obtain ⟨bn, hbn⟩ : ∃ bn, bn = bfL (ls.take (j + 1)) sx := ⟨_, rfl⟩
          rw [← hbn] at hbt
          have HBN := Lib.hid hbn
          generalize bfL (ls.take j) sx = bj at *
          have HS1 := Lib.hid S1
          obtain ⟨gy, hgy⟩ : ∃ gy, gy = wr.heap.size := ⟨_, rfl⟩
          clear S S1 hy hyl hcv hbn
          go_wp2_with fail
          rw [← hgy]
          rw [← hgy] at HS1
          generalize wr.alloc (.cells #[.string ny, .bool false, .slice ay 1 cy, .string ⟨#[]⟩] 89) = w4 at *
          clear hgy c0 c1 c2 c3
          have d0 := HS1.out.blk_cell (i := 2) rfl 0
          have d1 := HS1.out.blk_cell (i := 2) rfl 1
          have d2 := HS1.out.blk_cell (i := 2) rfl 2
          have d3 := HS1.out.blk_cell (i := 2) rfl 3
          go_wp2_with fail
          refine (HFY.out _).mono ?_
          rintro e w5 ⟨rfl, hb5⟩
          have S5 := HS1.out.ext hb5
          have d0 := S5.blk_cell (i := 2) rfl 0
          have d1 := S5.blk_cell (i := 2) rfl 1
          have d2 := S5.blk_cell (i := 2) rfl 2
          have d3 := S5.blk_cell (i := 2) rfl 3
          have e0 := S5.blk_cell (i := 1) rfl 0
          have e1 := S5.blk_cell (i := 1) rfl 1
          have e2 := S5.blk_cell (i := 1) rfl 2
          have e3 := S5.blk_cell (i := 1) rfl 3
          have HS5 := Lib.hid S5
          clear S5 hb5 HS1
          by_cases hls : sy < sx
          · have hc0 : decide (cv < 0) = true := by rw [hcd]; simpa using hls
            have hbt2 : bn = bj + 1 := by rw [hbt, if_pos hls]
            have HBT := Lib.hid hbt2
            clear hcd hbt hbt2 hls
            go_wp2_with (go_at_call 102; refine (HCY.out _ HS5.out.bel).mono ?_; rintro e w6 ⟨rfl, hb6⟩; have S6 := HCUT.out _ _ (HS5.out.ext hb6); have h1 := row_int5 S6 (i := 0) rfl hlt; rw [show updF GA k ((1 + bj : Nat) : Int) k = ((1 + bj : Nat) : Int) from if_pos rfl] at h1; obtain ⟨z0, z1⟩ := h1; have h2 := S6.row_set (i := 0) rfl k (.int .i64 ((1 + bn : Nat) : Int)); simp only [List.set_cons_zero, List.set_cons_succ] at h2; rw [gl_upd, upd_upd] at h2; have HS6 := Lib.hid h2; clear h2 S6 hb6 HS5)
            go_roundw
            case rel =>
              refine ⟨j + 1, by omega, by go_num, ?_⟩
              have e : (1 + (bj : Int) + 1) = ((1 + bn : Nat) : Int) := by rw [HBT.out]; push_cast; omega
              rw [e, ← HBN.out]
              exact HS6.out
            case measure => simp [intOf]; omega
          · have hc0 : decide (cv < 0) = false := by rw [hcd]; simpa using hls
            have hbt2 : bn = bj := by rw [hbt, if_neg hls]; rfl
            have HBT := Lib.hid hbt2
            clear hcd hbt hbt2 hls
            go_wp2_with (go_at_call 102; refine (HCY.out _ HS5.out.bel).mono ?_; rintro e w6 ⟨rfl, hb6⟩; have S6 := HCUT.out _ _ (HS5.out.ext hb6); have HS6 := Lib.hid S6; clear S6 hb6 HS5)
            go_roundw
            case rel => exact ⟨j + 1, by omega, by go_num, by rw [← HBN.out, HBT.out]; exact HS6.out⟩
            case measure => simp [intOf]; omega
        · obtain rfl : m = j := by omega
          have S2 := S.sub (L' := [_]) (List.sublist_append_left [_] [_])
          rw [← HRK.out, HFIN.out] at S2
          have HS6 := Lib.hid S2
          clear S S2
          go_wp2_with fail
          go_roundw
          case rel => exact ⟨k + 1, by omega, by go_num, by rw [← HGN.out]; exact HS6.out⟩
          case measure => simp [intOf]; omega
    · obtain rfl : m = k := by omega
      have h1 : gl (fun i => if i < m then rkL ls i else 0) m = gl (rkL ls) m := by
        unfold gl
        exact List.map_congr_left fun i hi => if_pos (List.mem_range.1 hi)
      rw [h1] at S
      have HS := Lib.hid S
      clear S h1
      go_wp2_with fail
      go_ret
      exact ⟨_, rfl, HS.out⟩
end Go.Proofs.YtkkkfjinflepmaaGreatDoor
