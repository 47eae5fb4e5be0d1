/- Part 3 of the walks of the golf union's program: WA, WB, WName, WC, WD. -/
import Derived.Test.YtjfhncnpmelopaaGreatDoorB02
import Derived.StillTailTactics
import Derived.Test.YtjfhncnpmelopaaGreatDoorB01
set_option linter.unusedVariables false
set_option linter.unusedSimpArgs false
set_option linter.unusedSectionVars false
set_option linter.constructorNameAsVariable false
/- Walks of the small functions of sheet and of the law's helpers. -/
namespace Go.Proofs.YtjfhncnpmelopaaGreatDoor
open Go.RowKit Go.Mem Go.Sheet
theorem eltI : Elt Tryz.prog 33 3 (.int .i64 0) 1 8 := ⟨Tryz.underlying33, by kernel_rfl, rfl, by decide⟩
theorem ret_i64 {a b : Int} (h : a = b) : Ending.returned (.int .i64 a) = .returned (.int .i64 b) := by rw [h]
theorem ret_bool {a b : Bool} (h : a = b) : Ending.returned (.bool a) = .returned (.bool b) := by rw [h]
theorem when_any (b : Bool) (e : Int) (w : World) : Calls Tryz.prog 94 #[.bool b, .int .i64 e] w fun r w' => r = .returned (.int .i64 (whenE b e)) ∧ w = w' := by
  go_enter Tryz.func94, Tryz.ntmps94
  cases b
  all_goals
    go_wp2
    go_ret
    exact ⟨rfl, rfl⟩
theorem lwhen_any (b : Bool) (e : Int) (w : World) : Calls Tryz.prog 51 #[.bool b, .int .i64 e] w fun r w' => r = .returned (.int .i64 (whenE b e)) ∧ w = w' := by
  go_enter Tryz.func51, Tryz.ntmps51
  cases b
  all_goals
    go_wp2
    go_ret
    exact ⟨rfl, rfl⟩
theorem outside_any (n lo hi : Int) (w : World) : Calls Tryz.prog 97 #[.int .i64 n, .int .i64 lo, .int .i64 hi] w fun r w' => r = .returned (.int .i64 (outE n lo hi)) ∧ w = w' := by
  go_enter Tryz.func97, Tryz.ntmps97
  by_cases h1 : n < lo
  · go_wp2_with (go_at_call 94; refine (when_any _ _ _).mono ?_; rintro e w' ⟨rfl, rfl⟩)
    go_ret
    exact ⟨by simp [outE, h1], rfl⟩
  · by_cases h2 : hi < n
    all_goals
      go_wp2_with (go_at_call 94; refine (when_any _ _ _).mono ?_; rintro e w' ⟨rfl, rfl⟩)
      go_ret
      exact ⟨ret_i64 (by unfold outE; congr 1; simp; omega), rfl⟩
theorem Outside_any (n lo hi : Int) (w : World) : Calls Tryz.prog 52 #[.int .i64 n, .int .i64 lo, .int .i64 hi] w fun r w' => r = .returned (.bool (decide (n < lo) || decide (hi < n))) ∧ w = w' := by
  go_enter Tryz.func52, Tryz.ntmps52
  by_cases h1 : n < lo
  · go_wp2
    go_ret
    exact ⟨by simp [h1], rfl⟩
  · by_cases h2 : hi < n
    all_goals
      go_wp2
      go_ret
      exact ⟨by simp [h1, h2], rfl⟩
set_option maxHeartbeats 400000 in
theorem first_any (w : World) (F : Nat → Prop) (v : Value) (n : Nat) (es : List Int) (h : Rd w F 1 v n (es.map (Value.int .i64))) :
    Calls Tryz.prog 93 #[v] w fun r w' => r = .returned (.int .i64 (fst es)) ∧ w = w' := by
  have HL := Lib.hid h.count1
  have hn := h.le
  obtain ⟨A, c, rfl, _, _, h⟩ := h.open_
  go_enter Tryz.func93, Tryz.ntmps93
  go_wp2
  go_loop [7] (fun i => ∃ k : Nat, k ≤ n ∧ i = .int .i64 k ∧ Hid (fst (es.drop k) = fst es)) (fun i => n - (intOf i).toNat)
  case atStart => exact ⟨0, Nat.zero_le _, rfl, rfl⟩
  case round =>
    obtain ⟨k, hk, rfl, he⟩ := hrel
    by_cases hlt : k < n
    · obtain ⟨b, o, x, rfl, hx, hc⟩ := h.int hlt
      have HX := Lib.hid hx
      clear hx
      go_wp2
      · go_ret
        exact ⟨ret_i64 (fst_stop HX.out (by simpa using ‹(x != 0) = true›) he.out), rfl⟩
      · go_round
        case rel => exact ⟨k + 1, by omega, by go_num, fst_go HX.out (by simpa using ‹(x != 0) = false›) he.out⟩
        case measure => simp [intOf]; omega
    · go_wp2
      go_ret
      obtain rfl : k = n := by omega
      exact ⟨ret_i64 (fst_end (Nat.le_of_eq HL.out.symm) he.out).symm, rfl⟩
set_option maxHeartbeats 400000 in
theorem lfirst_any (w : World) (F : Nat → Prop) (v : Value) (n : Nat) (es : List Int) (h : Rd w F 1 v n (es.map (Value.int .i64))) :
    Calls Tryz.prog 50 #[v] w fun r w' => r = .returned (.int .i64 (fst es)) ∧ w = w' := by
  have HL := Lib.hid h.count1
  have hn := h.le
  obtain ⟨A, c, rfl, _, _, h⟩ := h.open_
  go_enter Tryz.func50, Tryz.ntmps50
  go_wp2
  go_loop [3] (fun i => ∃ k : Nat, k ≤ n ∧ i = .int .i64 k ∧ Hid (fst (es.drop k) = fst es)) (fun i => n - (intOf i).toNat)
  case atStart => exact ⟨0, Nat.zero_le _, rfl, rfl⟩
  case round =>
    obtain ⟨k, hk, rfl, he⟩ := hrel
    by_cases hlt : k < n
    · obtain ⟨b, o, x, rfl, hx, hc⟩ := h.int hlt
      have HX := Lib.hid hx
      clear hx
      go_wp2
      · go_ret
        exact ⟨ret_i64 (fst_stop HX.out (by simpa using ‹(x != 0) = true›) he.out), rfl⟩
      · go_round
        case rel => exact ⟨k + 1, by omega, by go_num, fst_go HX.out (by simpa using ‹(x != 0) = false›) he.out⟩
        case measure => simp [intOf]; omega
    · go_wp2
      go_ret
      obtain rfl : k = n := by omega
      exact ⟨ret_i64 (fst_end (Nat.le_of_eq HL.out.symm) he.out).symm, rfl⟩
/-- first of errors that lie in a new row -/
theorem first2 (w : World) (g : Nat) (a b : Int) (hg : g < w.heap.size) (h0 : w.cell? ⟨g, 0, none⟩ = some (.int .i64 a)) (h1 : w.cell? ⟨g, 1, none⟩ = some (.int .i64 b)) :
    Calls Tryz.prog 93 #[.slice (some ⟨g, 0, none⟩) 2 2] w fun r w' => r = .returned (.int .i64 (fst [a, b])) ∧ w = w' :=
  first_any w (fun _ => True) _ 2 [a, b] (rd_cells hg (by simp) fun j u hu => by
    match j, hu with
    | 0, hu => cases hu; exact h0
    | 1, hu => cases hu; exact h1)
theorem first3 (w : World) (g : Nat) (a b c : Int) (hg : g < w.heap.size) (h0 : w.cell? ⟨g, 0, none⟩ = some (.int .i64 a)) (h1 : w.cell? ⟨g, 1, none⟩ = some (.int .i64 b)) (h2 : w.cell? ⟨g, 2, none⟩ = some (.int .i64 c)) :
    Calls Tryz.prog 93 #[.slice (some ⟨g, 0, none⟩) 3 3] w fun r w' => r = .returned (.int .i64 (fst [a, b, c])) ∧ w = w' :=
  first_any w (fun _ => True) _ 3 [a, b, c] (rd_cells hg (by simp) fun j u hu => by
    match j, hu with
    | 0, hu => cases hu; exact h0
    | 1, hu => cases hu; exact h1
    | 2, hu => cases hu; exact h2)
theorem first4 (w : World) (g : Nat) (a b c d : Int) (hg : g < w.heap.size) (h0 : w.cell? ⟨g, 0, none⟩ = some (.int .i64 a)) (h1 : w.cell? ⟨g, 1, none⟩ = some (.int .i64 b)) (h2 : w.cell? ⟨g, 2, none⟩ = some (.int .i64 c)) (h3 : w.cell? ⟨g, 3, none⟩ = some (.int .i64 d)) :
    Calls Tryz.prog 93 #[.slice (some ⟨g, 0, none⟩) 4 4] w fun r w' => r = .returned (.int .i64 (fst [a, b, c, d])) ∧ w = w' :=
  first_any w (fun _ => True) _ 4 [a, b, c, d] (rd_cells hg (by simp) fun j u hu => by
    match j, hu with
    | 0, hu => cases hu; exact h0
    | 1, hu => cases hu; exact h1
    | 2, hu => cases hu; exact h2
    | 3, hu => cases hu; exact h3)
theorem when_still (b : Bool) (e : Int) (w : World) : Calls Tryz.prog 94 #[.bool b, .int .i64 e] w fun r w' => r = .returned (.int .i64 (whenE b e)) ∧ w' = w :=
  (when_any b e w).mono fun _ _ ⟨h, h'⟩ => ⟨h, h'.symm⟩
theorem outside_still (n lo hi : Int) (w : World) : Calls Tryz.prog 97 #[.int .i64 n, .int .i64 lo, .int .i64 hi] w fun r w' => r = .returned (.int .i64 (outE n lo hi)) ∧ w' = w :=
  (outside_any n lo hi w).mono fun _ _ ⟨h, h'⟩ => ⟨h, h'.symm⟩
end Go.Proofs.YtjfhncnpmelopaaGreatDoor
/- Walks: CheckSlots. -/
namespace Go.Proofs.YtjfhncnpmelopaaGreatDoor
open Go.RowKit Go.Mem Go.Sheet
set_option maxRecDepth 100000 in
set_option maxHeartbeats 1000000 in
theorem checkSlots1_any (W : World) (l : List Slot) (n i g : Nat) (s : Slot) (v : Value) (hs : l[i]? = some s) (hv : W.cell? ⟨g, 0, none⟩ = some v) (h : Rd W (fun _ => True) 3 v n (l.flatMap Slot.cells)) :
    Calls Tryz.prog 179 #[.int .i64 i, s.val, .pointer (some ⟨g, 0, none⟩)] W fun e w' => e = .returned (.int .i64 (slotE l i s)) ∧ Below W.heap.size W w' := by
  have HS := Lib.hid hs
  have HL := Lib.hid (h.count (f := Slot.cells) (size := 3) (fun _ => rfl) (by decide))
  have hin : i < n := by rw [HL.out]; exact (List.getElem?_eq_some_iff.1 hs).1
  have hgW : g < W.heap.size := World.block_lt_of_cell? W _ hv
  have hn := h.le
  clear hs
  obtain ⟨A, c, rfl, _, _, h⟩ := h.open_
  obtain ⟨E, hE⟩ : ∃ E, E = fst [outE s.m 0 10000, outE s.h 1 36, outE s.p 1 8] := ⟨_, rfl⟩
  have HE := Lib.hid hE
  clear hE
  have hb0 : Below W.heap.size W (((W.alloc (.cells #[.int .i64 s.m, .int .i64 s.h, .int .i64 s.p] 46)).alloc (.cells #[.int .i64 (outE s.m 0 10000), .int .i64 (outE s.h 1 36), .int .i64 (outE s.p 1 8)] 30)).drew) :=
    (((Below.refl _ _).alloc (Nat.le_refl _) _).alloc (by simp) _).drew
  go_enter Tryz.func179, Tryz.ntmps179
  go_wp2_with fail
  go_region_held3 (fun w' => w'.cell? ⟨W.heap.size, 0, none⟩ = some (.int .i64 s.m) ∧ w'.cell? ⟨W.heap.size, 1, none⟩ = some (.int .i64 s.h) ∧ w'.cell? ⟨W.heap.size, 2, none⟩ = some (.int .i64 s.p)) (first | (refine ⟨?_, ?_, ?_⟩ <;> simp)) (first | (go_at_call 97; refine (outside_any _ _ _ _).mono ?_; rintro e w' ⟨rfl, rfl⟩) | (go_at_call 93; refine (first3 _ _ (outE s.m 0 10000) (outE s.h 1 36) (outE s.p 1 8) (by simp) (by simp) (by simp) (by simp)).mono ?_; rw [← HE.out]; rintro e w' ⟨rfl, rfl⟩))
  by_cases h0 : (E != 0) = true
  · go_wp2
    go_ret
    exact ⟨ret_i64 (by rw [slotE, ← HE.out, if_pos (by simpa using h0)]), hb0⟩
  · have h0' : (E != 0) = false := by simpa using h0
    have hE0 : ¬ E ≠ 0 := by simpa using h0
    clear h0
    by_cases hi : ((i : Int) == 0) = true
    · go_wp2
      go_ret
      exact ⟨ret_i64 (by rw [slotE, ← HE.out, if_neg hE0, if_pos (by simp at hi; omega)]; simp at hE0; exact hE0), hb0⟩
    · have hi' : ((i : Int) == 0) = false := by simpa using hi
      have hi0 : 0 < i := by simp at hi; omega
      clear hi
      obtain ⟨j, rfl⟩ : ∃ j, i = j + 1 := ⟨i - 1, by omega⟩
      obtain ⟨b, o, x, rfl, hx, c0, c1, c2⟩ := h.elem3 (k := j) (fun s : Slot => .int .i64 s.m) (fun s : Slot => .int .i64 s.h) (fun s : Slot => .int .i64 s.p) (fun _ => rfl) (by omega)
      have hbW : b < W.heap.size := World.block_lt_of_cell? W _ c0
      have HX := Lib.hid hx
      clear hx h
      generalize ((W.alloc (.cells #[.int .i64 s.m, .int .i64 s.h, .int .i64 s.p] 46)).alloc (.cells #[.int .i64 (outE s.m 0 10000), .int .i64 (outE s.h 1 36), .int .i64 (outE s.p 1 8)] 30)).drew = w1 at *
      obtain ⟨d0, d1, d2⟩ := ‹_ ∧ _ ∧ _›
      have hv1 := (hb0.cell (p := ⟨g, 0, none⟩) hgW).trans hv
      have x0 := (hb0.cell (p := ⟨b, o + j * 3, none⟩) hbW).trans c0
      have x1 := (hb0.cell (p := ⟨b, o + j * 3 + 1, none⟩) hbW).trans c1
      have x2 := (hb0.cell (p := ⟨b, o + j * 3 + 2, none⟩) hbW).trans c2
      have hsz : W.heap.size < w1.heap.size := World.block_lt_of_cell? w1 ⟨W.heap.size, 0, none⟩ d0
      clear c0 c1 c2 hv
      have fin : Hid (slotE l (j + 1) s = whenE (decide (s.m < x.m) || (s.m == x.m && decide (s.h ≤ x.h))) 11) := by
        show slotE l (j + 1) s = _
        rw [slotE, ← HE.out, if_neg hE0, if_neg (by omega), Nat.add_sub_cancel, HX.out]
      have hb2 : Below W.heap.size W (w1.alloc (.cells #[.int .i64 x.m, .int .i64 x.h, .int .i64 x.p] 46)) := hb0.alloc (Nat.le_of_lt hsz) _
      clear hE0 HE HX HS
      by_cases hm : s.m < x.m
      · go_wp2_with (go_at_call 94; refine (when_any _ _ _).mono ?_; rintro e w' ⟨rfl, rfl⟩)
        go_ret
        exact ⟨ret_i64 (by rw [fin.out]; simp [hm]), hb2⟩
      · have hm1 : decide (s.m < x.m) = false := by simpa using hm
        by_cases he : s.m = x.m
        · have he1 : (s.m == x.m) = true := by simpa using he
          have HE := Lib.hid he
          clear he hm
          go_wp2_with (go_at_call 94; refine (when_any _ _ _).mono ?_; rintro e w' ⟨rfl, rfl⟩)
          go_ret
          exact ⟨ret_i64 (by rw [fin.out]; simp [hm1, he1]), hb2⟩
        · have he1 : (s.m == x.m) = false := by simpa using he
          clear he hm
          go_wp2_with (go_at_call 94; refine (when_any _ _ _).mono ?_; rintro e w' ⟨rfl, rfl⟩)
          go_ret
          exact ⟨ret_i64 (by rw [fin.out]; simp [hm1, he1]), hb2⟩
theorem checkSlots_each (W : World) (l : List Slot) (n : Nat) (A : Option Addr) (c : Nat) (h : Rd W (· < W.heap.size) 3 (.slice A n c) n (l.flatMap Slot.cells)) :
    Calls Tryz.prog 178 #[.slice A n c, .func (.func 179) #[] #[.pointer (some ⟨W.heap.size, 0, none⟩)]] (W.alloc (.cells #[.slice A n c] 22))
      fun e w' => e = .returned (.int .i64 (eachF (slotE l) 0 l)) ∧ Below W.heap.size W w' := by
  have hb := (Below.refl W.heap.size W).alloc (Nat.le_refl _) (.cells #[.slice A n c] 22)
  have h1 := h.later hb
  have hcell : (W.alloc (.cells #[.slice A n c] 22)).cell? ⟨W.heap.size, 0, none⟩ = some (.slice A n c) := by simp
  generalize W.alloc (.cells #[.slice A n c] 22) = W1 at *
  have hC : ∀ k x w, l[k]? = some x → Below W1.heap.size W1 w → Calls Tryz.prog 179 (#[.int .i64 k, x.val] ++ #[.pointer (some ⟨W.heap.size, 0, none⟩)]) w fun e w' => e = .returned (.int .i64 (slotE l k x)) ∧ Below w.heap.size w w' := by
    intro k x w hx hbw
    have hg : W.heap.size < W1.heap.size := World.block_lt_of_cell? W1 ⟨W.heap.size, 0, none⟩ hcell
    exact checkSlots1_any w l n k W.heap.size x _ hx ((hbw.cell (p := ⟨W.heap.size, 0, none⟩) hg).trans hcell) ((h1.below hbw).mono fun _ _ _ => trivial)
  exact (each_Slot_pure W1 _ n l 179 (enters Tryz.func179 (by kernel_rfl) rfl) _ (slotE l) h1 hC).mono fun _ _ ⟨he, hb'⟩ => ⟨he, hb.trans (hb'.mono hb.size)⟩
set_option maxRecDepth 100000 in
set_option maxHeartbeats 400000 in
theorem checkSlots_any (W : World) (l : List Slot) (n : Nat) (v : Value) (h : Rd W (· < W.heap.size) 3 v n (l.flatMap Slot.cells)) :
    Calls Tryz.prog 139 #[v] W fun e w' => e = .returned (.int .i64 (checkSlots l)) ∧ Below W.heap.size W w' := by
  have HL := Lib.hid (h.count (f := Slot.cells) (size := 3) (fun _ => rfl) (by decide))
  have hn := h.le
  obtain ⟨A, c, rfl, _, _, h⟩ := h.open_
  have hb := (Below.refl W.heap.size W).alloc (Nat.le_refl _) (.cells #[.slice A n c] 22)
  have HC := Lib.hid (checkSlots_each W l n A c h)
  clear h
  go_enter Tryz.func139, Tryz.ntmps139
  by_cases h24 : 24 < n
  · go_wp2
    go_ret
    exact ⟨ret_i64 (by rw [checkSlots, ← HL.out, if_pos h24]), hb⟩
  · go_wp2_with (go_at_call 178; refine HC.out.mono ?_; rintro e w' ⟨rfl, hb'⟩)
    go_ret
    exact ⟨ret_i64 (by rw [checkSlots, ← HL.out, if_neg (by omega)]), hb'⟩
end Go.Proofs.YtjfhncnpmelopaaGreatDoor
/- Walks: card.isLetter, card.IsName, niblickref01.IsName. -/
namespace Go.Proofs.YtjfhncnpmelopaaGreatDoor
open Go.RowKit Go.Mem Go.Sheet
theorem isLetter_any (c : Int) (w : World) : Calls Tryz.prog 184 #[.int .i32 c] w fun r w' => r = .returned (.bool (letterI c)) ∧ w = w' := by
  go_enter Tryz.func184, Tryz.ntmps184
  by_cases h1 : 97 ≤ c <;> by_cases h2 : c ≤ 122 <;> by_cases h3 : 65 ≤ c <;> by_cases h4 : c ≤ 90
  all_goals first | omega | skip
  all_goals
    go_wp2
    go_ret
    exact ⟨ret_bool (by unfold letterI; simp; omega), rfl⟩
theorem isLetter_yes (c : Int) (w : World) (h : letterI c = true) : Calls Tryz.prog 184 #[.int .i32 c] w fun r w' => r = .returned (.bool true) ∧ w = w' := by
  rw [← h]; exact isLetter_any c w
theorem isLetter_no (c : Int) (w : World) (h : letterI c = false) : Calls Tryz.prog 184 #[.int .i32 c] w fun r w' => r = .returned (.bool false) ∧ w = w' := by
  rw [← h]; exact isLetter_any c w
theorem bytes_empty (s : ByteArray) : s.toList.isEmpty = decide (s.size = 0) := by
  rw [ByteArray.toList_eq]
  have h : s.data.toList.length = s.size := by simp
  cases hl : s.data.toList with
  | nil => rw [hl] at h; simp at h; simp [← h]
  | cons a l => rw [hl] at h; rw [← h]; rfl
set_option maxRecDepth 100000 in
set_option maxHeartbeats 1000000 in
theorem cardIsName_any (s : ByteArray) (w : World) (hs : s.size ≤ 9223372036854775807) : Calls Tryz.prog 148 #[.string s] w fun e w' => e = .returned (.bool (nameB s)) ∧ Below w.heap.size w w' := by
  have hbi : ∀ p, Below w.heap.size w (w.iter s p) := fun p => (Below.refl _ _).alloc (Nat.le_refl _) _
  go_enter Tryz.func148, Tryz.ntmps148
  go_wp2
  go_loopw [3] (fun _ wr => ∃ k : Nat, k ≤ s.size ∧ wr = w.iter s k ∧ Hid (goodAt k (s.data.toList.drop k) = goodAt 0 s.data.toList)) (fun _ wr => s.size - wr.iterPos w.heap.size)
  case atStart => exact ⟨0, Nat.zero_le _, rfl, rfl⟩
  case round =>
    obtain ⟨k, hk, rfl, he⟩ := hrel
    by_cases hlt : k < s.size
    · by_cases ha : (s[k]'hlt).toNat < 128
      · have hnx : ∀ ty, (Instr.next (.pointer (some ⟨w.heap.size, 0, none⟩)) true ty).run Tryz.prog (w.iter s k) = _ := fun ty => run_next_ascii w s k ty hlt ha
        obtain ⟨c, hc⟩ : ∃ c : Nat, c = (s[k]'hlt).toNat := ⟨_, rfl⟩
        have hstop := good_stop s k hlt
        have hgo := good_go s k hlt
        rw [← hc] at hnx hstop hgo ha
        have HS := Lib.hid hstop
        have HG := Lib.hid hgo
        clear hstop hgo hc
        cases hL : letterI c
        · have hg : goodI k c = (!decide (k = 0) && (decide ((c : Int) = 95) || (decide (48 ≤ (c : Int)) && decide ((c : Int) ≤ 57)))) := by unfold goodI; rw [hL]; rfl
          have HG2 := Lib.hid hg
          have HC := Lib.hid (isLetter_no c · hL)
          clear hg hL
          by_cases h0 : k = 0
          · have HN : Hid (goodI k c = false) := by show _ = _; rw [HG2.out]; simp [h0]
            have h0' : ((k : Int) == 0) = true := by simp; omega
            have HK := Lib.hid h0
            clear h0
            go_wp2_with (go_at_call 184; refine (HC.out _).mono ?_; rintro e w' ⟨rfl, rfl⟩)
            go_ret
            exact ⟨ret_bool (by rw [nameB, HS.out HN.out he.out]; simp), hbi _⟩
          · have h0' : ((k : Int) == 0) = false := by simp; omega
            by_cases h95 : (c : Int) = 95
            · have HN : Hid (goodI k c = true) := by show _ = _; rw [HG2.out]; simp [h0, h95]
              have h95' : ((c : Int) != 95) = false := by simp [h95]
              have HK := Lib.hid h95
              clear h95
              go_wp2_with (go_at_call 184; refine (HC.out _).mono ?_; rintro e w' ⟨rfl, rfl⟩)
              go_roundw
              case rel => exact ⟨k + 1, by omega, rfl, HG.out HN.out he.out⟩
              case measure => simp; omega
            · have h95' : ((c : Int) != 95) = true := by simp; omega
              by_cases h48 : (c : Int) < 48
              · have HN : Hid (goodI k c = false) := by show _ = _; rw [HG2.out]; simp; omega
                go_wp2_with (go_at_call 184; refine (HC.out _).mono ?_; rintro e w' ⟨rfl, rfl⟩)
                go_ret
                exact ⟨ret_bool (by rw [nameB, HS.out HN.out he.out]; simp), hbi _⟩
              · by_cases h57 : 57 < (c : Int)
                · have HN : Hid (goodI k c = false) := by show _ = _; rw [HG2.out]; simp; omega
                  go_wp2_with (go_at_call 184; refine (HC.out _).mono ?_; rintro e w' ⟨rfl, rfl⟩)
                  go_ret
                  exact ⟨ret_bool (by rw [nameB, HS.out HN.out he.out]; simp), hbi _⟩
                · have HN : Hid (goodI k c = true) := by show _ = _; rw [HG2.out]; simp; omega
                  go_wp2_with (go_at_call 184; refine (HC.out _).mono ?_; rintro e w' ⟨rfl, rfl⟩)
                  go_roundw
                  case rel => exact ⟨k + 1, by omega, rfl, HG.out HN.out he.out⟩
                  case measure => simp; omega
        · have HC := Lib.hid (isLetter_yes c · hL)
          have hg : goodI k c = true := by unfold goodI; rw [hL]; rfl
          have HN := Lib.hid hg
          clear hL hg
          go_wp2_with (go_at_call 184; refine (HC.out _).mono ?_; rintro e w' ⟨rfl, rfl⟩)
          go_roundw
          case rel => exact ⟨k + 1, by omega, rfl, HG.out HN.out he.out⟩
          case measure => simp; omega
      · have hnx : ∀ ty, (Instr.next (.pointer (some ⟨w.heap.size, 0, none⟩)) true ty).run Tryz.prog (w.iter s k) = _ := fun ty => run_next_any w s k ty hlt
        have hd := (decode_high s k hlt (by omega)).1
        have hN : goodI k ((s[k]'hlt).toNat : Int) = false := by unfold goodI letterI; simp; omega
        have HE := Lib.hid (good_stop s k hlt hN he.out)
        generalize Utf8.decode s k = d at *
        obtain ⟨c, m⟩ := d
        dsimp only at hnx hd
        have hL : letterI c = false := by unfold letterI; simp; omega
        have HC := Lib.hid (isLetter_no c · hL)
        have h95' : ((c : Int) != 95) = true := by simp; omega
        have h48 : ¬ (c : Int) < 48 := by omega
        have h57 : 57 < (c : Int) := by omega
        clear hN hL ha he
        by_cases h0 : k = 0
        · have h0' : ((k : Int) == 0) = true := by simp; omega
          have HK := Lib.hid h0
          clear h0
          go_wp2_with (go_at_call 184; refine (HC.out _).mono ?_; rintro e w' ⟨rfl, rfl⟩)
          go_ret
          exact ⟨ret_bool (by rw [nameB, HE.out]; simp), hbi _⟩
        · have h0' : ((k : Int) == 0) = false := by simp; omega
          go_wp2_with (go_at_call 184; refine (HC.out _).mono ?_; rintro e w' ⟨rfl, rfl⟩)
          go_ret
          exact ⟨ret_bool (by rw [nameB, HE.out]; simp), hbi _⟩
    · have hnx : ∀ ty, (Instr.next (.pointer (some ⟨w.heap.size, 0, none⟩)) true ty).run Tryz.prog (w.iter s k) = _ := fun ty => run_next_end w s k ty hlt
      have HG := Lib.hid (good_end s k (by omega) he.out)
      have hem : s.toList.isEmpty = decide (s.size = 0) := bytes_empty s
      by_cases h0 : s.size = 0
      · have hem1 : s.toList.isEmpty = true := by rw [hem]; simpa using h0
        have hem2 : s.toList = [] := by simpa using hem1
        have H0 := Lib.hid h0
        clear h0 hem
        go_wp2
        go_ret
        exact ⟨ret_bool (by rw [nameB, H0.out]; rfl), hbi _⟩
      · have hem1 : s.toList.isEmpty = false := by rw [hem]; simpa using h0
        have hem2 : ¬ s.toList = [] := by simpa using hem1
        have HZ := Lib.hid (show 0 < s.size by omega)
        clear hem
        go_wp2
        go_ret
        exact ⟨ret_bool (by have := HZ.out; have h1 : decide (0 < s.size) = true := by simpa using this
                            rw [nameB, HG.out, h1]; simp; omega), hbi _⟩
set_option maxRecDepth 100000 in
set_option maxHeartbeats 1000000 in
theorem refIsName_any (s : ByteArray) (w : World) (hs : s.size ≤ 9223372036854775807) : Calls Tryz.prog 86 #[.string s] w fun e w' => e = .returned (.bool (nameB s)) ∧ w = w' := by
  go_enter Tryz.func86, Tryz.ntmps86
  by_cases h1 : s.size < 1
  · have H := Lib.hid (show nameB s = false by rw [nameB]; simp; omega)
    go_wp2
    go_ret
    exact ⟨ret_bool H.out.symm, rfl⟩
  by_cases h24 : 24 < s.size
  · have H := Lib.hid (show nameB s = false by rw [nameB]; simp; omega)
    go_wp2
    go_ret
    exact ⟨ret_bool H.out.symm, rfl⟩
  go_wp2
  go_loop [3] (fun i => ∃ k : Nat, k ≤ s.size ∧ i = .int .i64 k ∧ Hid (goodAt k (s.data.toList.drop k) = goodAt 0 s.data.toList)) (fun i => s.size - (intOf i).toNat)
  case atStart => exact ⟨0, Nat.zero_le _, rfl, rfl⟩
  case round =>
    obtain ⟨k, hk, rfl, he⟩ := hrel
    by_cases hlt : k < s.size
    · have hstop := good_stop s k hlt
      have hgo := good_go s k hlt
      obtain ⟨c, hc⟩ : ∃ c : Nat, (s[k]'hlt).toNat = c := ⟨_, rfl⟩
      rw [hc] at hstop hgo
      have HS := Lib.hid hstop
      have HG := Lib.hid hgo
      have HNS : Hid (goodI k c = false → nameB s = false) := fun h => by rw [nameB, HS.out h he.out]; simp
      clear hstop hgo
      have hg : goodI k c = (letterI c || (!decide (k = 0) && (decide ((c : Int) = 95) || (decide (48 ≤ (c : Int)) && decide ((c : Int) ≤ 57))))) := rfl
      have HG2 := Lib.hid hg
      clear hg
      by_cases hL : (97 ≤ c ∧ c ≤ 122) ∨ (65 ≤ c ∧ c ≤ 90)
      · have HN : Hid (goodI k c = true) := by show _ = _; rw [HG2.out]; unfold letterI; simp; omega
        rcases hL with ⟨l1, l2⟩ | ⟨l1, l2⟩
        all_goals
          (try have d0 : decide ((97 : Int) ≤ (c : Int)) = true := by simp; omega)
          (try have d0 : decide ((97 : Int) ≤ (c : Int)) = false := by simp; omega)
          (try have d1 : decide ((c : Int) ≤ 122) = true := by simp; omega)
          (try have d1 : decide ((c : Int) ≤ 122) = false := by simp; omega)
          (try have d2 : decide ((65 : Int) ≤ (c : Int)) = true := by simp; omega)
          (try have d2 : decide ((65 : Int) ≤ (c : Int)) = false := by simp; omega)
          (try have d3 : decide ((c : Int) ≤ 90) = true := by simp; omega)
          (try have d3 : decide ((c : Int) ≤ 90) = false := by simp; omega)
          (try have d4 : decide ((48 : Int) ≤ (c : Int)) = true := by simp; omega)
          (try have d4 : decide ((48 : Int) ≤ (c : Int)) = false := by simp; omega)
          (try have d5 : decide ((c : Int) ≤ 57) = true := by simp; omega)
          (try have d5 : decide ((c : Int) ≤ 57) = false := by simp; omega)
          go_wp2
          go_round
          case rel => exact ⟨k + 1, by omega, by go_num, HG.out HN.out he.out⟩
          case measure => simp [intOf]; omega
      · have HL := Lib.hid hL
        by_cases h0 : k = 0
        · have HN : Hid (goodI k c = false) := by show _ = _; rw [HG2.out]; unfold letterI; simp; omega
          have HB : Hid (nameB s = false) := HNS.out HN.out
          have h0' : ((k : Int) == 0) = true := by simp; omega
          have HK := Lib.hid h0
          clear h0 hL
          have l : c < 65 ∨ (90 < c ∧ c < 97) ∨ 122 < c := by have := HL.out; omega
          rcases l with l | ⟨l1, l2⟩ | l
          all_goals
            (try have d0 : decide ((97 : Int) ≤ (c : Int)) = true := by simp; omega)
            (try have d0 : decide ((97 : Int) ≤ (c : Int)) = false := by simp; omega)
            (try have d1 : decide ((c : Int) ≤ 122) = true := by simp; omega)
            (try have d1 : decide ((c : Int) ≤ 122) = false := by simp; omega)
            (try have d2 : decide ((65 : Int) ≤ (c : Int)) = true := by simp; omega)
            (try have d2 : decide ((65 : Int) ≤ (c : Int)) = false := by simp; omega)
            (try have d3 : decide ((c : Int) ≤ 90) = true := by simp; omega)
            (try have d3 : decide ((c : Int) ≤ 90) = false := by simp; omega)
            (try have d4 : decide ((48 : Int) ≤ (c : Int)) = true := by simp; omega)
            (try have d4 : decide ((48 : Int) ≤ (c : Int)) = false := by simp; omega)
            (try have d5 : decide ((c : Int) ≤ 57) = true := by simp; omega)
            (try have d5 : decide ((c : Int) ≤ 57) = false := by simp; omega)
            go_wp2
            go_ret
            exact ⟨ret_bool HB.out.symm, rfl⟩
        · have h0' : ((k : Int) == 0) = false := by simp; omega
          by_cases hd : c = 95 ∨ (48 ≤ c ∧ c ≤ 57)
          · have HN : Hid (goodI k c = true) := by show _ = _; rw [HG2.out]; simp; omega
            rcases hd with rfl | ⟨l1, l2⟩
            all_goals
              clear hL
              (try have d0 : decide ((97 : Int) ≤ (c : Int)) = true := by simp; omega)
              (try have d0 : decide ((97 : Int) ≤ (c : Int)) = false := by simp; omega)
              (try have d1 : decide ((c : Int) ≤ 122) = true := by simp; omega)
              (try have d1 : decide ((c : Int) ≤ 122) = false := by simp; omega)
              (try have d2 : decide ((65 : Int) ≤ (c : Int)) = true := by simp; omega)
              (try have d2 : decide ((65 : Int) ≤ (c : Int)) = false := by simp; omega)
              (try have d3 : decide ((c : Int) ≤ 90) = true := by simp; omega)
              (try have d3 : decide ((c : Int) ≤ 90) = false := by simp; omega)
              (try have d4 : decide ((48 : Int) ≤ (c : Int)) = true := by simp; omega)
              (try have d4 : decide ((48 : Int) ≤ (c : Int)) = false := by simp; omega)
              (try have d5 : decide ((c : Int) ≤ 57) = true := by simp; omega)
              (try have d5 : decide ((c : Int) ≤ 57) = false := by simp; omega)
              go_wp2
              go_round
              case rel => exact ⟨k + 1, by omega, by go_num, HG.out HN.out he.out⟩
              case measure => simp [intOf]; omega
          · have HN : Hid (goodI k c = false) := by show _ = _; rw [HG2.out]; unfold letterI; simp; omega
            have HB : Hid (nameB s = false) := HNS.out HN.out
            have h95 : ((c : Int) == 95) = false := by simp; omega
            have l : c < 48 ∨ (57 < c ∧ c < 65) ∨ (90 < c ∧ c < 97) ∨ 122 < c := by omega
            clear hL hd
            rcases l with l | ⟨l1, l2⟩ | ⟨l1, l2⟩ | l
            all_goals
              (try have d0 : decide ((97 : Int) ≤ (c : Int)) = true := by simp; omega)
              (try have d0 : decide ((97 : Int) ≤ (c : Int)) = false := by simp; omega)
              (try have d1 : decide ((c : Int) ≤ 122) = true := by simp; omega)
              (try have d1 : decide ((c : Int) ≤ 122) = false := by simp; omega)
              (try have d2 : decide ((65 : Int) ≤ (c : Int)) = true := by simp; omega)
              (try have d2 : decide ((65 : Int) ≤ (c : Int)) = false := by simp; omega)
              (try have d3 : decide ((c : Int) ≤ 90) = true := by simp; omega)
              (try have d3 : decide ((c : Int) ≤ 90) = false := by simp; omega)
              (try have d4 : decide ((48 : Int) ≤ (c : Int)) = true := by simp; omega)
              (try have d4 : decide ((48 : Int) ≤ (c : Int)) = false := by simp; omega)
              (try have d5 : decide ((c : Int) ≤ 57) = true := by simp; omega)
              (try have d5 : decide ((c : Int) ≤ 57) = false := by simp; omega)
              go_wp2
              go_ret
              exact ⟨ret_bool HB.out.symm, rfl⟩
    · have HG := Lib.hid (good_end s k (by omega) he.out)
      have HN : Hid (nameB s = true) := by show _ = _; rw [nameB, HG.out]; simp; omega
      go_wp2
      go_ret
      exact ⟨ret_bool HN.out.symm, rfl⟩
end Go.Proofs.YtjfhncnpmelopaaGreatDoor
/- Walks: CheckRequests. -/
namespace Go.Proofs.YtjfhncnpmelopaaGreatDoor
open Go.RowKit Go.Mem Go.Sheet
set_option maxRecDepth 100000 in
set_option maxHeartbeats 1000000 in
theorem checkRequests12_0 (W : World) (nl g g2 cl : Nat) (Al : Option Addr) (ws : List Wish) (x : Wish)
    (hv : W.cell? ⟨g, 0, none⟩ = some (.slice Al nl cl)) :
    Calls Tryz.prog 150 #[.int .i64 0, x.val, .pointer (some ⟨g, 0, none⟩), .pointer (some ⟨g2, 0, none⟩)] W fun e w' => e = .returned (.int .i64 (wishE nl ws 0 x)) ∧ Below W.heap.size W w' := by
  have hgW : g < W.heap.size := World.block_lt_of_cell? W _ hv
  have HP : Hid (prevWish ws 0 x = false) := rfl
  go_enter Tryz.func150, Tryz.ntmps150
  go_wp2_with fail
  refine wp_cls 29 (fun w' => Below W.heap.size W w' ∧ w'.cell? ⟨W.heap.size, 0, none⟩ = some (.int .i64 x.s) ∧ w'.cell? ⟨W.heap.size, 1, none⟩ = some (.int .i64 x.w) ∧ w'.cell? ⟨g, 0, none⟩ = some (.slice Al nl cl)) (by kernel_rfl) (by kernel_rfl)
    ⟨((Below.refl _ _).alloc (Nat.le_refl _) _).drew, by simp, by simp, by simp (disch := (simp; omega)) [World.cell?_alloc_lt, hv]⟩ ?_
  simp only [List.take_succ_cons, List.take_zero, List.drop_succ_cons, List.drop_zero]
  generalize hK : (fun w' => Below W.heap.size W w' ∧ w'.cell? ⟨W.heap.size, 0, none⟩ = some (.int .i64 x.s) ∧ w'.cell? ⟨W.heap.size, 1, none⟩ = some (.int .i64 x.w) ∧ w'.cell? ⟨g, 0, none⟩ = some (.slice Al nl cl)) = K
  intro hne
  have kb : ∀ y : Wd K, Below W.heap.size W y.w := by subst hK; exact fun y => y.h.1
  have k0 : ∀ y : Wd K, y.w.cell? ⟨W.heap.size, 0, none⟩ = some (.int .i64 x.s) := by subst hK; exact fun y => y.h.2.1
  have k1 : ∀ y : Wd K, y.w.cell? ⟨W.heap.size, 1, none⟩ = some (.int .i64 x.w) := by subst hK; exact fun y => y.h.2.2.1
  have k2 : ∀ y : Wd K, y.w.cell? ⟨g, 0, none⟩ = some (.slice Al nl cl) := by subst hK; exact fun y => y.h.2.2.2
  clear hK hv
  have h1c : x.s < 0 ∨ ¬ x.s < 0 := by omega
  rcases h1c with h1 | h1
  all_goals
    repeat (go_big_quiet_step ((first | (go_at_call 94; exact cls_same (when_any _ _ _)) | (go_at_call 97; exact cls_same (outside_any _ _ _ _)))))
    refine wpQuiet_nil ?_
    intro y
    have hb := kb y
    clear k0 k1 k2 kb
  · go_wp2_with (go_at_call 93; refine (first3 _ _ (whenE true 10) (whenE false 11) (outE x.w 1 10000) (by simp) (by simp) (by simp) (by simp)).mono ?_; rintro e w' ⟨rfl, rfl⟩)
    go_ret
    exact ⟨ret_i64 (by rw [wishE, HP.out]; simp [h1]), hb.alloc hb.size _⟩
  · go_wp2_with (go_at_call 93; refine (first3 _ _ (whenE (decide ((nl : Int) ≤ x.s)) 10) (whenE false 11) (outE x.w 1 10000) (by simp) (by simp) (by simp) (by simp)).mono ?_; rintro e w' ⟨rfl, rfl⟩)
    go_ret
    exact ⟨ret_i64 (by have h1' : decide (x.s < 0) = false := by simp; omega
                       rw [wishE, HP.out, h1']; simp), hb.alloc hb.size _⟩
set_option maxRecDepth 100000 in
set_option maxHeartbeats 1000000 in
theorem checkRequests12_s (W : World) (nl j g g2 wn wc cl b o : Nat) (Al : Option Addr) (ws : List Wish) (x y : Wish) (hP : prevWish ws (j + 1) x = decide (x.s ≤ y.s)) (hj : j + 1 < wn) (hn : wn ≤ 9223372036854775807)
    (hv : W.cell? ⟨g, 0, none⟩ = some (.slice Al nl cl)) (hv2 : W.cell? ⟨g2, 2, none⟩ = some (.slice (some ⟨b, o, none⟩) wn wc)) (c0 : W.cell? ⟨b, o + j * 2, none⟩ = some (.int .i64 y.s)) :
    Calls Tryz.prog 150 #[.int .i64 (j + 1 : Nat), x.val, .pointer (some ⟨g, 0, none⟩), .pointer (some ⟨g2, 0, none⟩)] W fun e w' => e = .returned (.int .i64 (wishE nl ws (j + 1) x)) ∧ Below W.heap.size W w' := by
  have hgW : g < W.heap.size := World.block_lt_of_cell? W _ hv
  have hgW2 : g2 < W.heap.size := World.block_lt_of_cell? W _ hv2
  have hbW : b < W.heap.size := World.block_lt_of_cell? W _ c0
  have HP := Lib.hid hP
  clear hP
  go_enter Tryz.func150, Tryz.ntmps150
  go_wp2_with fail
  refine wp_cls 29 (fun w' => Below W.heap.size W w' ∧ w'.cell? ⟨W.heap.size, 0, none⟩ = some (.int .i64 x.s) ∧ w'.cell? ⟨W.heap.size, 1, none⟩ = some (.int .i64 x.w)) (by kernel_rfl) (by kernel_rfl)
    ⟨((Below.refl _ _).alloc (Nat.le_refl _) _).drew, by simp, by simp⟩ ?_
  simp only [List.take_succ_cons, List.take_zero, List.drop_succ_cons, List.drop_zero]
  generalize hK : (fun w' => Below W.heap.size W w' ∧ w'.cell? ⟨W.heap.size, 0, none⟩ = some (.int .i64 x.s) ∧ w'.cell? ⟨W.heap.size, 1, none⟩ = some (.int .i64 x.w)) = K
  intro hne
  have kb : ∀ y : Wd K, Below W.heap.size W y.w := by subst hK; exact fun y => y.h.1
  have k0 : ∀ y : Wd K, y.w.cell? ⟨W.heap.size, 0, none⟩ = some (.int .i64 x.s) := by subst hK; exact fun y => y.h.2.1
  have k1 : ∀ y : Wd K, y.w.cell? ⟨W.heap.size, 1, none⟩ = some (.int .i64 x.w) := by subst hK; exact fun y => y.h.2.2
  have k2 : ∀ y : Wd K, y.w.cell? ⟨g, 0, none⟩ = some (.slice Al nl cl) := fun y => ((kb y).cell (p := ⟨g, 0, none⟩) hgW).trans hv
  have k3 : ∀ y : Wd K, y.w.cell? ⟨g2, 2, none⟩ = some (.slice (some ⟨b, o, none⟩) wn wc) := fun y => ((kb y).cell (p := ⟨g2, 2, none⟩) hgW2).trans hv2
  have k4 : ∀ z : Wd K, z.w.cell? ⟨b, o + j * 2, none⟩ = some (.int .i64 y.s) := fun z => ((kb z).cell (p := ⟨b, o + j * 2, none⟩) hbW).trans c0
  clear hK hv hv2 c0
  have h1c : x.s < 0 ∨ ¬ x.s < 0 := by omega
  rcases h1c with h1 | h1
  all_goals
    repeat (go_big_quiet_step ((first | (go_at_call 94; exact cls_same (when_any _ _ _)) | (go_at_call 97; exact cls_same (outside_any _ _ _ _)))))
    refine wpQuiet_nil ?_
    intro z
    have hb := kb z
    clear k0 k1 k2 k3 k4 kb
  · go_wp2_with (go_at_call 93; refine (first3 _ _ (whenE true 10) (whenE (decide (x.s ≤ y.s)) 11) (outE x.w 1 10000) (by simp) (by simp) (by simp) (by simp)).mono ?_; rintro e w' ⟨rfl, rfl⟩)
    go_ret
    exact ⟨ret_i64 (by rw [wishE, HP.out]; simp [h1]), hb.alloc hb.size _⟩
  · go_wp2_with (go_at_call 93; refine (first3 _ _ (whenE (decide ((nl : Int) ≤ x.s)) 10) (whenE (decide (x.s ≤ y.s)) 11) (outE x.w 1 10000) (by simp) (by simp) (by simp) (by simp)).mono ?_; rintro e w' ⟨rfl, rfl⟩)
    go_ret
    exact ⟨ret_i64 (by have h1' : decide (x.s < 0) = false := by simp; omega
                       rw [wishE, HP.out, h1']; simp), hb.alloc hb.size _⟩
theorem checkRequests12_any (W : World) (nl k g g2 wn wc cl : Nat) (Al wa : Option Addr) (ws : List Wish) (x : Wish) (hx : ws[k]? = some x)
    (hv : W.cell? ⟨g, 0, none⟩ = some (.slice Al nl cl)) (hv2 : W.cell? ⟨g2, 2, none⟩ = some (.slice wa wn wc)) (h : Rd W (fun _ => True) 2 (.slice wa wn wc) wn (ws.flatMap Wish.cells)) :
    Calls Tryz.prog 150 #[.int .i64 k, x.val, .pointer (some ⟨g, 0, none⟩), .pointer (some ⟨g2, 0, none⟩)] W fun e w' => e = .returned (.int .i64 (wishE nl ws k x)) ∧ Below W.heap.size W w' := by
  have hl := h.count (f := Wish.cells) (size := 2) (fun _ => rfl) (by decide)
  have hkn : k < wn := by rw [hl]; exact (List.getElem?_eq_some_iff.1 hx).1
  cases k with
  | zero => exact checkRequests12_0 W nl g g2 cl Al ws x hv
  | succ j =>
    obtain ⟨b, o, y, rfl, hy, c0, _⟩ := h.elem2 (k := j) (fun s : Wish => .int .i64 s.s) (fun s : Wish => .int .i64 s.w) (fun _ => rfl) (by omega)
    exact checkRequests12_s W nl j g g2 wn wc cl b o Al ws x y (by rw [prevWish, Nat.add_sub_cancel, hy]; simp) hkn h.le hv hv2 c0
end Go.Proofs.YtjfhncnpmelopaaGreatDoor
/- Walks: CheckRequests, continued. -/
namespace Go.Proofs.YtjfhncnpmelopaaGreatDoor
open Go.RowKit Go.Mem Go.Sheet
set_option maxRecDepth 100000 in
set_option maxHeartbeats 400000 in
theorem checkRequests11_any (W : World) (y : Req) (g : Nat) (s : ByteArray) (hv : W.cell? ⟨g, 0, none⟩ = some (.string s)) :
    Calls Tryz.prog 147 #[y.val, .pointer (some ⟨g, 0, none⟩)] W fun e w' => e = .returned (.bool (y.name.data.toList == s.data.toList)) ∧ Below W.heap.size W w' := by
  have hgW : g < W.heap.size := World.block_lt_of_cell? W _ hv
  have hb := (Below.refl W.heap.size W).alloc (Nat.le_refl _) (.cells #[.string y.name, .bool y.g, .slice y.wa y.wn y.wc] 49)
  go_enter Tryz.func147, Tryz.ntmps147
  go_wp2
  go_ret
  exact ⟨ret_bool (by rw [ByteArray.toList_eq, ByteArray.toList_eq]), hb⟩
theorem contains_Req (W : World) (v : Value) (n : Nat) (l : List Req) (g : Nat) (eg : Enters Tryz.prog g) (cap : Array Value) (p : Req → Bool) (h : Rd W (· < W.heap.size) 3 v n (l.flatMap Req.cells))
    (hC : ∀ (k : Nat) x w, l[k]? = some x → Below W.heap.size W w → Calls Tryz.prog g (#[x.val] ++ cap) w fun e w' => e = .returned (.bool (p x)) ∧ Below w.heap.size w w') :
    Calls Tryz.prog 146 #[v, .func (.func g) #[] cap] W fun e w' => e = .returned (.bool (l.any p)) ∧ Below W.heap.size W w' := by
  have HC := Lib.hid (idx_Req_pure W v n l g eg cap p h hC)
  obtain ⟨A, c, rfl, _, _, _⟩ := h.open_
  clear hC
  go_enter Tryz.func146, Tryz.ntmps146
  go_wp2_with (go_at_call 183; refine HC.out.mono ?_; rintro e w' ⟨rfl, hb⟩)
  go_ret
  exact ⟨ret_bool (idxF_any p l 0), hb⟩
theorem reqs_take {W : World} {S : Nat → Prop} {A : Option Addr} {n c i : Nat} {rs : List Req} (h : Rd W S 3 (.slice A n c) n (rs.flatMap Req.cells)) (hi : i ≤ n) : Rd W S 3 (.slice A i c) i ((rs.take i).flatMap Req.cells) := by
  have hl := h.count (f := Req.cells) (size := 3) (fun _ => rfl) (by decide)
  obtain ⟨A', c', hv, h1, h2, h3, h4, h5⟩ := h
  injection hv with e1 e2 e3
  subst e1 e3
  refine ⟨A, c, rfl, by omega, h2, by rw [flatMap_len (f := Req.cells) (size := 3) (fun _ => rfl), List.length_take]; omega, h4, fun hi0 => ?_⟩
  obtain ⟨b, o, hA, hS, hb, hc⟩ := h5 (by omega)
  refine ⟨b, o, hA, hS, hb, fun j u hu => hc j u ?_⟩
  have e : rs.flatMap Req.cells = (rs.take i).flatMap Req.cells ++ (rs.drop i).flatMap Req.cells := by rw [← List.flatMap_append, List.take_append_drop]
  rw [e, List.getElem?_append_left (List.getElem?_eq_some_iff.1 hu).1]
  exact hu
theorem reqs_later {W w : World} {v : Value} {n : Nat} {rs : List Req} (h : RdReqs W (· < W.heap.size) v n rs) (hb : Below W.heap.size W w) : RdReqs w (· < w.heap.size) v n rs :=
  ⟨h.1.later hb, fun r hr => ⟨(h.2 r hr).1.later hb, (h.2 r hr).2⟩⟩
set_option maxRecDepth 100000 in
set_option maxHeartbeats 1000000 in
theorem checkRequests1_any (W : World) (nl i gr gl n c cl : Nat) (A Al : Option Addr) (rs : List Req) (x : Req) (hx : rs[i]? = some x)
    (hv : W.cell? ⟨gr, 0, none⟩ = some (.slice A n c)) (hv2 : W.cell? ⟨gl, 0, none⟩ = some (.slice Al nl cl)) (h : RdReqs W (· < W.heap.size) (.slice A n c) n rs) :
    Calls Tryz.prog 145 #[.int .i64 i, x.val, .pointer (some ⟨gr, 0, none⟩), .pointer (some ⟨gl, 0, none⟩)] W fun e w' => e = .returned (.int .i64 (reqE nl (rs.map Req.rq) i x.rq)) ∧ Below W.heap.size W w' := by
  have hl := h.1.count (f := Req.cells) (size := 3) (fun _ => rfl) (by decide)
  have hin : i < n := by rw [hl]; exact (List.getElem?_eq_some_iff.1 hx).1
  have hxm : x ∈ rs := List.mem_of_getElem? hx
  have hn := h.1.le
  obtain ⟨hnc, hcm⟩ := h.1.caps
  have hws := (h.2 x hxm).1
  have hname := (h.2 x hxm).2
  have htake := reqs_take h.1 (Nat.le_of_lt hin)
  have HR : Hid (reqE nl (rs.map Req.rq) i x.rq = if fst [whenE (!nameB x.name) 8, whenE ((rs.take i).any fun y => y.name.data.toList == x.name.data.toList) 9] ≠ 0 then fst [whenE (!nameB x.name) 8, whenE ((rs.take i).any fun y => y.name.data.toList == x.name.data.toList) 9] else eachF (wishE nl x.ws) 0 x.ws) := by
    show _ = _
    rw [reqE, nameB_eq, ← List.map_take, List.any_map]; rfl
  have hgr : gr < W.heap.size := World.block_lt_of_cell? W _ hv
  have hgl : gl < W.heap.size := World.block_lt_of_cell? W _ hv2
  have hb1 := (Below.refl W.heap.size W).alloc (Nat.le_refl _) (.cells #[.string x.name, .bool x.g, .slice x.wa x.wn x.wc] 49)
  have d0 : (W.alloc (.cells #[.string x.name, .bool x.g, .slice x.wa x.wn x.wc] 49)).cell? ⟨W.heap.size, 0, none⟩ = some (.string x.name) := by simp
  have d2 : (W.alloc (.cells #[.string x.name, .bool x.g, .slice x.wa x.wn x.wc] 49)).cell? ⟨W.heap.size, 2, none⟩ = some (.slice x.wa x.wn x.wc) := by simp
  have hv1 := (hb1.cell (p := ⟨gr, 0, none⟩) hgr).trans hv
  have hv21 := (hb1.cell (p := ⟨gl, 0, none⟩) hgl).trans hv2
  have htake1 := htake.later hb1
  have hws1 := hws.later hb1
  clear hl hx hxm h htake hws hv hv2
  go_enter Tryz.func145, Tryz.ntmps145
  go_wp2_with fail
  generalize W.alloc (.cells #[.string x.name, .bool x.g, .slice x.wa x.wn x.wc] 49) = W1 at *
  have hg1 : W.heap.size < W1.heap.size := World.block_lt_of_cell? W1 ⟨W.heap.size, 0, none⟩ d0
  have hC : ∀ (k : Nat) (y : Req) (w : World), (rs.take i)[k]? = some y → Below W1.heap.size W1 w → Calls Tryz.prog 147 (#[y.val] ++ #[.pointer (some ⟨W.heap.size, 0, none⟩)]) w fun e w' => e = .returned (.bool (y.name.data.toList == x.name.data.toList)) ∧ Below w.heap.size w w' := by
    intro k y w _ hbw
    exact checkRequests11_any w y W.heap.size x.name ((hbw.cell (p := ⟨W.heap.size, 0, none⟩) hg1).trans d0)
  have hE := enters Tryz.func147 (by kernel_rfl) rfl
  refine (contains_Req W1 (.slice A i c) i (rs.take i) 147 hE #[.pointer (some ⟨W.heap.size, 0, none⟩)] (fun y => y.name.data.toList == x.name.data.toList) htake1 hC).mono ?_
  clear hC hE
  rintro e w2 ⟨rfl, hb2⟩
  generalize ((rs.take i).any fun y => y.name.data.toList == x.name.data.toList) = tw at *
  have e0 := (hb2.cell (p := ⟨W.heap.size, 0, none⟩) hg1).trans d0
  have e2 := (hb2.cell (p := ⟨W.heap.size, 2, none⟩) hg1).trans d2
  have hv22 := (hb2.cell (p := ⟨gl, 0, none⟩) (Nat.lt_trans hgl hg1)).trans hv21
  have hws2 := hws1.later hb2
  have hbW2 := hb1.trans (hb2.mono hb1.size)
  have hg2 : W.heap.size < w2.heap.size := Nat.lt_of_lt_of_le hg1 hb2.size
  clear d0 d2 hv1 hv21 htake1 hws1 hb2 hb1 hg1
  go_wp2_with fail
  refine (cardIsName_any x.name w2 hname).mono ?_
  rintro e w3 ⟨rfl, hb3⟩
  have f2 := (hb3.cell (p := ⟨W.heap.size, 2, none⟩) hg2).trans e2
  have hv23 := (hb3.cell (p := ⟨gl, 0, none⟩) (Nat.lt_trans hgl hg2)).trans hv22
  have hws3 := hws2.later hb3
  have hbW3 := hbW2.trans (hb3.mono hbW2.size)
  have hg3 : W.heap.size < w3.heap.size := Nat.lt_of_lt_of_le hg2 hb3.size
  clear e0 e2 hv22 hws2 hb3 hbW2 hg2
  generalize nameB x.name = nb at *
  go_wp2_with (first | (go_at_call 94; refine (when_any _ _ _).mono ?_; rintro e w' ⟨rfl, rfl⟩) | (go_at_call 93; refine (first2 _ _ (whenE (!nb) 8) (whenE tw 9) (by simp) (by simp) (by simp)).mono ?_; rintro e w' ⟨rfl, rfl⟩))
  · go_ret
    exact ⟨ret_i64 (by rw [HR.out, if_pos (by simpa using ‹(fst [whenE (!nb) 8, whenE tw 9] != 0) = true›)]), hbW3.alloc hbW3.size _⟩
  · have h0 : ¬ fst [whenE (!nb) 8, whenE tw 9] ≠ 0 := by simpa using ‹(fst [whenE (!nb) 8, whenE tw 9] != 0) = false›
    have hb4 := (Below.refl w3.heap.size w3).alloc (Nat.le_refl _) (.cells #[.int .i64 (whenE (!nb) 8), .int .i64 (whenE tw 9)] 30)
    have g2 := (hb4.cell (p := ⟨W.heap.size, 2, none⟩) hg3).trans f2
    have hv24 := (hb4.cell (p := ⟨gl, 0, none⟩) (Nat.lt_trans hgl hg3)).trans hv23
    have hws4 := hws3.later hb4
    have hbW4 := hbW3.trans (hb4.mono hbW3.size)
    clear f2 hv23 hws3 hb4 hbW3
    generalize w3.alloc (.cells #[.int .i64 (whenE (!nb) 8), .int .i64 (whenE tw 9)] 30) = w4 at *
    have hg4 : W.heap.size < w4.heap.size := World.block_lt_of_cell? w4 ⟨W.heap.size, 2, none⟩ g2
    have hC : ∀ (k : Nat) (y : Wish) (w : World), x.ws[k]? = some y → Below w4.heap.size w4 w → Calls Tryz.prog 150 (#[.int .i64 k, y.val] ++ #[.pointer (some ⟨gl, 0, none⟩), .pointer (some ⟨W.heap.size, 0, none⟩)]) w fun e w' => e = .returned (.int .i64 (wishE nl x.ws k y)) ∧ Below w.heap.size w w' := by
      intro k y w hy hbw
      exact checkRequests12_any w nl k gl W.heap.size x.wn x.wc cl Al x.wa x.ws y hy ((hbw.cell (p := ⟨gl, 0, none⟩) (Nat.lt_trans hgl hg4)).trans hv24) ((hbw.cell (p := ⟨W.heap.size, 2, none⟩) hg4).trans g2) ((hws4.below hbw).mono fun _ _ _ => trivial)
    have hE := enters Tryz.func150 (by kernel_rfl) rfl
    refine (each_Wish_pure w4 (.slice x.wa x.wn x.wc) x.wn x.ws 150 hE #[.pointer (some ⟨gl, 0, none⟩), .pointer (some ⟨W.heap.size, 0, none⟩)] (wishE nl x.ws) hws4 hC).mono ?_
    clear hC hE
    rintro e w5 ⟨rfl, hb5⟩
    go_wp2
    go_ret
    exact ⟨ret_i64 (by rw [HR.out, if_neg h0]), hbW4.trans (hb5.mono hbW4.size)⟩
theorem checkRequests_each (W : World) (nl n c cl gr gl : Nat) (A Al : Option Addr) (rs : List Req) (h : RdReqs W (· < W.heap.size) (.slice A n c) n rs)
    (hv : W.cell? ⟨gr, 0, none⟩ = some (.slice A n c)) (hv2 : W.cell? ⟨gl, 0, none⟩ = some (.slice Al nl cl)) :
    Calls Tryz.prog 144 #[.slice A n c, .func (.func 145) #[] #[.pointer (some ⟨gr, 0, none⟩), .pointer (some ⟨gl, 0, none⟩)]] W
      fun e w' => e = .returned (.int .i64 (eachF (reqE nl (rs.map Req.rq)) 0 (rs.map Req.rq))) ∧ Below W.heap.size W w' := by
  have hgr : gr < W.heap.size := World.block_lt_of_cell? W _ hv
  have hgl : gl < W.heap.size := World.block_lt_of_cell? W _ hv2
  have hC : ∀ k x w, rs[k]? = some x → Below W.heap.size W w → Calls Tryz.prog 145 (#[.int .i64 k, x.val] ++ #[.pointer (some ⟨gr, 0, none⟩), .pointer (some ⟨gl, 0, none⟩)]) w fun e w' => e = .returned (.int .i64 (reqE nl (rs.map Req.rq) k x.rq)) ∧ Below w.heap.size w w' := by
    intro k x w hx hbw
    exact checkRequests1_any w nl k gr gl n c cl A Al rs x hx ((hbw.cell (p := ⟨gr, 0, none⟩) hgr).trans hv) ((hbw.cell (p := ⟨gl, 0, none⟩) hgl).trans hv2) (reqs_later h hbw)
  have hE := enters Tryz.func145 (by kernel_rfl) rfl
  rw [eachF_map]
  exact each_Req_pure W (.slice A n c) n rs 145 hE #[.pointer (some ⟨gr, 0, none⟩), .pointer (some ⟨gl, 0, none⟩)] (fun i x => reqE nl (rs.map Req.rq) i x.rq) h.1 hC
set_option maxRecDepth 100000 in
set_option maxHeartbeats 1000000 in
theorem checkRequests_any (W : World) (vl vr : Value) (nl n : Nat) (l : List Slot) (rs : List Req) (hl : Rd W (· < W.heap.size) 3 vl nl (l.flatMap Slot.cells)) (h : RdReqs W (· < W.heap.size) vr n rs) :
    Calls Tryz.prog 81 #[vl, vr] W fun e w' => e = .returned (.int .i64 (checkRequests l (rs.map Req.rq))) ∧ Below W.heap.size W w' := by
  have HL := Lib.hid (hl.count (f := Slot.cells) (size := 3) (fun _ => rfl) (by decide))
  have HN := Lib.hid (h.1.count (f := Req.cells) (size := 3) (fun _ => rfl) (by decide))
  have HC : Hid (checkRequests l (rs.map Req.rq) = if fst [checkSlots l, whenE (decide (24 < (n : Int))) 5] ≠ 0 then fst [checkSlots l, whenE (decide (24 < (n : Int))) 5] else eachF (reqE nl (rs.map Req.rq)) 0 (rs.map Req.rq)) := by
    show _ = _
    have e : decide (24 < (n : Int)) = decide (24 < n) := by simp; omega
    rw [checkRequests, List.length_map, ← HL.out, ← HN.out, e]
  obtain ⟨A, c, rfl, _, _, _⟩ := h.1.open_
  obtain ⟨Al, cl, rfl, _, _, _⟩ := hl.open_
  have hn := h.1.le
  have hnl := hl.le
  have hb1 := ((Below.refl W.heap.size W).alloc (Nat.le_refl _) (.cells #[.slice Al nl cl] 22)).alloc (by simp) (.cells #[.slice A n c] 23)
  have d0 : ((W.alloc (.cells #[.slice Al nl cl] 22)).alloc (.cells #[.slice A n c] 23)).cell? ⟨W.heap.size, 0, none⟩ = some (.slice Al nl cl) := by simp
  have d1 : ((W.alloc (.cells #[.slice Al nl cl] 22)).alloc (.cells #[.slice A n c] 23)).cell? ⟨W.heap.size + 1, 0, none⟩ = some (.slice A n c) := by simp
  have hl1 := hl.later hb1
  have h1 := reqs_later h hb1
  clear hl h
  go_enter Tryz.func81, Tryz.ntmps81
  go_wp2_with fail
  generalize (W.alloc (.cells #[.slice Al nl cl] 22)).alloc (.cells #[.slice A n c] 23) = W1 at *
  have hg0 : W.heap.size < W1.heap.size := World.block_lt_of_cell? W1 ⟨W.heap.size, 0, none⟩ d0
  have hg1 : W.heap.size + 1 < W1.heap.size := World.block_lt_of_cell? W1 ⟨W.heap.size + 1, 0, none⟩ d1
  refine wp_cls 6 (fun w' => Below W1.heap.size W1 w') (by kernel_rfl) (by kernel_rfl) (Below.refl _ _).drew ?_
  simp only [List.take_succ_cons, List.take_zero, List.drop_succ_cons, List.drop_zero]
  have hK2 : ∀ w w' : World, Below W1.heap.size W1 w → Below w.heap.size w w' → Below W1.heap.size W1 w' := fun w w' h h' => h.trans (h'.mono h.size)
  have hkk : ∀ w', Below W1.heap.size W1 w' → Below W1.heap.size W1 w' := fun _ h => h
  generalize hK : (fun w' => Below W1.heap.size W1 w') = K
  intro hne
  have kb : ∀ y : Wd K, Below W1.heap.size W1 y.w := by subst hK; exact fun y => y.h
  have hK3 : ∀ w w' : World, K w → Below w.heap.size w w' → K w' := by subst hK; exact hK2
  have k0 : ∀ y : Wd K, y.w.cell? ⟨W.heap.size, 0, none⟩ = some (.slice Al nl cl) := fun y => ((kb y).cell (p := ⟨W.heap.size, 0, none⟩) hg0).trans d0
  have k1 : ∀ y : Wd K, y.w.cell? ⟨W.heap.size + 1, 0, none⟩ = some (.slice A n c) := fun y => ((kb y).cell (p := ⟨W.heap.size + 1, 0, none⟩) hg1).trans d1
  clear hK hkk hK2
  repeat (go_big_quiet_step ((first | (go_at_call 94; exact cls_same (when_any _ _ _)) | (go_at_call 139; exact cls_below hK3 (checkSlots_any _ l nl _ (hl1.later (kb _)))))))
  refine wpQuiet_nil ?_
  intro y
  have hb := kb y
  have f0 := k0 y
  have f1 := k1 y
  clear k0 k1 kb hK3 hne
  generalize y.w = w2 at *
  have hg2 : W.heap.size + 1 < w2.heap.size := World.block_lt_of_cell? w2 ⟨W.heap.size + 1, 0, none⟩ f1
  have hg3 : W.heap.size < w2.heap.size := by omega
  generalize hE : fst [checkSlots l, whenE (decide (24 < (n : Int))) 5] = E at *
  have HE := Lib.hid hE
  clear hE
  go_wp2_with (go_at_call 93; refine (first2 _ _ (checkSlots l) (whenE (decide (24 < (n : Int))) 5) (by simp) (by simp) (by simp)).mono ?_; rw [HE.out]; rintro e w' ⟨rfl, rfl⟩)
  · go_ret
    exact ⟨ret_i64 (by rw [HC.out, if_pos (by simpa using ‹(E != 0) = true›)]), hb1.trans ((hb.alloc hb.size _).mono hb1.size)⟩
  · have h0 : ¬ E ≠ 0 := by simpa using ‹(E != 0) = false›
    have hb3 := (Below.refl w2.heap.size w2).alloc (Nat.le_refl _) (.cells #[.int .i64 (checkSlots l), .int .i64 (whenE (decide (24 < (n : Int))) 5)] 30)
    have hb13 := hb.trans (hb3.mono hb.size)
    generalize w2.alloc (.cells #[.int .i64 (checkSlots l), .int .i64 (whenE (decide (24 < (n : Int))) 5)] 30) = w3 at *
    refine (checkRequests_each w3 nl n c cl (W.heap.size + 1) W.heap.size A Al rs (reqs_later h1 hb13) ((hb13.cell (p := ⟨W.heap.size + 1, 0, none⟩) hg1).trans d1) ((hb13.cell (p := ⟨W.heap.size, 0, none⟩) hg0).trans d0)).mono ?_
    rintro e w4 ⟨rfl, hb4⟩
    go_wp2
    go_ret
    exact ⟨ret_i64 (by rw [HC.out, if_neg h0]), hb1.trans ((hb13.trans (hb4.mono hb13.size)).mono hb1.size)⟩
end Go.Proofs.YtjfhncnpmelopaaGreatDoor
