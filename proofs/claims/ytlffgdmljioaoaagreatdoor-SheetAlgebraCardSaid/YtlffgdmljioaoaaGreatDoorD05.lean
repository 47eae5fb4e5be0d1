/- Part 5 of the walks of the golf union's program: WEach. -/
import Derived.Test.YtlffgdmljioaoaaGreatDoorD04
set_option linter.unusedVariables false
set_option linter.unusedSimpArgs false
set_option linter.unusedSectionVars false
set_option linter.constructorNameAsVariable false
/- Walks of sheet.each and slices.IndexFunc at each element type. Printed by gen_each.py. -/
namespace Go.Proofs.YtlffgdmljioaoaaGreatDoor
open Go.RowKit Go.Mem Go.Sheet
set_option maxRecDepth 100000 in
set_option maxHeartbeats 400000 in
theorem each_Int (W : World) (v : Value) (n : Nat) (l : List Int) (g : Nat) (eg : Enters Tryz.prog g) (cap : Array Value) (I : Nat → World → Prop) (J : World → Prop) (f : Nat → Int → Int)
    (hrd : ∀ k w, I k w → Rd w (fun _ => True) 1 v n (l.map (Value.int .i64))) (hI : I 0 W)
    (hC : ∀ k x w, l[k]? = some x → I k w → Calls Tryz.prog g (#[.int .i64 k, .int .i64 x] ++ cap) w fun e w' => e = .returned (.int .i64 (f k x)) ∧ (f k x = 0 → I (k + 1) w') ∧ (f k x ≠ 0 → J w')) :
    Calls Tryz.prog 54 #[v, .func (.func g) #[] cap] W fun e w' => e = .returned (.int .i64 (eachF f 0 l)) ∧ (eachF f 0 l = 0 → I n w') ∧ (eachF f 0 l ≠ 0 → J w') := by
  unfold Enters at eg
  have h0 := hrd 0 W hI
  have hn := h0.le
  have HL := Lib.hid (h0.count1)
  obtain ⟨A, c, rfl, _, _, _⟩ := h0.open_
  clear h0
  go_enter Tryz.func54, Tryz.ntmps54
  go_wp2
  go_loopw [10] (fun i w => ∃ k : Nat, k ≤ n ∧ i = .int .i64 k ∧ I k w ∧ Hid (eachF f k (l.drop k) = eachF f 0 l)) (fun i _ => n - (intOf i).toNat)
  case atStart => exact ⟨0, Nat.zero_le _, rfl, hI, rfl⟩
  case round =>
    obtain ⟨k, hk, rfl, hI', he⟩ := hrel
    by_cases hlt : k < n
    · obtain ⟨b, o, x, rfl, hx, c0⟩ := (hrd k wr hI').int hlt
      have HX := Lib.hid hx
      have HI := Lib.hid hI'
      clear hx hI'
      go_wp2_with fail
      refine (hC k x _ HX.out HI.out).mono ?_
      rintro e w' ⟨rfl, h1, h2⟩
      go_wp2
      · go_ret
        have hx : f k x ≠ 0 := by simpa using ‹(f k x != 0) = true›
        have e0 := eachF_stop HX.out hx he.out
        exact ⟨by rw [← e0]; rfl, fun h => absurd (e0.trans h) hx, fun _ => h2 hx⟩
      · go_roundw
        have hx : ¬ f k x ≠ 0 := by simpa using ‹(f k x != 0) = false›
        case rel => exact ⟨k + 1, by omega, by go_num, h1 (by simpa using hx), eachF_go HX.out hx he.out⟩
        case measure => simp [intOf]; omega
    · go_wp2
      go_ret
      obtain rfl : k = n := by omega
      have e0 := eachF_end (Nat.le_of_eq HL.out.symm) he.out
      exact ⟨by rw [e0]; rfl, fun _ => hI', fun h => absurd e0 h⟩
set_option maxRecDepth 100000 in
set_option maxHeartbeats 400000 in
theorem idx_Int (W : World) (v : Value) (n : Nat) (l : List Int) (g : Nat) (eg : Enters Tryz.prog g) (cap : Array Value) (I : World → Prop) (p : Int → Bool)
    (hrd : ∀ w, I w → Rd w (fun _ => True) 1 v n (l.map (Value.int .i64))) (hI : I W)
    (hC : ∀ (k : Nat) x w, l[k]? = some x → I w → Calls Tryz.prog g (#[.int .i64 x] ++ cap) w fun e w' => e = .returned (.bool (p x)) ∧ I w') :
    Calls Tryz.prog 137 #[v, .func (.func g) #[] cap] W fun e w' => e = .returned (.int .i64 (idxF p 0 l)) ∧ I w' := by
  unfold Enters at eg
  have h0 := hrd W hI
  have hn := h0.le
  have HL := Lib.hid (h0.count1)
  obtain ⟨A, c, rfl, _, _, _⟩ := h0.open_
  clear h0
  go_enter Tryz.func137, Tryz.ntmps137
  go_wp2
  go_loopw [8] (fun i w => ∃ k : Nat, k ≤ n ∧ i = .int .i64 k ∧ I w ∧ Hid (idxF p k (l.drop k) = idxF p 0 l)) (fun i _ => n - (intOf i).toNat)
  case atStart => exact ⟨0, Nat.zero_le _, rfl, hI, rfl⟩
  case round =>
    obtain ⟨k, hk, rfl, hI', he⟩ := hrel
    by_cases hlt : k < n
    · obtain ⟨b, o, x, rfl, hx, c0⟩ := (hrd wr hI').int hlt
      have HX := Lib.hid hx
      have HI := Lib.hid hI'
      clear hx hI'
      go_wp2_with fail
      refine (hC k x _ HX.out HI.out).mono ?_
      rintro e w' ⟨rfl, h1⟩
      go_wp2
      · go_ret
        exact ⟨by rw [← idxF_stop HX.out ‹p x = true› he.out]; rfl, h1⟩
      · go_roundw
        case rel => exact ⟨k + 1, by omega, by go_num, h1, idxF_go HX.out ‹p x = false› he.out⟩
        case measure => simp [intOf]; omega
    · go_wp2
      go_ret
      obtain rfl : k = n := by omega
      exact ⟨by rw [← idxF_end (Nat.le_of_eq HL.out.symm) he.out]; rfl, hI'⟩
set_option maxRecDepth 100000 in
set_option maxHeartbeats 400000 in
theorem each_Row (W : World) (v : Value) (n : Nat) (l : List Value) (g : Nat) (eg : Enters Tryz.prog g) (cap : Array Value) (I : Nat → World → Prop) (J : World → Prop) (f : Nat → Value → Int)
    (hrd : ∀ k w, I k w → Rd w (fun _ => True) 1 v n (l.map id)) (hI : I 0 W)
    (hC : ∀ k x w, l[k]? = some x → I k w → Calls Tryz.prog g (#[.int .i64 k, x] ++ cap) w fun e w' => e = .returned (.int .i64 (f k x)) ∧ (f k x = 0 → I (k + 1) w') ∧ (f k x ≠ 0 → J w')) :
    Calls Tryz.prog 95 #[v, .func (.func g) #[] cap] W fun e w' => e = .returned (.int .i64 (eachF f 0 l)) ∧ (eachF f 0 l = 0 → I n w') ∧ (eachF f 0 l ≠ 0 → J w') := by
  unfold Enters at eg
  have h0 := hrd 0 W hI
  have hn := h0.le
  have HL := Lib.hid (h0.count1)
  obtain ⟨A, c, rfl, _, _, _⟩ := h0.open_
  clear h0
  go_enter Tryz.func95, Tryz.ntmps95
  go_wp2
  go_loopw [10] (fun i w => ∃ k : Nat, k ≤ n ∧ i = .int .i64 k ∧ I k w ∧ Hid (eachF f k (l.drop k) = eachF f 0 l)) (fun i _ => n - (intOf i).toNat)
  case atStart => exact ⟨0, Nat.zero_le _, rfl, hI, rfl⟩
  case round =>
    obtain ⟨k, hk, rfl, hI', he⟩ := hrel
    by_cases hlt : k < n
    · obtain ⟨b, o, x, rfl, hx, c0⟩ := (hrd k wr hI').val hlt
      have HX := Lib.hid hx
      have HI := Lib.hid hI'
      clear hx hI'
      go_wp2_with fail
      refine (hC k x _ HX.out HI.out).mono ?_
      rintro e w' ⟨rfl, h1, h2⟩
      go_wp2
      · go_ret
        have hx : f k x ≠ 0 := by simpa using ‹(f k x != 0) = true›
        have e0 := eachF_stop HX.out hx he.out
        exact ⟨by rw [← e0]; rfl, fun h => absurd (e0.trans h) hx, fun _ => h2 hx⟩
      · go_roundw
        have hx : ¬ f k x ≠ 0 := by simpa using ‹(f k x != 0) = false›
        case rel => exact ⟨k + 1, by omega, by go_num, h1 (by simpa using hx), eachF_go HX.out hx he.out⟩
        case measure => simp [intOf]; omega
    · go_wp2
      go_ret
      obtain rfl : k = n := by omega
      have e0 := eachF_end (Nat.le_of_eq HL.out.symm) he.out
      exact ⟨by rw [e0]; rfl, fun _ => hI', fun h => absurd e0 h⟩
set_option maxRecDepth 100000 in
set_option maxHeartbeats 400000 in
theorem each_Slot (W : World) (v : Value) (n : Nat) (l : List Slot) (g : Nat) (eg : Enters Tryz.prog g) (cap : Array Value) (I : Nat → World → Prop) (J : World → Prop) (f : Nat → Slot → Int)
    (hrd : ∀ k w, I k w → Rd w (fun _ => True) 3 v n (l.flatMap Slot.cells)) (hI : I 0 W) (hal : ∀ k w o, I k w → I k (w.alloc o))
    (hC : ∀ k x w, l[k]? = some x → I k w → Calls Tryz.prog g (#[.int .i64 k, x.val] ++ cap) w fun e w' => e = .returned (.int .i64 (f k x)) ∧ (f k x = 0 → I (k + 1) w') ∧ (f k x ≠ 0 → J w')) :
    Calls Tryz.prog 120 #[v, .func (.func g) #[] cap] W fun e w' => e = .returned (.int .i64 (eachF f 0 l)) ∧ (eachF f 0 l = 0 → I n w') ∧ (eachF f 0 l ≠ 0 → J w') := by
  unfold Enters at eg
  have h0 := hrd 0 W hI
  have hn := h0.le
  have HL := Lib.hid (h0.count (f := Slot.cells) (size := 3) (fun _ => rfl) (by decide))
  obtain ⟨A, c, rfl, _, _, _⟩ := h0.open_
  clear h0
  go_enter Tryz.func120, Tryz.ntmps120
  go_wp2
  go_loopw [10] (fun i w => ∃ k : Nat, k ≤ n ∧ i = .int .i64 k ∧ I k w ∧ Hid (eachF f k (l.drop k) = eachF f 0 l)) (fun i _ => n - (intOf i).toNat)
  case atStart => exact ⟨0, Nat.zero_le _, rfl, hI, rfl⟩
  case round =>
    obtain ⟨k, hk, rfl, hI', he⟩ := hrel
    by_cases hlt : k < n
    · obtain ⟨b, o, x, rfl, hx, c0, c1, c2⟩ := (hrd k wr hI').elem3 (fun s : Slot => .int .i64 s.m) (fun s : Slot => .int .i64 s.h) (fun s : Slot => .int .i64 s.p) (fun _ => rfl) hlt
      have HX := Lib.hid hx
      have HI := Lib.hid hI'
      clear hx hI'
      go_wp2_with fail
      refine (hC k x _ HX.out (hal _ _ _ HI.out)).mono ?_
      rintro e w' ⟨rfl, h1, h2⟩
      go_wp2
      · go_ret
        have hx : f k x ≠ 0 := by simpa using ‹(f k x != 0) = true›
        have e0 := eachF_stop HX.out hx he.out
        exact ⟨by rw [← e0]; rfl, fun h => absurd (e0.trans h) hx, fun _ => h2 hx⟩
      · go_roundw
        have hx : ¬ f k x ≠ 0 := by simpa using ‹(f k x != 0) = false›
        case rel => exact ⟨k + 1, by omega, by go_num, h1 (by simpa using hx), eachF_go HX.out hx he.out⟩
        case measure => simp [intOf]; omega
    · go_wp2
      go_ret
      obtain rfl : k = n := by omega
      have e0 := eachF_end (Nat.le_of_eq HL.out.symm) he.out
      exact ⟨by rw [e0]; rfl, fun _ => hI', fun h => absurd e0 h⟩
set_option maxRecDepth 100000 in
set_option maxHeartbeats 400000 in
theorem each_Wish (W : World) (v : Value) (n : Nat) (l : List Wish) (g : Nat) (eg : Enters Tryz.prog g) (cap : Array Value) (I : Nat → World → Prop) (J : World → Prop) (f : Nat → Wish → Int)
    (hrd : ∀ k w, I k w → Rd w (fun _ => True) 2 v n (l.flatMap Wish.cells)) (hI : I 0 W) (hal : ∀ k w o, I k w → I k (w.alloc o))
    (hC : ∀ k x w, l[k]? = some x → I k w → Calls Tryz.prog g (#[.int .i64 k, x.val] ++ cap) w fun e w' => e = .returned (.int .i64 (f k x)) ∧ (f k x = 0 → I (k + 1) w') ∧ (f k x ≠ 0 → J w')) :
    Calls Tryz.prog 128 #[v, .func (.func g) #[] cap] W fun e w' => e = .returned (.int .i64 (eachF f 0 l)) ∧ (eachF f 0 l = 0 → I n w') ∧ (eachF f 0 l ≠ 0 → J w') := by
  unfold Enters at eg
  have h0 := hrd 0 W hI
  have hn := h0.le
  have HL := Lib.hid (h0.count (f := Wish.cells) (size := 2) (fun _ => rfl) (by decide))
  obtain ⟨A, c, rfl, _, _, _⟩ := h0.open_
  clear h0
  go_enter Tryz.func128, Tryz.ntmps128
  go_wp2
  go_loopw [10] (fun i w => ∃ k : Nat, k ≤ n ∧ i = .int .i64 k ∧ I k w ∧ Hid (eachF f k (l.drop k) = eachF f 0 l)) (fun i _ => n - (intOf i).toNat)
  case atStart => exact ⟨0, Nat.zero_le _, rfl, hI, rfl⟩
  case round =>
    obtain ⟨k, hk, rfl, hI', he⟩ := hrel
    by_cases hlt : k < n
    · obtain ⟨b, o, x, rfl, hx, c0, c1⟩ := (hrd k wr hI').elem2 (fun s : Wish => .int .i64 s.s) (fun s : Wish => .int .i64 s.w) (fun _ => rfl) hlt
      have HX := Lib.hid hx
      have HI := Lib.hid hI'
      clear hx hI'
      go_wp2_with fail
      refine (hC k x _ HX.out (hal _ _ _ HI.out)).mono ?_
      rintro e w' ⟨rfl, h1, h2⟩
      go_wp2
      · go_ret
        have hx : f k x ≠ 0 := by simpa using ‹(f k x != 0) = true›
        have e0 := eachF_stop HX.out hx he.out
        exact ⟨by rw [← e0]; rfl, fun h => absurd (e0.trans h) hx, fun _ => h2 hx⟩
      · go_roundw
        have hx : ¬ f k x ≠ 0 := by simpa using ‹(f k x != 0) = false›
        case rel => exact ⟨k + 1, by omega, by go_num, h1 (by simpa using hx), eachF_go HX.out hx he.out⟩
        case measure => simp [intOf]; omega
    · go_wp2
      go_ret
      obtain rfl : k = n := by omega
      have e0 := eachF_end (Nat.le_of_eq HL.out.symm) he.out
      exact ⟨by rw [e0]; rfl, fun _ => hI', fun h => absurd e0 h⟩
set_option maxRecDepth 100000 in
set_option maxHeartbeats 400000 in
theorem idx_Wish (W : World) (v : Value) (n : Nat) (l : List Wish) (g : Nat) (eg : Enters Tryz.prog g) (cap : Array Value) (I : World → Prop) (p : Wish → Bool)
    (hrd : ∀ w, I w → Rd w (fun _ => True) 2 v n (l.flatMap Wish.cells)) (hI : I W)
    (hC : ∀ (k : Nat) x w, l[k]? = some x → I w → Calls Tryz.prog g (#[x.val] ++ cap) w fun e w' => e = .returned (.bool (p x)) ∧ I w') :
    Calls Tryz.prog 132 #[v, .func (.func g) #[] cap] W fun e w' => e = .returned (.int .i64 (idxF p 0 l)) ∧ I w' := by
  unfold Enters at eg
  have h0 := hrd W hI
  have hn := h0.le
  have HL := Lib.hid (h0.count (f := Wish.cells) (size := 2) (fun _ => rfl) (by decide))
  obtain ⟨A, c, rfl, _, _, _⟩ := h0.open_
  clear h0
  go_enter Tryz.func132, Tryz.ntmps132
  go_wp2
  go_loopw [8] (fun i w => ∃ k : Nat, k ≤ n ∧ i = .int .i64 k ∧ I w ∧ Hid (idxF p k (l.drop k) = idxF p 0 l)) (fun i _ => n - (intOf i).toNat)
  case atStart => exact ⟨0, Nat.zero_le _, rfl, hI, rfl⟩
  case round =>
    obtain ⟨k, hk, rfl, hI', he⟩ := hrel
    by_cases hlt : k < n
    · obtain ⟨b, o, x, rfl, hx, c0, c1⟩ := (hrd wr hI').elem2 (fun s : Wish => .int .i64 s.s) (fun s : Wish => .int .i64 s.w) (fun _ => rfl) hlt
      have HX := Lib.hid hx
      have HI := Lib.hid hI'
      clear hx hI'
      go_wp2_with fail
      refine (hC k x _ HX.out HI.out).mono ?_
      rintro e w' ⟨rfl, h1⟩
      go_wp2
      · go_ret
        exact ⟨by rw [← idxF_stop HX.out ‹p x = true› he.out]; rfl, h1⟩
      · go_roundw
        case rel => exact ⟨k + 1, by omega, by go_num, h1, idxF_go HX.out ‹p x = false› he.out⟩
        case measure => simp [intOf]; omega
    · go_wp2
      go_ret
      obtain rfl : k = n := by omega
      exact ⟨by rw [← idxF_end (Nat.le_of_eq HL.out.symm) he.out]; rfl, hI'⟩
set_option maxRecDepth 100000 in
set_option maxHeartbeats 400000 in
theorem each_Req (W : World) (v : Value) (n : Nat) (l : List Req) (g : Nat) (eg : Enters Tryz.prog g) (cap : Array Value) (I : Nat → World → Prop) (J : World → Prop) (f : Nat → Req → Int)
    (hrd : ∀ k w, I k w → Rd w (fun _ => True) 3 v n (l.flatMap Req.cells)) (hI : I 0 W) (hal : ∀ k w o, I k w → I k (w.alloc o))
    (hC : ∀ k x w, l[k]? = some x → I k w → Calls Tryz.prog g (#[.int .i64 k, x.val] ++ cap) w fun e w' => e = .returned (.int .i64 (f k x)) ∧ (f k x = 0 → I (k + 1) w') ∧ (f k x ≠ 0 → J w')) :
    Calls Tryz.prog 123 #[v, .func (.func g) #[] cap] W fun e w' => e = .returned (.int .i64 (eachF f 0 l)) ∧ (eachF f 0 l = 0 → I n w') ∧ (eachF f 0 l ≠ 0 → J w') := by
  unfold Enters at eg
  have h0 := hrd 0 W hI
  have hn := h0.le
  have HL := Lib.hid (h0.count (f := Req.cells) (size := 3) (fun _ => rfl) (by decide))
  obtain ⟨A, c, rfl, _, _, _⟩ := h0.open_
  clear h0
  go_enter Tryz.func123, Tryz.ntmps123
  go_wp2
  go_loopw [10] (fun i w => ∃ k : Nat, k ≤ n ∧ i = .int .i64 k ∧ I k w ∧ Hid (eachF f k (l.drop k) = eachF f 0 l)) (fun i _ => n - (intOf i).toNat)
  case atStart => exact ⟨0, Nat.zero_le _, rfl, hI, rfl⟩
  case round =>
    obtain ⟨k, hk, rfl, hI', he⟩ := hrel
    by_cases hlt : k < n
    · obtain ⟨b, o, x, rfl, hx, c0, c1, c2⟩ := (hrd k wr hI').elem3 (fun s : Req => .string s.name) (fun s : Req => .bool s.g) (fun s : Req => .slice s.wa s.wn s.wc) (fun _ => rfl) hlt
      have HX := Lib.hid hx
      have HI := Lib.hid hI'
      clear hx hI'
      go_wp2_with fail
      refine (hC k x _ HX.out (hal _ _ _ HI.out)).mono ?_
      rintro e w' ⟨rfl, h1, h2⟩
      go_wp2
      · go_ret
        have hx : f k x ≠ 0 := by simpa using ‹(f k x != 0) = true›
        have e0 := eachF_stop HX.out hx he.out
        exact ⟨by rw [← e0]; rfl, fun h => absurd (e0.trans h) hx, fun _ => h2 hx⟩
      · go_roundw
        have hx : ¬ f k x ≠ 0 := by simpa using ‹(f k x != 0) = false›
        case rel => exact ⟨k + 1, by omega, by go_num, h1 (by simpa using hx), eachF_go HX.out hx he.out⟩
        case measure => simp [intOf]; omega
    · go_wp2
      go_ret
      obtain rfl : k = n := by omega
      have e0 := eachF_end (Nat.le_of_eq HL.out.symm) he.out
      exact ⟨by rw [e0]; rfl, fun _ => hI', fun h => absurd e0 h⟩
set_option maxRecDepth 100000 in
set_option maxHeartbeats 400000 in
theorem idx_Req (W : World) (v : Value) (n : Nat) (l : List Req) (g : Nat) (eg : Enters Tryz.prog g) (cap : Array Value) (I : World → Prop) (p : Req → Bool)
    (hrd : ∀ w, I w → Rd w (fun _ => True) 3 v n (l.flatMap Req.cells)) (hI : I W)
    (hC : ∀ (k : Nat) x w, l[k]? = some x → I w → Calls Tryz.prog g (#[x.val] ++ cap) w fun e w' => e = .returned (.bool (p x)) ∧ I w') :
    Calls Tryz.prog 151 #[v, .func (.func g) #[] cap] W fun e w' => e = .returned (.int .i64 (idxF p 0 l)) ∧ I w' := by
  unfold Enters at eg
  have h0 := hrd W hI
  have hn := h0.le
  have HL := Lib.hid (h0.count (f := Req.cells) (size := 3) (fun _ => rfl) (by decide))
  obtain ⟨A, c, rfl, _, _, _⟩ := h0.open_
  clear h0
  go_enter Tryz.func151, Tryz.ntmps151
  go_wp2
  go_loopw [8] (fun i w => ∃ k : Nat, k ≤ n ∧ i = .int .i64 k ∧ I w ∧ Hid (idxF p k (l.drop k) = idxF p 0 l)) (fun i _ => n - (intOf i).toNat)
  case atStart => exact ⟨0, Nat.zero_le _, rfl, hI, rfl⟩
  case round =>
    obtain ⟨k, hk, rfl, hI', he⟩ := hrel
    by_cases hlt : k < n
    · obtain ⟨b, o, x, rfl, hx, c0, c1, c2⟩ := (hrd wr hI').elem3 (fun s : Req => .string s.name) (fun s : Req => .bool s.g) (fun s : Req => .slice s.wa s.wn s.wc) (fun _ => rfl) hlt
      have HX := Lib.hid hx
      have HI := Lib.hid hI'
      clear hx hI'
      go_wp2_with fail
      refine (hC k x _ HX.out HI.out).mono ?_
      rintro e w' ⟨rfl, h1⟩
      go_wp2
      · go_ret
        exact ⟨by rw [← idxF_stop HX.out ‹p x = true› he.out]; rfl, h1⟩
      · go_roundw
        case rel => exact ⟨k + 1, by omega, by go_num, h1, idxF_go HX.out ‹p x = false› he.out⟩
        case measure => simp [intOf]; omega
    · go_wp2
      go_ret
      obtain rfl : k = n := by omega
      exact ⟨by rw [← idxF_end (Nat.le_of_eq HL.out.symm) he.out]; rfl, hI'⟩
theorem each_Int_pure (W : World) (v : Value) (n : Nat) (l : List Int) (g : Nat) (eg : Enters Tryz.prog g) (cap : Array Value) (f : Nat → Int → Int) (h : Rd W (· < W.heap.size) 1 v n (l.map (Value.int .i64)))
    (hC : ∀ k x w, l[k]? = some x → Below W.heap.size W w → Calls Tryz.prog g (#[.int .i64 k, .int .i64 x] ++ cap) w fun e w' => e = .returned (.int .i64 (f k x)) ∧ Below w.heap.size w w') :
    Calls Tryz.prog 54 #[v, .func (.func g) #[] cap] W fun e w' => e = .returned (.int .i64 (eachF f 0 l)) ∧ Below W.heap.size W w' :=
  (each_Int W v n l g eg cap (fun _ w => Below W.heap.size W w) (fun w => Below W.heap.size W w) f (fun _ _ hb => (h.below hb).mono fun _ _ _ => trivial) (Below.refl _ _)
    (fun k x w hx hb => (hC k x w hx hb).mono fun _ _ ⟨he, hb'⟩ => ⟨he, fun _ => hb.trans (hb'.mono hb.size), fun _ => hb.trans (hb'.mono hb.size)⟩)).mono
    fun _ _ ⟨he, h1, h2⟩ => ⟨he, if h0 : eachF f 0 l = 0 then h1 h0 else h2 h0⟩
theorem each_Row_pure (W : World) (v : Value) (n : Nat) (l : List Value) (g : Nat) (eg : Enters Tryz.prog g) (cap : Array Value) (f : Nat → Value → Int) (h : Rd W (· < W.heap.size) 1 v n (l.map id))
    (hC : ∀ k x w, l[k]? = some x → Below W.heap.size W w → Calls Tryz.prog g (#[.int .i64 k, x] ++ cap) w fun e w' => e = .returned (.int .i64 (f k x)) ∧ Below w.heap.size w w') :
    Calls Tryz.prog 95 #[v, .func (.func g) #[] cap] W fun e w' => e = .returned (.int .i64 (eachF f 0 l)) ∧ Below W.heap.size W w' :=
  (each_Row W v n l g eg cap (fun _ w => Below W.heap.size W w) (fun w => Below W.heap.size W w) f (fun _ _ hb => (h.below hb).mono fun _ _ _ => trivial) (Below.refl _ _)
    (fun k x w hx hb => (hC k x w hx hb).mono fun _ _ ⟨he, hb'⟩ => ⟨he, fun _ => hb.trans (hb'.mono hb.size), fun _ => hb.trans (hb'.mono hb.size)⟩)).mono
    fun _ _ ⟨he, h1, h2⟩ => ⟨he, if h0 : eachF f 0 l = 0 then h1 h0 else h2 h0⟩
theorem each_Slot_pure (W : World) (v : Value) (n : Nat) (l : List Slot) (g : Nat) (eg : Enters Tryz.prog g) (cap : Array Value) (f : Nat → Slot → Int) (h : Rd W (· < W.heap.size) 3 v n (l.flatMap Slot.cells))
    (hC : ∀ k x w, l[k]? = some x → Below W.heap.size W w → Calls Tryz.prog g (#[.int .i64 k, x.val] ++ cap) w fun e w' => e = .returned (.int .i64 (f k x)) ∧ Below w.heap.size w w') :
    Calls Tryz.prog 120 #[v, .func (.func g) #[] cap] W fun e w' => e = .returned (.int .i64 (eachF f 0 l)) ∧ Below W.heap.size W w' :=
  (each_Slot W v n l g eg cap (fun _ w => Below W.heap.size W w) (fun w => Below W.heap.size W w) f (fun _ _ hb => (h.below hb).mono fun _ _ _ => trivial) (Below.refl _ _) (fun _ _ o h => h.alloc h.size o)
    (fun k x w hx hb => (hC k x w hx hb).mono fun _ _ ⟨he, hb'⟩ => ⟨he, fun _ => hb.trans (hb'.mono hb.size), fun _ => hb.trans (hb'.mono hb.size)⟩)).mono
    fun _ _ ⟨he, h1, h2⟩ => ⟨he, if h0 : eachF f 0 l = 0 then h1 h0 else h2 h0⟩
theorem each_Wish_pure (W : World) (v : Value) (n : Nat) (l : List Wish) (g : Nat) (eg : Enters Tryz.prog g) (cap : Array Value) (f : Nat → Wish → Int) (h : Rd W (· < W.heap.size) 2 v n (l.flatMap Wish.cells))
    (hC : ∀ k x w, l[k]? = some x → Below W.heap.size W w → Calls Tryz.prog g (#[.int .i64 k, x.val] ++ cap) w fun e w' => e = .returned (.int .i64 (f k x)) ∧ Below w.heap.size w w') :
    Calls Tryz.prog 128 #[v, .func (.func g) #[] cap] W fun e w' => e = .returned (.int .i64 (eachF f 0 l)) ∧ Below W.heap.size W w' :=
  (each_Wish W v n l g eg cap (fun _ w => Below W.heap.size W w) (fun w => Below W.heap.size W w) f (fun _ _ hb => (h.below hb).mono fun _ _ _ => trivial) (Below.refl _ _) (fun _ _ o h => h.alloc h.size o)
    (fun k x w hx hb => (hC k x w hx hb).mono fun _ _ ⟨he, hb'⟩ => ⟨he, fun _ => hb.trans (hb'.mono hb.size), fun _ => hb.trans (hb'.mono hb.size)⟩)).mono
    fun _ _ ⟨he, h1, h2⟩ => ⟨he, if h0 : eachF f 0 l = 0 then h1 h0 else h2 h0⟩
theorem idx_Wish_pure (W : World) (v : Value) (n : Nat) (l : List Wish) (g : Nat) (eg : Enters Tryz.prog g) (cap : Array Value) (p : Wish → Bool) (h : Rd W (· < W.heap.size) 2 v n (l.flatMap Wish.cells))
    (hC : ∀ (k : Nat) x w, l[k]? = some x → Below W.heap.size W w → Calls Tryz.prog g (#[x.val] ++ cap) w fun e w' => e = .returned (.bool (p x)) ∧ Below w.heap.size w w') :
    Calls Tryz.prog 132 #[v, .func (.func g) #[] cap] W fun e w' => e = .returned (.int .i64 (idxF p 0 l)) ∧ Below W.heap.size W w' :=
  idx_Wish W v n l g eg cap (fun w => Below W.heap.size W w) p (fun _ hb => (h.below hb).mono fun _ _ _ => trivial) (Below.refl _ _)
    (fun k x w hx hb => (hC k x w hx hb).mono fun _ _ ⟨he, hb'⟩ => ⟨he, hb.trans (hb'.mono hb.size)⟩)
theorem each_Req_pure (W : World) (v : Value) (n : Nat) (l : List Req) (g : Nat) (eg : Enters Tryz.prog g) (cap : Array Value) (f : Nat → Req → Int) (h : Rd W (· < W.heap.size) 3 v n (l.flatMap Req.cells))
    (hC : ∀ k x w, l[k]? = some x → Below W.heap.size W w → Calls Tryz.prog g (#[.int .i64 k, x.val] ++ cap) w fun e w' => e = .returned (.int .i64 (f k x)) ∧ Below w.heap.size w w') :
    Calls Tryz.prog 123 #[v, .func (.func g) #[] cap] W fun e w' => e = .returned (.int .i64 (eachF f 0 l)) ∧ Below W.heap.size W w' :=
  (each_Req W v n l g eg cap (fun _ w => Below W.heap.size W w) (fun w => Below W.heap.size W w) f (fun _ _ hb => (h.below hb).mono fun _ _ _ => trivial) (Below.refl _ _) (fun _ _ o h => h.alloc h.size o)
    (fun k x w hx hb => (hC k x w hx hb).mono fun _ _ ⟨he, hb'⟩ => ⟨he, fun _ => hb.trans (hb'.mono hb.size), fun _ => hb.trans (hb'.mono hb.size)⟩)).mono
    fun _ _ ⟨he, h1, h2⟩ => ⟨he, if h0 : eachF f 0 l = 0 then h1 h0 else h2 h0⟩
theorem idx_Req_pure (W : World) (v : Value) (n : Nat) (l : List Req) (g : Nat) (eg : Enters Tryz.prog g) (cap : Array Value) (p : Req → Bool) (h : Rd W (· < W.heap.size) 3 v n (l.flatMap Req.cells))
    (hC : ∀ (k : Nat) x w, l[k]? = some x → Below W.heap.size W w → Calls Tryz.prog g (#[x.val] ++ cap) w fun e w' => e = .returned (.bool (p x)) ∧ Below w.heap.size w w') :
    Calls Tryz.prog 151 #[v, .func (.func g) #[] cap] W fun e w' => e = .returned (.int .i64 (idxF p 0 l)) ∧ Below W.heap.size W w' :=
  idx_Req W v n l g eg cap (fun w => Below W.heap.size W w) p (fun _ hb => (h.below hb).mono fun _ _ _ => trivial) (Below.refl _ _)
    (fun k x w hx hb => (hC k x w hx hb).mono fun _ _ ⟨he, hb'⟩ => ⟨he, hb.trans (hb'.mono hb.size)⟩)
end Go.Proofs.YtlffgdmljioaoaaGreatDoor
