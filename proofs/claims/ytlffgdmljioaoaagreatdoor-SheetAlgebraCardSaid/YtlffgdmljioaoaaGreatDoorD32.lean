/- Part 32 of the walks of the golf union's program: QT1, QT2, QT3, QT4, QT5, QT6, QT7, QT8, QT9, QU1, QU2. -/
import Derived.Test.YtlffgdmljioaoaaGreatDoorD31
import Derived.Test.YtlffgdmljioaoaaGreatDoorD23
set_option linter.unusedVariables false
set_option linter.unusedSimpArgs false
set_option linter.unusedSectionVars false
set_option linter.constructorNameAsVariable false
/- Big numbers of the reference: digits to the base 10^9; trim. -/
namespace Go.Sheet
def trimL (l : List Int) : List Int := (l.reverse.dropWhile (· == 0)).reverse
theorem trimL_nil : trimL [] = [] := rfl
theorem trimL_zero (l : List Int) : trimL (l ++ [0]) = trimL l := by
  unfold trimL
  rw [List.reverse_append]
  show (List.dropWhile (· == 0) (0 :: l.reverse)).reverse = _
  rw [List.dropWhile_cons_of_pos (by rfl)]
theorem trimL_ne (l : List Int) {d : Int} (h : d ≠ 0) : trimL (l ++ [d]) = l ++ [d] := by
  unfold trimL
  rw [List.reverse_append]
  show (List.dropWhile (· == 0) (d :: l.reverse)).reverse = _
  rw [List.dropWhile_cons_of_neg (by simpa using h)]
  simp
/-- the digits of a number to the base 10^9, the lowest first -/
def digs (n : Nat) : List Int := if h : n = 0 then [] else ((n % 1000000000 : Nat) : Int) :: digs (n / 1000000000)
termination_by n
decreasing_by omega
def valD : List Int → Nat
  | [] => 0
  | d :: l => d.toNat + 1000000000 * valD l
def DigD (l : List Int) : Prop := ∀ d ∈ l, 0 ≤ d ∧ d < 1000000000
theorem valD_app (l : List Int) (d : Int) : valD (l ++ [d]) = valD l + 1000000000 ^ l.length * d.toNat := by
  induction l with
  | nil => simp [valD]
  | cons x l ih =>
    rw [List.cons_append, valD, ih, valD, List.length_cons, Nat.pow_succ]
    rw [Nat.mul_add, ← Nat.mul_assoc, Nat.mul_comm 1000000000 (1000000000 ^ l.length)]
    omega
theorem digs_cons {d : Int} {l : List Int} (hd : 0 ≤ d ∧ d < 1000000000) (hv : valD (d :: l) ≠ 0) : digs (valD (d :: l)) = d :: digs (valD l) := by
  rw [digs, dif_neg hv]
  have e1 : valD (d :: l) % 1000000000 = d.toNat := by rw [valD]; omega
  have e2 : valD (d :: l) / 1000000000 = valD l := by rw [valD]; omega
  rw [e1, e2]
  congr 1
  omega
theorem dropW_nil {p : Int → Bool} : ∀ l : List Int, l.dropWhile p = [] → ∀ x ∈ l, p x = true
  | [], _, x, hx => by cases hx
  | y :: l, h, x, hx => by
    cases hy : p y with
    | false => rw [List.dropWhile_cons_of_neg (by rw [hy]; decide)] at h; cases h
    | true =>
      rw [List.dropWhile_cons_of_pos hy] at h
      rcases List.mem_cons.1 hx with rfl | hx
      · exact hy
      · exact dropW_nil l h x hx
theorem trimL_all0 {l : List Int} (h : trimL l = []) : ∀ x ∈ l, x = 0 := by
  unfold trimL at h
  have h := List.reverse_eq_nil_iff.1 h
  intro x hx
  have := dropW_nil _ h x (List.mem_reverse.2 hx)
  simpa using this
theorem valD_zero {l : List Int} (h : ∀ x ∈ l, x = 0) : valD l = 0 := by
  induction l with
  | nil => rfl
  | cons x l ih => rw [valD, ih (fun y hy => h y (List.mem_cons_of_mem _ hy)), h x (List.mem_cons_self ..)]; rfl
theorem trimL_cons (d : Int) (l : List Int) : trimL (d :: l) = if trimL l = [] then (if d = 0 then [] else [d]) else d :: trimL l := by
  unfold trimL
  rw [List.reverse_cons, List.dropWhile_append]
  by_cases h : (List.dropWhile (· == 0) l.reverse) = []
  · rw [h]
    by_cases hd : d = 0
    · subst hd; rfl
    · have hdb : (d == 0) = false := by simpa using hd
      simp [hd, List.dropWhile, hdb]
  · have h1 : (List.dropWhile (· == 0) l.reverse).isEmpty = false := by
      rw [List.isEmpty_eq_false_iff]; exact h
    have h2 : (List.dropWhile (· == 0) l.reverse).reverse ≠ [] := by rw [Ne, List.reverse_eq_nil_iff]; exact h
    rw [h1, if_neg (by decide), if_neg h2]
    simp
theorem trimL_digs {l : List Int} (hl : DigD l) : trimL l = digs (valD l) := by
  induction l with
  | nil => rw [digs, dif_pos (show valD [] = 0 from rfl)]; rfl
  | cons d l ih =>
    have hd := hl d (List.mem_cons_self ..)
    have ih := ih (fun y hy => hl y (List.mem_cons_of_mem _ hy))
    rw [trimL_cons]
    by_cases h : trimL l = []
    · rw [if_pos h]
      have hz := valD_zero (trimL_all0 h)
      by_cases h0 : d = 0
      · rw [if_pos h0, digs, dif_pos (by rw [valD, hz, h0]; rfl)]
      · rw [if_neg h0, digs_cons hd (by rw [valD]; omega), ← ih, h]
    · rw [if_neg h, digs_cons hd ?_, ih]
      intro hv
      apply h
      rw [ih]
      have : valD l = 0 := by rw [valD] at hv; omega
      rw [this, digs, dif_pos rfl]
theorem digs_dig : ∀ n, DigD (digs n) := by
  intro n
  induction n using Nat.strongRecOn with
  | _ n ih =>
    rw [digs]
    split
    · intro d hd; cases hd
    · intro d hd
      rcases List.mem_cons.1 hd with rfl | hd
      · have := Nat.mod_lt n (show 0 < 1000000000 by omega); omega
      · exact ih (n / 1000000000) (by omega) d hd
theorem digs_val : ∀ n, valD (digs n) = n := by
  intro n
  induction n using Nat.strongRecOn with
  | _ n ih =>
    rw [digs]
    split
    · rename_i h; rw [h]; rfl
    · rw [valD, ih (n / 1000000000) (by omega)]; omega
end Go.Sheet
/- Walks of the reference's big numbers: trim, signed. -/
namespace Go.Sheet
end Go.Sheet
namespace Go.Mem
theorem Rd.cutQ {w : World} {F : Nat → Prop} {A : Option Addr} {n c k : Nat} {xs : List Value} (h : Rd w F 1 (.slice A n c) n xs) (hk : k ≤ n) : Rd w F 1 (.slice A k c) k (xs.take k) := by
  obtain ⟨A', c', hv, h1, h2, h3, h4, h5⟩ := h
  injection hv with e1 e2 e3
  subst e1 e3
  refine ⟨_, _, rfl, by omega, h2, by rw [List.length_take]; omega, h4, fun h0 => ?_⟩
  obtain ⟨b, o, hA, hS, hb, hc⟩ := h5 (by omega)
  refine ⟨b, o, hA, hS, hb, fun j u hu => hc j u ?_⟩
  have hj : j < k := by have := (List.getElem?_eq_some_iff.1 hu).1; rw [List.length_take] at this; omega
  rwa [List.getElem?_take_of_lt hj] at hu
end Go.Mem
namespace Go.Proofs.YtlffgdmljioaoaaGreatDoor
open Go.RowKit Go.Mem Go.Sheet
set_option maxRecDepth 100000 in
set_option maxHeartbeats 1000000 in
theorem rtrim_any (w : World) (F : Nat → Prop) (v : Value) (l : List Int) (hl : l.length ≤ 1000) (h : Rd w F 1 v l.length (l.map (Value.int .i64))) :
    Calls Tryz.prog 148 #[v] w fun e w' => (∃ v', e = .returned v' ∧ Rd w F 1 v' (trimL l).length ((trimL l).map (Value.int .i64))) ∧ w = w' := by
  have HH := Lib.hid h
  obtain ⟨A, c, rfl, hnc, hcm, hAn⟩ := h.open_
  clear h
  have HT0 : Hid (trimL (l.take l.length) = trimL l) := Lib.hid (by rw [List.take_length])
  go_enter Tryz.func148, Tryz.ntmps148
  go_wp2_with fail
  go_loop [0] (fun u => ∃ k : Nat, k ≤ l.length ∧ u = .slice A k c ∧ Hid (trimL (l.take k) = trimL l)) (fun u => match u with | .slice _ k _ => k | _ => 0)
  case atStart => exact ⟨l.length, Nat.le_refl _, rfl, HT0.out⟩
  case round =>
    obtain ⟨k, hk, rfl, HV⟩ := hrel
    by_cases h0 : k = 0
    · subst h0
      have HR : Hid (trimL l = []) := Lib.hid (by rw [← HV.out]; rfl)
      have HC0 := Lib.hid (HH.out.cutQ (k := 0) (Nat.zero_le _))
      go_wp2
      go_ret
      exact ⟨⟨_, rfl, by rw [HR.out]; exact HC0.out⟩, rfl⟩
    · obtain ⟨k, rfl⟩ : ∃ j, k = j + 1 := ⟨k - 1, by omega⟩
      obtain ⟨b, o, x, hA, hx, c0⟩ := HH.out.int (show k < l.length by omega)
      subst hA
      have hw1 : ((k + 1 : Nat) : Int) - 1 = (k : Int) := by omega
      have HX := Lib.hid hx
      clear hx
      by_cases hx0 : x = 0
      · subst hx0
        have HV2 : Hid (trimL (l.take k) = trimL l) := Lib.hid (by rw [← HV.out, take_at HX.out, trimL_zero])
        go_wp2_with fail
        go_round
        case rel => exact ⟨k, by omega, rfl, HV2.out⟩
        case measure => show k < k + 1; omega
      · have hxb : (x == 0) = false := by simpa using hx0
        have HR : Hid (trimL l = l.take (k + 1)) := Lib.hid (by rw [← HV.out, take_at HX.out, trimL_ne _ hx0])
        have HC0 := Lib.hid (HH.out.cutQ (k := k + 1) hk)
        clear hx0
        go_wp2_with fail
        go_ret
        exact ⟨⟨_, rfl, by
          rw [HR.out, List.length_take, Nat.min_eq_left hk, List.map_take]
          exact HC0.out⟩, rfl⟩
end Go.Proofs.YtlffgdmljioaoaaGreatDoor
/- Walks of the reference's big numbers: signed. -/
namespace Go.Proofs.YtlffgdmljioaoaaGreatDoor
open Go.RowKit Go.Mem Go.Sheet
def bigV (b : Bool) (v : Value) : Value := .agg #[.bool b, v]
theorem res_big (f : Func) (k : Nat) (tmps : Array Value) (w : World) (g : Nat) (b : Bool) (v : Value) (hf : f.results = #[.cell k 112]) (hp : tmps.getD k undef = .pointer (some ⟨g, 0, none⟩)) (h0 : w.cell? ⟨g, 0, none⟩ = some (.bool b)) (h1 : w.cell? ⟨g, 1, none⟩ = some v) :
    (results f tmps).run Tryz.prog w = .ok (bigV b v) w := by
  have hp' : tmps[k]?.getD undef = .pointer (some ⟨g, 0, none⟩) := by simpa using hp
  simp [results, hf, hp', h0, h1, go_sem, bigV]
set_option maxRecDepth 100000 in
set_option maxHeartbeats 1000000 in
theorem rsigned_any (W : World) (F : Nat → Prop) (hF : ∀ b, F b → b < W.heap.size) (b : Bool) (v : Value) (l : List Int) (hl : l.length ≤ 1000) (h : Rd W F 1 v l.length (l.map (Value.int .i64))) :
    Calls Tryz.prog 116 #[.bool b, v] W fun e w' => (∃ v', e = .returned (bigV (b && decide (0 < (trimL l).length)) v') ∧ Rd w' F 1 v' (trimL l).length ((trimL l).map (Value.int .i64))) ∧ Below W.heap.size W w' := by
  obtain ⟨A, c, rfl, _, _, _⟩ := h.open_
  have S0 := (St.refl W).blk_new #[.bool false, .slice none 0 0] 112
  simp only [List.nil_append] at S0
  have HS := Lib.hid S0
  have HT := Lib.hid (rtrim_any (W.alloc (.cells #[.bool false, .slice none 0 0] 112)) F _ l hl (h.loc (by simp) (fun k hk => by rw [Below.heap_alloc W _ k (hF k hk)])))
  have d0 := S0.blk_cell (i := 0) rfl 0
  have d1 := S0.blk_cell (i := 0) rfl 1
  have z0 := S0.blk_frozen (i := 0) rfl 0
  have z1 := S0.blk_frozen (i := 0) rfl 1
  clear h S0
  generalize hll : l.length = L at *
  clear hll
  go_enter Tryz.func116, Tryz.ntmps116
  go_wp2_with fail
  refine HT.out.mono ?_
  rintro e w' ⟨⟨v', rfl, hr⟩, rfl⟩
  obtain ⟨A', c', hv', _, _, _⟩ := id hr
  subst hv'
  have S2 := (St.refl W).blk_new #[.bool (b && decide (0 < (trimL l).length)), .slice A' (trimL l).length c'] 112
  simp only [List.nil_append] at S2
  have HR : Hid (Rd (W.alloc (.cells #[.bool (b && decide (0 < (trimL l).length)), .slice A' (trimL l).length c'] 112)) F 1 (.slice A' (trimL l).length c') (trimL l).length ((trimL l).map (Value.int .i64))) := Lib.hid (by
    refine hr.loc (w' := W.alloc (.cells #[.bool (b && decide (0 < (trimL l).length)), .slice A' (trimL l).length c'] 112)) (by simp) (fun k hk => ?_)
    rw [Below.heap_alloc W _ k (hF k hk), Below.heap_alloc W _ k (hF k hk)])
  have HS2 := Lib.hid S2
  clear S2 HS HT hr
  generalize hrr : (trimL l).length = r at *
  have HRL := Lib.hid hrr
  clear hrr
  cases b
  · simp only [Bool.false_and] at *
    go_wp2_with fail
    exact bodyPost_ret (res_big _ 4 _ _ W.heap.size false (.slice A' r c') Tryz.results116 rfl (HS2.out.blk_cell (i := 0) rfl 0) (HS2.out.blk_cell (i := 0) rfl 1)) rfl ⟨⟨_, rfl, by rw [HRL.out]; exact HR.out⟩, HS2.out.bel⟩
  · simp only [Bool.true_and] at *
    go_wp2_with fail
    exact bodyPost_ret (res_big _ 4 _ _ W.heap.size (decide (0 < r)) (.slice A' r c') Tryz.results116 rfl (HS2.out.blk_cell (i := 0) rfl 0) (HS2.out.blk_cell (i := 0) rfl 1)) rfl ⟨⟨.slice A' r c', by rw [HRL.out]; rfl, by rw [HRL.out]; exact HR.out⟩, HS2.out.bel⟩
end Go.Proofs.YtlffgdmljioaoaaGreatDoor
/- Walks of the reference's big numbers: digit. -/
namespace Go.Proofs.YtlffgdmljioaoaaGreatDoor
open Go.RowKit Go.Mem Go.Sheet
set_option maxRecDepth 100000 in
set_option maxHeartbeats 1000000 in
theorem rdigit_any (w : World) (F : Nat → Prop) (v : Value) (l : List Int) (i : Nat) (h : Rd w F 1 v l.length (l.map (Value.int .i64))) :
    Calls Tryz.prog 178 #[v, .int .i64 i] w fun e w' => e = .returned (.int .i64 (l.getD i 0)) ∧ w = w' := by
  have HH := Lib.hid h
  obtain ⟨A, c, rfl, _, _, _⟩ := h.open_
  have hn := h.le
  clear h
  go_enter Tryz.func178, Tryz.ntmps178
  by_cases hi : i < l.length
  · obtain ⟨b, o, x, hA, hx, c0⟩ := HH.out.int hi
    subst hA
    have HR : Hid (l.getD i 0 = x) := Lib.hid (by rw [List.getD_eq_getElem?_getD, hx]; rfl)
    have t : decide ((i : Int) < (l.length : Int)) = true := by simp; omega
    clear hx
    go_wp2
    go_ret
    exact ⟨ret_i64 HR.out.symm, rfl⟩
  · have HR : Hid (l.getD i 0 = 0) := Lib.hid (by rw [List.getD_eq_getElem?_getD, List.getElem?_eq_none (by omega)]; rfl)
    have t : decide ((i : Int) < (l.length : Int)) = false := by simp; omega
    go_wp2
    go_ret
    exact ⟨ret_i64 HR.out.symm, rfl⟩
end Go.Proofs.YtlffgdmljioaoaaGreatDoor
/- Walks of the reference's big numbers: addDigits. -/
namespace Go.Sheet
theorem valD_take {a : List Int} (i : Nat) : valD (a.take (i + 1)) = valD (a.take i) + 1000000000 ^ i * (a.getD i 0).toNat := by
  by_cases h : i < a.length
  · rw [List.take_succ_eq_append_getElem h, valD_app, List.length_take, Nat.min_eq_left (Nat.le_of_lt h), List.getD_eq_getElem?_getD, List.getElem?_eq_getElem h]; rfl
  · rw [List.take_of_length_le (by omega), List.take_of_length_le (by omega), List.getD_eq_getElem?_getD, List.getElem?_eq_none (by omega)]
    simp
theorem DigD.getD {a : List Int} (h : DigD a) (i : Nat) : 0 ≤ a.getD i 0 ∧ a.getD i 0 < 1000000000 := by
  rw [List.getD_eq_getElem?_getD]
  cases hx : a[i]? with
  | none => simp
  | some x => exact h x (List.mem_of_getElem? hx)
structure AddI (a b : List Int) (i : Nat) (c : Int) (l : List Int) : Prop where
  len : l.length = i
  dig : DigD l
  c01 : 0 ≤ c ∧ c ≤ 1
  val : valD l + 1000000000 ^ i * c.toNat = valD (a.take i) + valD (b.take i)
theorem AddI.step {a b : List Int} {i : Nat} {c : Int} {l : List Int} (ha : DigD a) (hb : DigD b) (h : AddI a b i c l) {s d c' : Int} (hs : s = a.getD i 0 + b.getD i 0 + c) (hd : d = s % 1000000000) (hc : c' = s / 1000000000) : AddI a b (i + 1) c' (l ++ [d]) := by
  have h1 := ha.getD i
  have h2 := hb.getD i
  have h3 := h.c01
  refine ⟨by rw [List.length_append, h.len]; rfl, fun x hx => ?_, by omega, ?_⟩
  · rcases List.mem_append.1 hx with hx | hx
    · exact h.dig x hx
    · rw [List.mem_singleton.1 hx]; omega
  · rw [valD_app, h.len, valD_take, valD_take, Nat.pow_succ, Nat.mul_assoc]
    have hv := h.val
    have e : d.toNat + 1000000000 * c'.toNat = (a.getD i 0).toNat + (b.getD i 0).toNat + c.toNat := by omega
    have e2 : 1000000000 ^ i * d.toNat + 1000000000 ^ i * (1000000000 * c'.toNat) = 1000000000 ^ i * (a.getD i 0).toNat + 1000000000 ^ i * (b.getD i 0).toNat + 1000000000 ^ i * c.toNat := by
      rw [← Nat.mul_add, ← Nat.mul_add, ← Nat.mul_add, e]
    omega
theorem AddI.done {a b : List Int} {i : Nat} {l : List Int} (h : AddI a b i 0 l) (ha : a.length ≤ i) (hb : b.length ≤ i) : valD l = valD a + valD b := by
  have := h.val
  rw [List.take_of_length_le ha, List.take_of_length_le hb] at this
  simpa using this
end Go.Sheet
namespace Go.Proofs.YtlffgdmljioaoaaGreatDoor
open Go.RowKit Go.Mem Go.Sheet
set_option maxRecDepth 100000 in
set_option maxHeartbeats 1000000 in
theorem raddD_any (W : World) (va vb : Value) (a b : List Int) (hda : DigD a) (hdb : DigD b) (hla : a.length ≤ 100) (hlb : b.length ≤ 100) (ha : Rd W (· < W.heap.size) 1 va a.length (a.map (Value.int .i64))) (hb : Rd W (· < W.heap.size) 1 vb b.length (b.map (Value.int .i64))) :
    Calls Tryz.prog 165 #[va, vb] W fun e w' => (∃ v' : Value, e = .returned v' ∧ ∃ l : List Int, DigD l ∧ l.length ≤ 101 ∧ valD l = valD a + valD b ∧ Rd w' (fun b => W.heap.size ≤ b ∧ b < w'.heap.size) 1 v' l.length (l.map (Value.int .i64))) ∧ Below W.heap.size W w' := by
  have HA := Lib.hid ha
  have HB := Lib.hid hb
  have HDA := Lib.hid hda
  have HDB := Lib.hid hdb
  obtain ⟨A, c, rfl, _, _, _⟩ := ha.open_
  obtain ⟨A2, c2, rfl, _, _, _⟩ := hb.open_
  have S0 := (St.refl W).row_nil 3 1
  simp only [List.nil_append] at S0
  have HI0 : Hid (AddI a b 0 0 []) := Lib.hid ⟨rfl, (fun d hd => by cases hd), (by omega), (by simp [valD])⟩
  clear ha hb hda hdb
  obtain ⟨M, hM⟩ : ∃ M, M = max a.length b.length := ⟨_, rfl⟩
  have hMa : a.length ≤ M := by omega
  have hMb : b.length ≤ M := by omega
  have hM1 : M ≤ 100 := by omega
  have HMM : Hid (∀ i, a.length ≤ i → b.length ≤ i → M ≤ i) := Lib.hid (fun i h1 h2 => by omega)
  clear hM
  generalize hna : a.length = na at *
  generalize hnb : b.length = nb at *
  have HNA := Lib.hid hna
  have HNB := Lib.hid hnb
  clear hna hnb
  go_enter Tryz.func165, Tryz.ntmps165
  go_wp2_with fail
  go_loopw [5, 6, 7] (fun v cc ix w' => ∃ (i : Nat) (c0 : Int) (l : List Int), i ≤ M + 1 ∧ (i = M + 1 → c0 = 0) ∧ 0 ≤ c0 ∧ c0 ≤ 1 ∧ ix = .int .i64 i ∧ cc = .int .i64 c0 ∧ Hid (AddI a b i c0 l) ∧ St W w' [row 3 1 v i (ints l)]) (fun _ _ ix _ => M + 1 - (intOf ix).toNat)
  case atStart => exact ⟨0, 0, [], by omega, fun _ => rfl, by omega, by omega, rfl, rfl, HI0.out, S0⟩
  case round =>
    obtain ⟨i, c0, l, hi, hic, hc1, hc2, rfl, rfl, HV, S⟩ := hrel
    clear S0
    by_cases hgo : i < na ∨ i < nb ∨ 0 < c0
    · go_upto_region 4 with fail
      go_cut [22] from 9 to 22 (fun d wx => d = .bool true ∧ wx = wr)
      case first =>
        by_cases h1 : i < na
        · have t1 : decide ((i : Int) < (na : Int)) = true := by simp; omega
          go_wp2
          go_meet
          case rel => exact ⟨rfl, rfl⟩
        · have t1 : decide ((i : Int) < (na : Int)) = false := by simp; omega
          by_cases h2 : i < nb
          · have t2 : decide ((i : Int) < (nb : Int)) = true := by simp; omega
            go_wp2
            go_meet
            case rel => exact ⟨rfl, rfl⟩
          · have t2 : decide ((i : Int) < (nb : Int)) = false := by simp; omega
            have t3 : decide (0 < c0) = true := by simp; omega
            go_wp2
            go_meet
            case rel => exact ⟨rfl, rfl⟩
      case rest =>
        obtain ⟨rfl, rfl⟩ := hcut
        have HD1 := Lib.hid (rdigit_any wc _ (.slice A na c) a i (by rw [HNA.out]; exact HA.out.below S.bel))
        have HD2 := Lib.hid (rdigit_any wc _ (.slice A2 nb c2) b i (by rw [HNB.out]; exact HB.out.below S.bel))
        have g1 := HDA.out.getD i
        have g2 := HDB.out.getD i
        obtain ⟨s, hs⟩ : ∃ s, s = a.getD i 0 + b.getD i 0 + c0 := ⟨_, rfl⟩
        have HNX := Lib.hid (HV.out.step HDA.out HDB.out hs rfl rfl)
        have HSB : Hid (i = M → s / 1000000000 = 0) := Lib.hid (fun h => by
          have e1 : a.getD i 0 = 0 := by rw [List.getD_eq_getElem?_getD, List.getElem?_eq_none (by rw [HNA.out]; omega)]; rfl
          have e2 : b.getD i 0 = 0 := by rw [List.getD_eq_getElem?_getD, List.getElem?_eq_none (by rw [HNB.out]; omega)]; rfl
          omega)
        have hiM : i ≤ M := by
          by_cases h : i = M + 1
          · have := hic h; omega
          · omega
        have HSS := Lib.hid S
        clear S hgo
        generalize a.getD i 0 = x1 at *
        generalize b.getD i 0 = x2 at *
        obtain ⟨d, hd⟩ : ∃ d, d = s % 1000000000 := ⟨_, rfl⟩
        obtain ⟨q, hq⟩ : ∃ q, q = s / 1000000000 := ⟨_, rfl⟩
        have hm : Int.tmod (x1 + x2 + c0) 1000000000 = d := by rw [← hs, hd]; exact Int.tmod_eq_emod_of_nonneg (by omega)
        have hq2 : Int.tdiv (x1 + x2 + c0) 1000000000 = q := by rw [← hs, hq]; exact Int.tdiv_eq_ediv_of_nonneg (by omega)
        rw [← hd, ← hq] at HNX
        rw [← hq] at HSB
        have hq3 : 0 ≤ q ∧ q ≤ 1 := by omega
        have hd3 : 0 ≤ d ∧ d < 1000000000 := by omega
        have h0s : ((1000000000 : Int) == 0) = false := rfl
        clear hd hq hs
        go_wp2_with fail
        refine HD1.out.mono ?_
        rintro e w' ⟨rfl, rfl⟩
        go_wp2_with fail
        refine HD2.out.mono ?_
        rintro e w' ⟨rfl, rfl⟩
        go_wp2_with (at_builtin; refine wpList_append_st eltI rfl _ _ rfl rfl (HSS.out.blk_new #[.int .i64 d] 3) (k := 0) rfl rfl (rd_of_blk (HSS.out.blk_new #[.int .i64 d] 3) (i := 1) rfl) (one_int _ _) (by omega) (by omega) ?_; intro v6 w6 U4 _; simp only [List.set_cons_zero, List.cons_append, List.nil_append] at U4)
        have HU : Hid (St W w6 [row 3 1 v6 (i + 1) (ints (l ++ [d]))]) := Lib.hid (by
          have h := U4.sub (L' := [_]) (List.sublist_append_left [_] [_])
          rw [show ints (l ++ [d]) = ints l ++ [.int .i64 d] by simp [ints]]
          exact h)
        clear U4
        go_roundw
        case rel => exact ⟨i + 1, q, l ++ [d], by omega, (fun h => HSB.out (by omega)), hq3.1, hq3.2, by go_num, rfl, HNX.out, HU.out⟩
        case measure => simp [intOf]; omega
    · have ht1 : decide ((i : Int) < (na : Int)) = false := by simp; omega
      have ht2 : decide ((i : Int) < (nb : Int)) = false := by simp; omega
      have hn1 : na ≤ i := by omega
      have hn2 : nb ≤ i := by omega
      obtain rfl : c0 = 0 := by omega
      have ht3 : decide ((0 : Int) < 0) = false := rfl
      have HR := Lib.hid (HV.out.done (by rw [HNA.out]; omega) (by rw [HNB.out]; omega))
      have HRD := Lib.hid (S.row_rd (i := 0) rfl)
      have HBL := Lib.hid S.bel
      clear S hgo
      go_wp2
      go_ret
      exact ⟨⟨_, rfl, l, HV.out.dig, by rw [HV.out.len]; omega, HR.out, by rw [HV.out.len]; exact HRD.out⟩, HBL.out⟩
end Go.Proofs.YtlffgdmljioaoaaGreatDoor
/- The reference's big numbers: subDigits, plain part. -/
namespace Go.Sheet
theorem valD_lt {l : List Int} (h : DigD l) : valD l < 1000000000 ^ l.length := by
  induction l with
  | nil => simp [valD]
  | cons d l ih =>
    have hd := h d (List.mem_cons_self ..)
    have ih := ih (fun y hy => h y (List.mem_cons_of_mem _ hy))
    rw [valD, List.length_cons, Nat.pow_succ]
    omega
structure SubI (a b : List Int) (i : Nat) (c : Int) (l : List Int) : Prop where
  len : l.length = i
  dig : DigD l
  c01 : 0 ≤ c ∧ c ≤ 1
  val : valD l + valD (b.take i) = valD (a.take i) + 1000000000 ^ i * c.toNat
theorem SubI.step {a b : List Int} {i : Nat} {c : Int} {l : List Int} (ha : DigD a) (hb : DigD b) (h : SubI a b i c l) {s d c' : Int} (hs : s = a.getD i 0 - b.getD i 0 - c) (hd : d = if s < 0 then s + 1000000000 else s) (hc : c' = if s < 0 then 1 else 0) : SubI a b (i + 1) c' (l ++ [d]) := by
  have h1 := ha.getD i
  have h2 := hb.getD i
  have h3 := h.c01
  have hd3 : 0 ≤ d ∧ d < 1000000000 := by rw [hd]; split <;> omega
  have hc3 : 0 ≤ c' ∧ c' ≤ 1 := by rw [hc]; split <;> omega
  refine ⟨by rw [List.length_append, h.len]; rfl, fun x hx => ?_, hc3, ?_⟩
  · rcases List.mem_append.1 hx with hx | hx
    · exact h.dig x hx
    · rw [List.mem_singleton.1 hx]; exact hd3
  · rw [valD_app, h.len, valD_take, valD_take, Nat.pow_succ, Nat.mul_assoc]
    have hv := h.val
    have e : d.toNat + (b.getD i 0).toNat + c.toNat = (a.getD i 0).toNat + 1000000000 * c'.toNat := by
      by_cases hn : s < 0
      · rw [if_pos hn] at hd hc; omega
      · rw [if_neg hn] at hd hc; omega
    have e2 : 1000000000 ^ i * d.toNat + 1000000000 ^ i * (b.getD i 0).toNat + 1000000000 ^ i * c.toNat = 1000000000 ^ i * (a.getD i 0).toNat + 1000000000 ^ i * (1000000000 * c'.toNat) := by
      rw [← Nat.mul_add, ← Nat.mul_add, ← Nat.mul_add, e]
    omega
theorem SubI.done {a b : List Int} {c : Int} {l : List Int} (h : SubI a b a.length c l) (hb : b.length ≤ a.length) (hle : valD b ≤ valD a) : valD l = valD a - valD b := by
  have hv := h.val
  rw [List.take_length, List.take_of_length_le hb] at hv
  have hlt := valD_lt h.dig
  rw [h.len] at hlt
  have hc := h.c01
  have hc0 : c.toNat = 0 := by
    refine Classical.byContradiction fun hne => ?_
    have h1 : c.toNat = 1 := by omega
    rw [h1, Nat.mul_one] at hv
    omega
  rw [hc0, Nat.mul_zero] at hv
  omega
end Go.Sheet
/- Walks of the reference's big numbers: subDigits. -/
namespace Go.Proofs.YtlffgdmljioaoaaGreatDoor
open Go.RowKit Go.Mem Go.Sheet
set_option maxRecDepth 100000 in
set_option maxHeartbeats 1000000 in
theorem rsubD_any (W : World) (va vb : Value) (a b : List Int) (hda : DigD a) (hdb : DigD b) (hla : a.length ≤ 100) (hab : b.length ≤ a.length) (hle : valD b ≤ valD a) (ha : Rd W (· < W.heap.size) 1 va a.length (a.map (Value.int .i64))) (hb : Rd W (· < W.heap.size) 1 vb b.length (b.map (Value.int .i64))) :
    Calls Tryz.prog 166 #[va, vb] W fun e w' => (∃ v' : Value, e = .returned v' ∧ Rd w' (fun b => W.heap.size ≤ b ∧ b < w'.heap.size) 1 v' (digs (valD a - valD b)).length ((digs (valD a - valD b)).map (Value.int .i64))) ∧ Below W.heap.size W w' := by
  have HA := Lib.hid ha
  have HB := Lib.hid hb
  have HDA := Lib.hid hda
  have HDB := Lib.hid hdb
  obtain ⟨A, c, rfl, _, _, _⟩ := ha.open_
  obtain ⟨A2, c2, rfl, _, _, _⟩ := hb.open_
  have S0 := (St.refl W).row_nil 3 1
  simp only [List.nil_append] at S0
  have HI0 : Hid (SubI a b 0 0 []) := Lib.hid ⟨rfl, (fun d hd => by cases hd), (by omega), (by simp [valD])⟩
  have HDN := Lib.hid (fun (c : Int) (l : List Int) (h : SubI a b a.length c l) => h.done hab hle)
  clear ha hb hda hdb hle
  generalize hna : a.length = na at *
  generalize hnb : b.length = nb at *
  have HNA := Lib.hid hna
  have HNB := Lib.hid hnb
  clear hna hnb
  go_enter Tryz.func166, Tryz.ntmps166
  go_wp2_with fail
  go_loopw [5, 6, 7] (fun v cc ix w' => ∃ (i : Nat) (c0 : Int) (l : List Int), i ≤ na ∧ 0 ≤ c0 ∧ c0 ≤ 1 ∧ ix = .int .i64 i ∧ cc = .int .i64 c0 ∧ Hid (SubI a b i c0 l) ∧ St W w' [row 3 1 v i (ints l)]) (fun _ _ ix _ => na - (intOf ix).toNat)
  case atStart => exact ⟨0, 0, [], by omega, by omega, by omega, rfl, rfl, HI0.out, S0⟩
  case round =>
    obtain ⟨i, c0, l, hi, hc1, hc2, rfl, rfl, HV, S⟩ := hrel
    clear S0
    by_cases hlt : i < na
    · obtain ⟨b1, o1, x1, hA1, hx1, cx1⟩ := Rd.int (q := .i64) (l := a) (HA.out.below S.bel) hlt
      subst hA1
      have e1 : a.getD i 0 = x1 := by rw [List.getD_eq_getElem?_getD, hx1]; rfl
      have HD2 := Lib.hid (fun k => rdigit_any (wr.drewN k) _ (.slice A2 nb c2) b i (by rw [HNB.out]; exact HB.out.below (bel_drewN S.bel k)))
      have g1 := HDA.out.getD i
      have g2 := HDB.out.getD i
      have HST := Lib.hid (fun d c' hd hc => HV.out.step (s := x1 - b.getD i 0 - c0) (d := d) (c' := c') HDA.out HDB.out (by rw [e1]) hd hc)
      rw [e1] at g1
      have HSS := Lib.hid S
      clear S hx1 e1
      generalize b.getD i 0 = x2 at *
      have hw1 : IntKind.i64.wrap (x1 - x2) = x1 - x2 := IntWalk.i64_in _ (by omega)
      have hw2 : IntKind.i64.wrap (x1 - x2 - c0) = x1 - x2 - c0 := IntWalk.i64_in _ (by omega)
      go_wp2_with fail
      go_quiet ((go_at_call 178; exact (HD2.out _).mono fun e w' h => ⟨h.1, ⟨_, h.2.symm⟩⟩))
      clear hw1 hw2 cx1 HD2
      have HS2 := Lib.hid (HSS.out.drewN nq)
      generalize wr.drewN nq = wy at *
      clear HSS
      obtain ⟨s, hs⟩ : ∃ s, s = x1 - x2 - c0 := ⟨_, rfl⟩
      rw [← hs] at HST ⊢
      have hsb : -1000000000 ≤ s ∧ s ≤ 1000000000 := by omega
      clear hs
      by_cases hn : s < 0
      · have tn : decide (s < 0) = true := decide_eq_true hn
        have HNX := Lib.hid (HST.out (s + 1000000000) 1 (by rw [if_pos hn]) (by rw [if_pos hn]))
        go_wp2_with (at_builtin; refine wpList_append_st eltI rfl _ _ rfl rfl (HS2.out.blk_new #[.int .i64 (s + 1000000000)] 3) (k := 0) rfl rfl (rd_of_blk (HS2.out.blk_new #[.int .i64 (s + 1000000000)] 3) (i := 1) rfl) (one_int _ _) (by omega) (by omega) ?_; intro v6 w6 U4 _; simp only [List.set_cons_zero, List.cons_append, List.nil_append] at U4)
        have HU : Hid (St W w6 [row 3 1 v6 (i + 1) (ints (l ++ [s + 1000000000]))]) := Lib.hid (by
          have h := U4.sub (L' := [_]) (List.sublist_append_left [_] [_])
          rw [show ints (l ++ [s + 1000000000]) = ints l ++ [.int .i64 (s + 1000000000)] by simp [ints]]
          exact h)
        clear U4
        go_roundw
        case rel => exact ⟨i + 1, 1, l ++ [s + 1000000000], by omega, by omega, by omega, by go_num, rfl, HNX.out, HU.out⟩
        case measure => simp [intOf]; omega
      · have tn : decide (s < 0) = false := decide_eq_false hn
        have HNX := Lib.hid (HST.out s 0 (by rw [if_neg hn]) (by rw [if_neg hn]))
        go_wp2_with (at_builtin; refine wpList_append_st eltI rfl _ _ rfl rfl (HS2.out.blk_new #[.int .i64 s] 3) (k := 0) rfl rfl (rd_of_blk (HS2.out.blk_new #[.int .i64 s] 3) (i := 1) rfl) (one_int _ _) (by omega) (by omega) ?_; intro v6 w6 U4 _; simp only [List.set_cons_zero, List.cons_append, List.nil_append] at U4)
        have HU : Hid (St W w6 [row 3 1 v6 (i + 1) (ints (l ++ [s]))]) := Lib.hid (by
          have h := U4.sub (L' := [_]) (List.sublist_append_left [_] [_])
          rw [show ints (l ++ [s]) = ints l ++ [.int .i64 s] by simp [ints]]
          exact h)
        clear U4
        go_roundw
        case rel => exact ⟨i + 1, 0, l ++ [s], by omega, by omega, by omega, by go_num, rfl, HNX.out, HU.out⟩
        case measure => simp [intOf]; omega
    · obtain rfl : i = na := by omega
      have tii : decide ((i : Int) < (i : Int)) = false := by simp
      have HR := Lib.hid (HDN.out _ _ HV.out)
      have HL := Lib.hid HV.out.len
      have HRT := Lib.hid (rtrim_any wr (fun b => W.heap.size ≤ b ∧ b < wr.heap.size) _ l (by rw [HL.out]; omega) (by rw [HL.out]; exact S.row_rd (i := 0) rfl))
      have HTD := Lib.hid (trimL_digs HV.out.dig)
      have HBL := Lib.hid S.bel
      clear S
      go_wp2_with fail
      refine HRT.out.mono ?_
      rintro e w' ⟨⟨v', rfl, hr⟩, rfl⟩
      have HRR := Lib.hid hr
      clear hr
      go_wp2
      go_ret
      exact ⟨⟨_, rfl, by rw [← HR.out, ← HTD.out]; exact HRR.out⟩, HBL.out⟩
end Go.Proofs.YtlffgdmljioaoaaGreatDoor
/- The reference's big numbers: divDigit, plain part. -/
namespace Go.Sheet
/-- the quotient's digits and the rest of a number by one digit, the number's lowest digit first -/
def divL (d : Int) : List Int → List Int × Int
  | [] => ([], 0)
  | x :: l => (((divL d l).2 * 1000000000 + x) / d :: (divL d l).1, ((divL d l).2 * 1000000000 + x) % d)
theorem divL_ok {d : Int} (hd : 1 ≤ d ∧ d < 1000000000) : ∀ l : List Int, DigD l → (divL d l).1.length = l.length ∧ DigD (divL d l).1 ∧ 0 ≤ (divL d l).2 ∧ (divL d l).2 < d ∧ (valD l : Int) = (valD (divL d l).1 : Int) * d + (divL d l).2
  | [], _ => ⟨rfl, (fun x hx => by cases hx), by simp [divL], by simp [divL]; omega, by simp [divL, valD]⟩
  | x :: l, h => by
    have hx := h x (List.mem_cons_self ..)
    obtain ⟨h1, h2, h3, h4, h5⟩ := divL_ok hd l (fun y hy => h y (List.mem_cons_of_mem _ hy))
    have hc0 : 0 ≤ (divL d l).2 * 1000000000 + x := by omega
    have hq0 : 0 ≤ ((divL d l).2 * 1000000000 + x) / d := Int.ediv_nonneg hc0 (by omega)
    have hq1 : ((divL d l).2 * 1000000000 + x) / d < 1000000000 := by
      refine Int.ediv_lt_of_lt_mul (by omega) ?_
      have : (divL d l).2 + 1 ≤ d := by omega
      have h6 : ((divL d l).2 + 1) * 1000000000 ≤ d * 1000000000 := Int.mul_le_mul_of_nonneg_right this (by omega)
      rw [Int.mul_comm 1000000000 d]
      omega
    have hr0 := Int.emod_nonneg ((divL d l).2 * 1000000000 + x) (show d ≠ 0 by omega)
    have hr1 := Int.emod_lt_of_pos ((divL d l).2 * 1000000000 + x) (show 0 < d by omega)
    have hdm := Int.mul_ediv_add_emod ((divL d l).2 * 1000000000 + x) d
    refine ⟨by simp [divL, h1], fun y hy => ?_, hr0, hr1, ?_⟩
    · rcases List.mem_cons.1 hy with rfl | hy
      · exact ⟨hq0, hq1⟩
      · exact h2 y hy
    · show (valD (x :: l) : Int) = (valD (((divL d l).2 * 1000000000 + x) / d :: (divL d l).1) : Int) * d + ((divL d l).2 * 1000000000 + x) % d
      generalize hq : ((divL d l).2 * 1000000000 + x) / d = q at *
      generalize ((divL d l).2 * 1000000000 + x) % d = r at *
      have e1 : (valD (x :: l) : Int) = x + 1000000000 * (valD l : Int) := by rw [valD]; omega
      have e2 : (valD (q :: (divL d l).1) : Int) = q + 1000000000 * (valD (divL d l).1 : Int) := by rw [valD]; omega
      rw [e1, e2, h5, Int.add_mul, Int.mul_assoc]
      rw [Int.mul_comm d q] at hdm
      omega
end Go.Sheet
/- Big numbers of the reference: plain facts for the walks. -/
namespace Go.Sheet
open Go.Proofs.YtlffgdmljioaoaaGreatDoor
theorem digs_zero : digs 0 = [] := by rw [digs, dif_pos rfl]
theorem digs_one {n : Nat} (h : 1 ≤ n ∧ n < 1000000000) : digs n = [(n : Int)] := by
  rw [digs, dif_neg (by omega), show n / 1000000000 = 0 by omega, digs_zero, show n % 1000000000 = n by omega]
theorem digs_len : ∀ (k n : Nat), (digs n).length ≤ k ↔ n < 1000000000 ^ k
  | 0, n => by
    rw [digs]
    split
    · rename_i h; simp [h]
    · rename_i h; simp [h]
  | k + 1, n => by
    rw [digs]
    split
    · rename_i h
      subst h
      have := Nat.pow_pos (n := k + 1) (show 0 < 1000000000 by omega)
      simpa using this
    · rw [List.length_cons, Nat.add_le_add_iff_right, digs_len k, Nat.pow_succ, Nat.div_lt_iff_lt_mul (by omega)]
theorem digs_nil {n : Nat} : (digs n).length = 0 ↔ n = 0 := by
  have := digs_len 0 n
  simp at this
  rw [List.length_eq_zero_iff, this]
theorem valD_split : ∀ (l : List Int) (i : Nat), i ≤ l.length → valD l = valD (l.take i) + 1000000000 ^ i * valD (l.drop i)
  | l, 0, _ => by simp [valD]
  | [], i + 1, h => by simp at h
  | d :: l, i + 1, h => by
    have ih := valD_split l i (by simpa using h)
    rw [List.take_succ_cons, List.drop_succ_cons, valD, valD, ih, Nat.pow_succ, Nat.mul_add]
    have : 1000000000 * (1000000000 ^ i * valD (l.drop i)) = 1000000000 ^ i * 1000000000 * valD (l.drop i) := by ac_rfl
    omega
theorem cmp_lt {a b : List Int} (ha : DigD a) (hb : DigD b) {i : Nat} (hi : i < a.length) (hl : a.length = b.length) (hd : a.drop (i + 1) = b.drop (i + 1)) (h : a.getD i 0 < b.getD i 0) : valD a < valD b := by
  have hib : i < b.length := by omega
  rw [valD_split a i (by omega), valD_split b i (by omega), List.drop_eq_getElem_cons hi, List.drop_eq_getElem_cons hib, hd]
  have e1 : a.getD i 0 = a[i] := by rw [List.getD_eq_getElem?_getD, List.getElem?_eq_getElem hi]; rfl
  have e2 : b.getD i 0 = b[i] := by rw [List.getD_eq_getElem?_getD, List.getElem?_eq_getElem hib]; rfl
  rw [e1, e2] at h
  have h1 := ha _ (List.getElem_mem hi)
  have h2 := hb _ (List.getElem_mem hib)
  have h3 : valD (a.take i) < 1000000000 ^ i := by
    have := valD_lt (l := a.take i) (fun x hx => ha x (List.mem_of_mem_take hx))
    rwa [List.length_take, Nat.min_eq_left (by omega)] at this
  rw [valD, valD]
  generalize valD (b.drop (i + 1)) = V
  generalize a[i] = p at *
  generalize b[i] = q at *
  have h4 : p.toNat + 1000000000 * V + 1 ≤ q.toNat + 1000000000 * V := by omega
  have h5 := Nat.mul_le_mul_left (1000000000 ^ i) h4
  rw [Nat.mul_add _ _ 1, Nat.mul_one] at h5
  omega
/-- -1, 0 or 1 -/
def cmpN (x y : Nat) : Int := if x < y then -1 else if x = y then 0 else 1
theorem cmpN_len {x y : Nat} (h : (digs x).length < (digs y).length) : cmpN x y = -1 := by
  have h1 := digs_len (digs x).length x
  have h2 := digs_len (digs x).length y
  rw [cmpN, if_pos (by omega)]
theorem cmpN_len2 {x y : Nat} (h : (digs y).length < (digs x).length) : cmpN x y = 1 := by
  have h1 := digs_len (digs y).length y
  have h2 := digs_len (digs y).length x
  rw [cmpN, if_neg (by omega), if_neg (by omega)]
theorem cmpN_lt {x y : Nat} {i : Nat} (hi : i < (digs x).length) (hl : (digs x).length = (digs y).length) (hd : (digs x).drop (i + 1) = (digs y).drop (i + 1)) (h : (digs x).getD i 0 < (digs y).getD i 0) : cmpN x y = -1 := by
  have := cmp_lt (digs_dig x) (digs_dig y) hi hl hd h
  rw [digs_val, digs_val] at this
  rw [cmpN, if_pos this]
theorem cmpN_gt {x y : Nat} {i : Nat} (hi : i < (digs x).length) (hl : (digs x).length = (digs y).length) (hd : (digs x).drop (i + 1) = (digs y).drop (i + 1)) (h : (digs y).getD i 0 < (digs x).getD i 0) : cmpN x y = 1 := by
  have := cmp_lt (digs_dig y) (digs_dig x) (hl ▸ hi) hl.symm hd.symm h
  rw [digs_val, digs_val] at this
  rw [cmpN, if_neg (by omega), if_neg (by omega)]
theorem cmpN_eq {x y : Nat} (hd : digs x = digs y) : cmpN x y = 0 := by
  have : x = y := by rw [← digs_val x, hd, digs_val]
  rw [cmpN, if_neg (by omega), if_pos this]
theorem drop_down {a b : List Int} {i : Nat} (hi : i < a.length) (hib : i < b.length) (hd : a.drop (i + 1) = b.drop (i + 1)) (h : a.getD i 0 = b.getD i 0) : a.drop i = b.drop i := by
  rw [List.drop_eq_getElem_cons hi, List.drop_eq_getElem_cons hib, hd]
  rw [List.getD_eq_getElem?_getD, List.getElem?_eq_getElem hi, List.getD_eq_getElem?_getD, List.getElem?_eq_getElem hib] at h
  have h : a[i] = b[i] := h
  rw [h]
theorem divL_digs {d : Int} (hd : 1 ≤ d ∧ d < 1000000000) (x : Nat) : trimL (divL d (digs x)).1 = digs (x / d.toNat) ∧ (divL d (digs x)).2 = ((x % d.toNat : Nat) : Int) := by
  obtain ⟨h1, h2, h3, h4, h5⟩ := divL_ok hd (digs x) (digs_dig x)
  rw [digs_val] at h5
  generalize hq : valD (divL d (digs x)).1 = Q at *
  generalize hr : (divL d (digs x)).2 = R at *
  obtain ⟨D, rfl⟩ : ∃ D : Nat, d = (D : Int) := ⟨d.toNat, by omega⟩
  obtain ⟨R', rfl⟩ : ∃ R' : Nat, R = (R' : Int) := ⟨R.toNat, by omega⟩
  have e : x = R' + D * Q := by
    have : (x : Int) = ((R' + D * Q : Nat) : Int) := by rw [h5, Int.natCast_add, Int.natCast_mul, Int.mul_comm (D : Int)]; omega
    omega
  have eD : (D : Int).toNat = D := by omega
  rw [eD]
  have hRD : R' < D := by omega
  refine ⟨?_, ?_⟩
  · rw [trimL_digs h2, hq, e, Nat.add_mul_div_left _ _ (by omega), Nat.div_eq_of_lt hRD, Nat.zero_add]
  · rw [e, Nat.add_mul_mod_self_left, Nat.mod_eq_of_lt hRD]
/-- the product of the first i digits and one digit, in the making -/
structure MulI (a : List Int) (d : Int) (i : Nat) (m : List Int) (c : Int) : Prop where
  len : m.length = i
  dig : DigD m
  c0 : 0 ≤ c ∧ c < d
  val : (valD m : Int) + 1000000000 ^ i * c = (valD (a.take i) : Int) * d
theorem MulI.zero (a : List Int) {d : Int} (hd : 1 ≤ d) : MulI a d 0 [] 0 := ⟨rfl, (fun x hx => by cases hx), by omega, by simp [valD]⟩
theorem MulI.step {a : List Int} {d : Int} {i : Nat} {m : List Int} {c : Int} (ha : DigD a) (hd : 1 ≤ d ∧ d < 1000000000) (h : MulI a d i m c) {s x c' : Int} (hs : s = c + a.getD i 0 * d) (hx : x = s % 1000000000) (hc : c' = s / 1000000000) : MulI a d (i + 1) (m ++ [x]) c' := by
  have h1 := ha.getD i
  have h2 := h.c0
  have h3 : a.getD i 0 * d ≤ 999999999 * d := Int.mul_le_mul_of_nonneg_right (by omega) (by omega)
  have h4 : 0 ≤ a.getD i 0 * d := Int.mul_nonneg h1.1 (by omega)
  refine ⟨by rw [List.length_append, h.len]; rfl, fun y hy => ?_, by omega, ?_⟩
  · rcases List.mem_append.1 hy with hy | hy
    · exact h.dig y hy
    · rw [List.mem_singleton.1 hy]; omega
  · have hv := h.val
    rw [valD_app, h.len, valD_take]
    have ex : (x.toNat : Int) = x := by omega
    have ea : ((a.getD i 0).toNat : Int) = a.getD i 0 := by omega
    have e1 : ((valD m + 1000000000 ^ i * x.toNat : Nat) : Int) = (valD m : Int) + 1000000000 ^ i * x := by
      rw [Int.natCast_add, Int.natCast_mul, ex, Int.natCast_pow]; rfl
    have e2 : ((valD (a.take i) + 1000000000 ^ i * (a.getD i 0).toNat : Nat) : Int) = (valD (a.take i) : Int) + 1000000000 ^ i * a.getD i 0 := by
      rw [Int.natCast_add, Int.natCast_mul, ea, Int.natCast_pow]; rfl
    rw [e1, e2, Int.pow_succ, Int.add_mul, ← hv]
    have e3 : x + 1000000000 * c' = c + a.getD i 0 * d := by omega
    have e4 : (1000000000 : Int) ^ i * x + 1000000000 ^ i * (1000000000 * c') = 1000000000 ^ i * c + 1000000000 ^ i * (a.getD i 0 * d) := by
      rw [← Int.mul_add, e3, Int.mul_add]
    rw [Int.mul_assoc, Int.mul_assoc]
    omega
theorem MulI.done {a : List Int} {d : Int} {m : List Int} {c : Int} (hd : 1 ≤ d ∧ d < 1000000000) (h : MulI a d a.length m c) : trimL (m ++ [c]) = digs (valD a * d.toNat) := by
  have h2 := h.c0
  rw [trimL_digs (fun y hy => by
    rcases List.mem_append.1 hy with hy | hy
    · exact h.dig y hy
    · rw [List.mem_singleton.1 hy]; omega)]
  congr 1
  have hv := h.val
  rw [List.take_length] at hv
  rw [valD_app, h.len]
  have e1 : ((valD m + 1000000000 ^ a.length * c.toNat : Nat) : Int) = (valD m : Int) + 1000000000 ^ a.length * c := by
    rw [Int.natCast_add, Int.natCast_mul, show (c.toNat : Int) = c by omega, Int.natCast_pow]; rfl
  have e2 : ((valD a * d.toNat : Nat) : Int) = (valD a : Int) * d := by rw [Int.natCast_mul, show (d.toNat : Int) = d by omega]
  omega
theorem decW_01 {n : Nat} (h : 0 < n) : decW 0 n = decW 1 n := by rw [decW_step (by omega), decW_step (k := 1) (by omega)]
theorem decW_pos {k n : Nat} (h : 0 < n) (hk : k ≤ 1) : decW k n = decW 1 n := by
  rcases Nat.lt_or_ge 0 k with h1 | h1
  · rw [show k = 1 by omega]
  · rw [show k = 0 by omega, decW_01 h]
theorem decW_app : ∀ (k hi lo : Nat), 0 < hi → lo < 10 ^ k → decW 1 (hi * 10 ^ k + lo) = decW 1 hi ++ decW k lo
  | 0, hi, lo, _, hl => by
    have : lo = 0 := by simpa using hl
    subst this
    rw [decW_zero]; simp
  | k + 1, hi, lo, hh, hl => by
    have hp : 0 < 10 ^ k := Nat.pow_pos (by omega)
    have hhp : 1 * 10 ^ k ≤ hi * 10 ^ k := Nat.mul_le_mul_right _ hh
    rw [Nat.pow_succ] at hl ⊢
    have e1 : (hi * (10 ^ k * 10) + lo) / 10 = hi * 10 ^ k + lo / 10 := by rw [← Nat.mul_assoc]; omega
    have e2 : (hi * (10 ^ k * 10) + lo) % 10 = lo % 10 := by rw [← Nat.mul_assoc]; omega
    have e3 : 0 < hi * (10 ^ k * 10) + lo := by rw [← Nat.mul_assoc]; omega
    rw [decW_step (k := 1) (by omega), e1, e2, decW_pos (by omega) (by omega), decW_app k hi (lo / 10) hh (by omega), decW_step (k := k + 1) (by omega), Nat.add_sub_cancel, List.append_assoc]
theorem valL_fold (l : List UInt8) : ∀ a : Int, l.foldl (fun a c => 10 * a + (c.toNat : Int) - 48) a = a * 10 ^ l.length + valL l := by
  induction l with
  | nil => intro a; simp [valL]
  | cons c l ih =>
    intro a
    have h2 : valL (c :: l) = l.foldl (fun a c => 10 * a + (c.toNat : Int) - 48) (10 * 0 + (c.toNat : Int) - 48) := rfl
    rw [List.foldl_cons, ih, h2, ih, List.length_cons, Int.pow_succ]
    have e : (10 * a + (c.toNat : Int) - 48) * 10 ^ l.length = a * (10 ^ l.length * 10) + (10 * 0 + (c.toNat : Int) - 48) * 10 ^ l.length := by
      rw [show 10 * a + (c.toNat : Int) - 48 = a * 10 + (10 * 0 + (c.toNat : Int) - 48) by omega, Int.add_mul, Int.mul_assoc, Int.mul_comm 10 (10 ^ l.length)]
    omega
theorem valL_two (l : List UInt8) (l2 : List UInt8) : valL (l ++ l2) = valL l * 10 ^ l2.length + valL l2 := by
  rw [valL, List.foldl_append, ← valL_fold]; rfl
/-- a text of digits, taken apart nine by nine from its end -/
structure ParI (D T : List UInt8) (l : List Int) : Prop where
  digT : DigL T
  dig : DigD l
  val : (valD l : Int) + 1000000000 ^ l.length * valL T = valL D
theorem valL_all {T : List UInt8} (h : DigL T) (h18 : T.length ≤ 18) : 0 ≤ valL T ∧ valL T < 10 ^ T.length := by
  have := valL_bd h T.length (Nat.le_refl _) h18
  rwa [List.take_length] at this
theorem ParI.zero {D : List UInt8} (h : DigL D) : ParI D D [] := ⟨h, (fun d hd => by cases hd), by simp [valD]⟩
theorem valD_snocI (l : List Int) {d : Int} (hd : 0 ≤ d) : (valD (l ++ [d]) : Int) = (valD l : Int) + 1000000000 ^ l.length * d := by
  rw [valD_app, Int.natCast_add, Int.natCast_mul, show (d.toNat : Int) = d by omega, Int.natCast_pow]; rfl
theorem ParI.snoc {D T : List UInt8} {l : List Int} (h : ParI D T l) {T1 T2 : List UInt8} (hT : T = T1 ++ T2) (h9 : T2.length ≤ 9) : DigD (l ++ [valL T2]) ∧ (valD (l ++ [valL T2]) : Int) + 1000000000 ^ l.length * (valL T1 * 10 ^ T2.length) = valL D := by
  have hd2 : DigL T2 := fun c hc => h.digT c (by rw [hT]; exact List.mem_append_right _ hc)
  have hb := valL_all hd2 (by omega)
  have hp : (10 : Int) ^ T2.length ≤ 1000000000 := by
    have h2 : (10 : Nat) ^ T2.length ≤ 10 ^ 9 := Nat.pow_le_pow_right (by omega) h9
    have h3 : ((10 ^ T2.length : Nat) : Int) ≤ ((10 ^ 9 : Nat) : Int) := Int.ofNat_le.2 h2
    rw [Int.natCast_pow] at h3
    exact h3
  refine ⟨fun d hd => ?_, ?_⟩
  · rcases List.mem_append.1 hd with hd | hd
    · exact h.dig d hd
    · rw [List.mem_singleton.1 hd]; omega
  · have hv := h.val
    rw [hT, valL_two, Int.mul_add] at hv
    rw [valD_snocI _ hb.1]
    omega
theorem ParI.step {D T : List UInt8} {l : List Int} (h : ParI D T l) (h9 : 9 < T.length) : ParI D (T.take (T.length - 9)) (l ++ [valL (T.drop (T.length - 9))]) := by
  have hl : (T.drop (T.length - 9)).length = 9 := by rw [List.length_drop]; omega
  obtain ⟨h1, h2⟩ := h.snoc (List.take_append_drop (T.length - 9) T).symm (by omega)
  refine ⟨fun c hc => h.digT c (List.mem_of_mem_take hc), h1, ?_⟩
  rw [hl] at h2
  rw [List.length_append, List.length_singleton, Int.pow_succ, Int.mul_assoc, Int.mul_comm 1000000000]
  exact h2
theorem ParI.done {D T : List UInt8} {l : List Int} (h : ParI D T l) (h9 : T.length ≤ 9) : DigD (l ++ [valL T]) ∧ (valD (l ++ [valL T]) : Int) = valL D := by
  obtain ⟨h1, h2⟩ := h.snoc (T1 := []) (T2 := T) rfl h9
  refine ⟨h1, ?_⟩
  have h3 : valL [] = 0 := rfl
  rw [h3] at h2
  omega
end Go.Sheet
/- Walks of the reference's big numbers: compareDigits. -/
namespace Go.Proofs.YtlffgdmljioaoaaGreatDoor
open Go.RowKit Go.Mem Go.Sheet
/-- a slice that reads the digits of a number -/
def RdD (w : World) (v : Value) (x : Nat) : Prop := Rd w (· < w.heap.size) 1 v (digs x).length ((digs x).map (Value.int .i64))
/-- the same, in a set of blocks -/
def RdF (w : World) (F : Nat → Prop) (v : Value) (x : Nat) : Prop := Rd w F 1 v (digs x).length ((digs x).map (Value.int .i64))
theorem RdF.rdD {w : World} {F : Nat → Prop} {v : Value} {x : Nat} (h : RdF w F v x) : RdD w v x := Rd.mono (S' := (· < w.heap.size)) h fun _ hb _ => hb
theorem rdF_of {w : World} {F : Nat → Prop} {v : Value} {l : List Int} {x : Nat} (e : l = digs x) (h : Rd w F 1 v l.length (l.map (Value.int .i64))) : RdF w F v x := by
  subst e; exact h
theorem RdD.later {w w' : World} {v : Value} {x : Nat} (h : RdD w v x) (hb : Below w.heap.size w w') : RdD w' v x := Rd.later h hb
theorem RdD.drewN {w : World} {v : Value} {x : Nat} (h : RdD w v x) (k : Nat) : RdD (w.drewN k) v x := h.later (bel_drewN (Below.refl _ _) k)
theorem rdD_nil (w : World) : RdD w (.slice none 0 0) 0 := by
  unfold RdD
  rw [digs_zero]
  exact Rd.nil _ _ _
theorem rdD_of {w : World} {v : Value} {l : List Int} {x : Nat} (e : l = digs x) (h : Rd w (· < w.heap.size) 1 v l.length (l.map (Value.int .i64))) : RdD w v x := by
  subst e; exact h
set_option maxRecDepth 100000 in
set_option maxHeartbeats 1000000 in
theorem rcmpD_any (w : World) (va vb : Value) (x y : Nat) (ha : RdD w va x) (hb : RdD w vb y) :
    Calls Tryz.prog 146 #[va, vb] w fun e w' => e = .returned (.int .i64 (cmpN x y)) ∧ Below w.heap.size w w' := by
  have HA := Lib.hid ha
  have HB := Lib.hid hb
  have hlx := Rd.le ha
  have hly := Rd.le hb
  obtain ⟨A, c, rfl, _, _, _⟩ := Rd.open_ ha
  obtain ⟨A2, c2, rfl, _, _, _⟩ := Rd.open_ hb
  have H1 := Lib.hid (cmpN_len (x := x) (y := y))
  have H2 := Lib.hid (cmpN_len2 (x := x) (y := y))
  have H3 := Lib.hid (fun i => cmpN_lt (x := x) (y := y) (i := i))
  have H4 := Lib.hid (fun i => cmpN_gt (x := x) (y := y) (i := i))
  have H5 := Lib.hid (cmpN_eq (x := x) (y := y))
  have HDX := Lib.hid (digs_dig x)
  have HDY := Lib.hid (digs_dig y)
  clear ha hb
  unfold RdD at HA HB
  generalize hla : digs x = a at *
  generalize hlb : digs y = b at *
  generalize cmpN x y = r at *
  clear hla hlb
  generalize hna : a.length = na at *
  generalize hnb : b.length = nb at *
  have HNA := Lib.hid hna
  have HNB := Lib.hid hnb
  clear hna hnb
  go_enter Tryz.func146, Tryz.ntmps146
  by_cases hne : na = nb
  · subst hne
    have tne : ((na : Int) == (na : Int)) = true := by simp
    go_wp2_with fail
    go_loopw [5] (fun ix w' => ∃ (z : Int) (k : Nat), ix = .int .i64 z ∧ z = (k : Int) - 1 ∧ k ≤ na ∧ Hid (a.drop k = b.drop k) ∧ Below w.heap.size w w') (fun ix _ => (intOf ix + 1).toNat)
    case atStart => exact ⟨_, na, rfl, rfl, Nat.le_refl _, Lib.hid (by rw [List.drop_of_length_le (by rw [HNA.out]; exact Nat.le_refl _), List.drop_of_length_le (by rw [HNB.out]; exact Nat.le_refl _)]), Below.refl _ _⟩
    case round =>
      obtain ⟨z, k, rfl, hz, hk, HV, hbw⟩ := hrel
      have HBW := Lib.hid hbw
      clear hbw
      by_cases hz0 : z < 0
      · obtain rfl : z = -1 := by omega
        obtain rfl : k = 0 := by omega
        have HR := Lib.hid (H5.out HV.out)
        clear hz hz0 hk
        go_wp2
        go_ret
        exact ⟨ret_i64 HR.out.symm, HBW.out⟩
      · obtain ⟨j, rfl⟩ : ∃ j : Nat, z = j := ⟨z.toNat, by omega⟩
        obtain rfl : k = j + 1 := by omega
        obtain ⟨b1, o1, x1, hA1, hx1, cx1⟩ := Rd.int (q := .i64) (l := a) (HA.out.later HBW.out) (show j < na by omega)
        obtain ⟨b2, o2, x2, hA2, hx2, cx2⟩ := Rd.int (q := .i64) (l := b) (HB.out.later HBW.out) (show j < na by omega)
        subst hA1 hA2
        have e1 : a.getD j 0 = x1 := by rw [List.getD_eq_getElem?_getD, hx1]; rfl
        have e2 : b.getD j 0 = x2 := by rw [List.getD_eq_getElem?_getD, hx2]; rfl
        have HL : Hid (x1 < x2 → r = -1) := Lib.hid (fun h => H3.out j (by omega) trivial HV.out (by rw [e1, e2]; exact h))
        have HG : Hid (x2 < x1 → r = 1) := Lib.hid (fun h => H4.out j (by omega) trivial HV.out (by rw [e1, e2]; exact h))
        have HE : Hid (x1 = x2 → a.drop j = b.drop j) := Lib.hid (fun h => drop_down (by rw [HNA.out]; omega) (by rw [HNB.out]; omega) HV.out (by rw [e1, e2]; exact h))
        clear hx1 hx2 e1 e2 hz
        rcases Int.lt_trichotomy x1 x2 with h | h | h
        · have t1 : decide (x1 < x2) = true := decide_eq_true h
          have HR := Lib.hid (HL.out h)
          go_wp2_with fail
          go_quiet (fail)
          go_wp2_with fail
          go_ret
          exact ⟨ret_i64 HR.out.symm, (bel_drewN HBW.out _)⟩
        · subst h
          have t1 : decide (x1 < x1) = false := decide_eq_false (by omega)
          have HE2 := Lib.hid (HE.out rfl)
          go_wp2_with fail
          go_quiet (fail)
          go_wp2_with fail
          go_quiet (fail)
          go_wp2_with fail
          go_roundw
          case rel => exact ⟨_, j, rfl, rfl, by omega, HE2.out, bel_drewN HBW.out _⟩
          case measure => simp [intOf]
        · have t1 : decide (x1 < x2) = false := decide_eq_false (by omega)
          have t2 : decide (x2 < x1) = true := decide_eq_true h
          have HR := Lib.hid (HG.out h)
          go_wp2_with fail
          go_quiet (fail)
          go_wp2_with fail
          go_quiet (fail)
          go_wp2_with fail
          go_ret
          exact ⟨ret_i64 HR.out.symm, bel_drewN (bel_drewN HBW.out _) _⟩
  · have tne : ((na : Int) == (nb : Int)) = false := by simp; omega
    have tne2 : (na == nb) = false := by simp; omega
    by_cases hlt : na < nb
    · have t1 : decide ((na : Int) < (nb : Int)) = true := by simp; omega
      have HR := Lib.hid (H1.out hlt)
      go_wp2_with fail
      go_ret
      exact ⟨ret_i64 HR.out.symm, Below.refl _ _⟩
    · have t1 : decide ((na : Int) < (nb : Int)) = false := by simp; omega
      have HR := Lib.hid (H2.out (by omega))
      go_wp2_with fail
      go_ret
      exact ⟨ret_i64 HR.out.symm, Below.refl _ _⟩
end Go.Proofs.YtlffgdmljioaoaaGreatDoor
/- Walks of the reference's big numbers: divDigit. -/
namespace Go.Sheet
def zerosL (n : Nat) : List Int := List.replicate n 0
theorem zerosL_set (j : Nat) (L : List Int) (q : Int) : (zerosL (j + 1) ++ L).set j q = zerosL j ++ q :: L := by
  unfold zerosL
  rw [List.replicate_succ', List.append_assoc, List.set_append_right _ _ (by simp)]
  simp
theorem divL_drop {d : Int} {l : List Int} {j : Nat} {x : Int} (hx : l[j]? = some x) : (divL d (l.drop j)).1 = ((divL d (l.drop (j + 1))).2 * 1000000000 + x) / d :: (divL d (l.drop (j + 1))).1 ∧ (divL d (l.drop j)).2 = ((divL d (l.drop (j + 1))).2 * 1000000000 + x) % d := by
  obtain ⟨hj, rfl⟩ := List.getElem?_eq_some_iff.1 hx
  rw [List.drop_eq_getElem_cons hj]
  exact ⟨rfl, rfl⟩
end Go.Sheet
namespace Go.Proofs.YtlffgdmljioaoaaGreatDoor
open Go.RowKit Go.Mem Go.Sheet
theorem zeros_made (k : Nat) : (madeCells (Value.int .i64 0).cells (k * 1)).toList = ints (zerosL k) := by
  show (madeCells #[.int .i64 0] (k * 1)).toList = _
  rw [toList_madeCells_one, Nat.mul_one]
  unfold zerosL
  simp [ints]
theorem row_intQ {W w : World} {L : List Asr} {i : Nat} {e : TypeId} {g cap n : Nat} {l : List Int} (S : St W w L) (hi : L[i]? = some (row e 1 (.slice (some ⟨g, 0, none⟩) n cap) n (ints l))) {j : Nat} {x : Int} (hx : l[j]? = some x) :
    w.cell? ⟨g, j, none⟩ = some (.int .i64 x) ∧ w.frozen? ⟨g, j, none⟩ = false := by
  have hl := (S.row_rd hi).len
  rw [ints, List.length_map, Nat.mul_one] at hl
  have hj : j < n := by rw [← hl]; exact (List.getElem?_eq_some_iff.1 hx).1
  obtain ⟨_, _, hv, _, _, _, hc, hf⟩ := S.row_form hi (by omega)
  cases hv
  refine ⟨?_, hf j⟩
  rw [hc j (by omega), ints, List.getElem?_map, hx]; rfl
set_option maxRecDepth 100000 in
set_option maxHeartbeats 1000000 in
theorem rdivD_any (W : World) (va : Value) (x : Nat) (d : Nat) (hd : 1 ≤ d ∧ d < 1000000000) (hla : (digs x).length ≤ 100) (ha : RdD W va x) :
    Calls Tryz.prog 147 #[va, .int .i64 (d : Int)] W fun e w' => (∃ v' : Value, e = .returned (.tuple #[v', .int .i64 ((x % d : Nat) : Int)]) ∧ RdD w' v' (x / d)) ∧ Below W.heap.size W w' := by
  have HA := Lib.hid ha
  obtain ⟨A, c, rfl, _, _, _⟩ := Rd.open_ ha
  have HD := Lib.hid (divL_digs (d := (d : Int)) (by omega) x)
  have HOK := Lib.hid (fun j => divL_ok (d := (d : Int)) (by omega) ((digs x).drop j) (fun y hy => digs_dig x y (List.mem_of_mem_drop hy)))
  have HDX := Lib.hid (digs_dig x)
  clear ha
  unfold RdD at HA
  generalize hla2 : digs x = a at *
  clear hla2
  generalize hna : a.length = na at *
  have HNA := Lib.hid hna
  clear hna
  have S0 := St.refl W
  have HS0 := Lib.hid S0
  clear S0
  go_enter Tryz.func147, Tryz.ntmps147
  go_wp2_with (at_make; refine wpList_make_st eltI rfl _ _ rfl (n := na) rfl rfl HS0.out (by omega) (by omega) ?_; intro wc g1 S1 _ _; rw [zeros_made] at S1; simp only [List.nil_append] at S1; have HS1 := Lib.hid S1; clear S1 HS0)
  go_loopw [7, 8] (fun rr ix w' => ∃ (z : Int) (k : Nat), ix = .int .i64 z ∧ z = (k : Int) - 1 ∧ k ≤ na ∧ rr = .int .i64 (divL (d : Int) (a.drop k)).2 ∧ St W w' [row 3 1 (.slice (some ⟨g1, 0, none⟩) na na) na (ints (zerosL k ++ (divL (d : Int) (a.drop k)).1))]) (fun _ ix _ => (intOf ix + 1).toNat)
  case atStart =>
    have e : a.drop na = [] := List.drop_of_length_le (by rw [HNA.out]; exact Nat.le_refl _)
    exact ⟨_, na, rfl, rfl, Nat.le_refl _, by rw [e]; rfl, by rw [e]; simpa [divL] using HS1.out⟩
  case round =>
    obtain ⟨z, k, rfl, hz, hk, rfl, S⟩ := hrel
    clear HS1
    by_cases hz0 : z < 0
    · obtain rfl : z = -1 := by omega
      obtain rfl : k = 0 := by omega
      simp only [List.drop_zero, zerosL, List.replicate_zero, List.nil_append] at S ⊢
      have HLN := Lib.hid ((HOK.out 0).1)
      simp only [List.drop_zero] at HLN
      have HE1 := Lib.hid HD.out.1
      have HE2 := Lib.hid HD.out.2
      have HRT := Lib.hid (rtrim_any wr (· < wr.heap.size) _ (divL (d : Int) a).1 (by rw [HLN.out, HNA.out]; omega) (by rw [HLN.out, HNA.out]; exact (S.row_rd (i := 0) rfl).mono (S' := (· < wr.heap.size)) (fun b _ h => h.2)))
      have HBL := Lib.hid S.bel
      clear S hz hz0 hk
      have e1 : (d : Int).toNat = d := by omega
      rw [e1] at HE1 HE2
      clear e1
      rw [HE2.out]
      go_wp2_with fail
      refine HRT.out.mono ?_
      rintro e w' ⟨⟨v', rfl, hr⟩, rfl⟩
      have HRR := Lib.hid (rdD_of HE1.out hr)
      clear hr
      go_wp2
      go_ret2
      exact ⟨⟨_, rfl, HRR.out⟩, HBL.out⟩
    · obtain ⟨j, rfl⟩ : ∃ j : Nat, z = j := ⟨z.toNat, by omega⟩
      obtain rfl : k = j + 1 := by omega
      obtain ⟨b1, o1, x1, hA1, hx1, cx1⟩ := Rd.int (q := .i64) (l := a) (HA.out.below S.bel) (show j < na by omega)
      subst hA1
      obtain ⟨hq, hr⟩ := divL_drop (d := (d : Int)) hx1
      have g1b := HDX.out x1 (List.mem_of_getElem? hx1)
      obtain ⟨_, _, g2, g3, _⟩ := HOK.out (j + 1)
      obtain ⟨_, g4, g5, g6, _⟩ := HOK.out j
      have g7 := g4 _ (by rw [hq]; exact List.mem_cons_self ..)
      have S2 := S.row_set (i := 0) rfl j (.int .i64 (((divL (d : Int) (a.drop (j + 1))).2 * 1000000000 + x1) / d))
      have S1 := S
      simp only [List.set_cons_zero] at S2
      rw [show (ints (zerosL (j + 1) ++ (divL (d : Int) (a.drop (j + 1))).1)).set j (.int .i64 (((divL (d : Int) (a.drop (j + 1))).2 * 1000000000 + x1) / d)) = ints (zerosL j ++ (divL (d : Int) (a.drop j)).1) by
        rw [hq, ← zerosL_set, ints, ints, List.map_set]] at S2
      have HS2 := Lib.hid S2
      obtain ⟨cz, fz⟩ := row_intQ S (i := 0) rfl (j := j) (x := 0) (by
        have h0 : j < (zerosL (j + 1)).length := by simp [zerosL]
        rw [List.getElem?_append_left h0]
        simp [zerosL])
      have HQ := Lib.hid hr
      clear S S1 S2 hx1 hq hr g4 hz
      generalize (divL (d : Int) (a.drop (j + 1))).2 = R at *
      have hs0 : 0 ≤ R * 1000000000 + x1 := by omega
      have hs1 : R * 1000000000 + x1 ≤ 1000000000000000000 := by omega
      have hdv : Int.tdiv (R * 1000000000 + x1) d = (R * 1000000000 + x1) / d := Int.tdiv_eq_ediv_of_nonneg hs0
      have hmd : Int.tmod (R * 1000000000 + x1) d = (R * 1000000000 + x1) % d := Int.tmod_eq_emod_of_nonneg hs0
      have hd0 : ((d : Int) == 0) = false := by simp; omega
      have hmb : 0 ≤ (R * 1000000000 + x1) % (d : Int) ∧ (R * 1000000000 + x1) % (d : Int) < d := ⟨Int.emod_nonneg _ (by omega), Int.emod_lt_of_pos _ (by omega)⟩
      go_wp2_with fail
      go_roundw
      case rel => exact ⟨_, j, rfl, rfl, by omega, by rw [HQ.out], HS2.out⟩
      case measure => simp [intOf]
end Go.Proofs.YtlffgdmljioaoaaGreatDoor
