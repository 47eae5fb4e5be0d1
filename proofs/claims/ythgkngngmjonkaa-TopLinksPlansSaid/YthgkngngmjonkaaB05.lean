/- Part 5 of the walks of the golf union's program: KE, KF. -/
import Derived.Test.YthgkngngmjonkaaB04
set_option linter.unusedVariables false
set_option linter.unusedSimpArgs false
set_option linter.unusedSectionVars false
set_option linter.constructorNameAsVariable false
/- TopLinksPlans: Earliest and the law's closure. -/
namespace Go.Plan
def okD (x : Int) : Bool := decide (0 ≤ x) && decide (x ≤ 100000)
def okR (a : List Int) (r : RL) : Bool := decide (a.getD r.fr 0 + r.le ≤ a.getD r.to 0)
/-- the law's closure -/
def fitF (l : List RL) (a : List Int) : Bool := a.all okD && l.all (okR a)
theorem all_stop {α : Type} {p : α → Bool} {l : List α} {k : Nat} {x : α} (h : l[k]? = some x) (h0 : p x = false) : l.all p = false := by
  rw [List.all_eq_false]
  exact ⟨x, List.mem_of_getElem? h, by simp [h0]⟩
theorem all_go {α : Type} {p : α → Bool} {l : List α} {k : Nat} {x : α} (h : l[k]? = some x) (h0 : p x = true) (e : (l.take k).all p = true) : (l.take (k + 1)).all p = true := by
  rw [Go.Sheet.take_at h, List.all_append, e]
  simp [h0]
theorem all_end {α : Type} {p : α → Bool} {l : List α} {n : Nat} (h : l.length ≤ n) (e : (l.take n).all p = true) : l.all p = true := by
  rwa [List.take_of_length_le h] at e
end Go.Plan
namespace Go.Proofs.Ythgkngngmjonkaa
open Go.RowKit Go.Mem Go.Sheet Go.Plan
set_option maxRecDepth 100000 in
set_option maxHeartbeats 1000000 in
theorem earliest_any (W : World) (n : Nat) (v : Value) (nl : Nat) (l : List RI) (hl0 : rulesE n l = 0) (h : Rd W (· < W.heap.size) 3 v nl (l.flatMap RI.cells)) :
    Calls Try.prog 6 #[.int .i64 n, v] W fun e w' => (∃ g D, e = .returned (.tuple #[.slice (some ⟨g, 0, none⟩) n n, .int .i64 0]) ∧ Least n (l.map RI.rl) D ∧ (∀ x, 0 ≤ D x ∧ D x ≤ 100000000) ∧ St W w' [row 3 1 (.slice (some ⟨g, 0, none⟩) n n) n (daysV n D)]) ∨
      (∃ x, e = .returned (.tuple #[x, .int .i64 23]) ∧ (∀ d : Nat → Int, Fits n (l.map RI.rl) d → ¬ ∀ x, x < n → 0 ≤ d x) ∧ Below W.heap.size W w') := by
  have hok := rules_ok hl0
  have HC := Lib.hid (checkRules_any W n (by omega) v nl l h)
  have hcells := rules_cells hl0
  rw [hl0] at HC
  have hR := h
  rw [hcells] at hR
  have HX : Hid (∀ w : World, Below W.heap.size W w → Calls Try.prog 15 #[.int .i64 n, v] w fun e w' => (∃ g D, e = .returned (.tuple #[.slice (some ⟨g, 0, none⟩) n n, .slice none 0 0]) ∧ Least n (l.map RI.rl) D ∧ (∀ x, 0 ≤ D x ∧ D x ≤ 100000000) ∧ St w w' [row 3 1 (.slice (some ⟨g, 0, none⟩) n n) n (daysV n D)]) ∨
      (∃ b q c, e = .returned (.tuple #[.slice none 0 0, .slice (some b) q c]) ∧ (∀ d : Nat → Int, Fits n (l.map RI.rl) d → ¬ ∀ x, x < n → 0 ≤ d x) ∧ Below w.heap.size w w')) := fun w hb =>
    relax_any w n v nl (l.map RI.rl) (rules_in hl0) hok.1 (by rw [List.length_map]; exact hok.2.1) (rules_le hl0) (hR.later hb)
  obtain ⟨A, c, rfl, _, _, _⟩ := h.open_
  clear hR hcells hok h hl0
  go_enter Try.func6, Try.ntmps6
  go_wp2_with (go_at_call 14; refine HC.out.mono ?_; rintro e w1 ⟨rfl, hb1⟩)
  have HB := Lib.hid hb1
  clear hb1
  refine (HX.out w1 HB.out).mono ?_
  rintro e w2 (⟨g, D, rfl, h1, h2, S2⟩ | ⟨b, q, cc, rfl, h1, hb2⟩)
  · have HS := Lib.hid (St.of_below HB.out |>.call S2)
    clear HX HC HB S2
    go_wp2_with (go_at_call 16; refine (when_any _ _ _).mono ?_; rintro e w' ⟨rfl, rfl⟩)
    go_ret2
    exact .inl ⟨g, D, rfl, h1, h2, HS.out⟩
  · have HBB := Lib.hid (HB.out.trans (hb2.mono HB.out.size))
    clear HX HC HB hb2
    go_wp2_with (go_at_call 16; refine (when_any _ _ _).mono ?_; rintro e w' ⟨rfl, rfl⟩)
    go_ret2
    exact .inr ⟨_, rfl, h1, HBB.out⟩
set_option maxRecDepth 100000 in
set_option maxHeartbeats 1000000 in
theorem fits_any (W : World) (n : Nat) (vl va : Value) (nl bx : Nat) (l : List RL) (a : List Int) (hb : W.cell? ⟨bx, 0, none⟩ = some vl) (hbx : bx < W.heap.size) (hi : In n l) (hle : ∀ r ∈ l, -10000 ≤ r.le ∧ r.le ≤ 10000)
    (h : Rd W (· < W.heap.size) 3 vl nl (l.flatMap RL.cells)) (ha : Rd W (· < W.heap.size) 1 va n (a.map (Value.int .i64))) :
    Calls Try.prog 7 #[va, .pointer (some ⟨bx, 0, none⟩)] W fun e w' => e = .returned (.bool (fitF l a)) ∧ Below W.heap.size W w' := by
  have HL := Lib.hid (h.count (f := RL.cells) (size := 3) (fun _ => rfl) (by decide))
  have HLA := Lib.hid ha.count1
  have hn1 := h.le
  have hn2 := ha.le
  have HR := Lib.hid h
  have HA := Lib.hid ha
  have HIN := Lib.hid hi
  have HLE := Lib.hid hle
  obtain ⟨Al, cl, rfl, _, _, _⟩ := h.open_
  obtain ⟨Aa, ca, rfl, _, _, _⟩ := ha.open_
  clear h ha hi hle
  go_enter Try.func7, Try.ntmps7
  go_wp2
  go_loopw [10] (fun i w' => ∃ k : Nat, k ≤ n ∧ i = .int .i64 k ∧ W = w' ∧ Hid ((a.take k).all okD = true)) (fun i _ => n - (intOf i).toNat)
  case atStart => exact ⟨0, Nat.zero_le _, rfl, rfl, rfl⟩
  case round =>
    obtain ⟨k, hk, rfl, rfl, he⟩ := hrel
    by_cases hlt : k < n
    · obtain ⟨b, o, x, hA, hx, c0⟩ := HA.out.int (k := k) hlt
      subst hA
      have HX := Lib.hid hx
      clear hx
      by_cases h1 : x < 0
      · have HF : Hid (fitF l a = false) := by
          show _ = _
          rw [fitF, all_stop HX.out (by unfold okD; simp; omega)]; rfl
        go_wp2
        go_ret
        exact ⟨ret_bool HF.out.symm, Below.refl _ _⟩
      · by_cases h2 : 100000 < x
        · have HF : Hid (fitF l a = false) := by
            show _ = _
            rw [fitF, all_stop HX.out (by unfold okD; simp; omega)]; rfl
          go_wp2
          go_ret
          exact ⟨ret_bool HF.out.symm, Below.refl _ _⟩
        · have HG := Lib.hid (all_go HX.out (by unfold okD; simp; omega) he.out)
          clear he
          go_wp2
          go_roundw
          case rel => exact ⟨k + 1, by omega, by go_num, by trivial, HG.out⟩
          case measure => simp [intOf]; omega
    · have HALL := Lib.hid (all_end (by rw [← HLA.out]; omega) he.out)
      clear he
      go_wp2
      go_loopw [23] (fun i w' => ∃ k : Nat, k ≤ nl ∧ i = .int .i64 k ∧ Below W.heap.size W w' ∧ Hid ((l.take k).all (okR a) = true)) (fun i _ => nl - (intOf i).toNat)
      case atStart => exact ⟨0, Nat.zero_le _, rfl, Below.refl _ _, rfl⟩
      case round =>
        obtain ⟨k, hk, rfl, hbw, he⟩ := hrel
        by_cases hlt : k < nl
        · obtain ⟨b, o, x, hA, hx, c0, c1, c2⟩ := (HR.out.below hbw).elem3 (k := k) (fun s : RL => .int .i64 s.fr) (fun s : RL => .int .i64 s.to) (fun s : RL => .int .i64 s.le) (fun _ => rfl) hlt
          subst hA
          have hxi := HIN.out x (List.mem_of_getElem? hx)
          have hxl := HLE.out x (List.mem_of_getElem? hx)
          obtain ⟨b1, o1, y1, hA1, hy1, d1⟩ := (HA.out.below hbw).int (k := x.fr) hxi.1
          obtain ⟨b2, o2, y2, hA2, hy2, d2⟩ := (HA.out.below hbw).int (k := x.to) hxi.2
          subst hA1
          cases hA2
          have hb1 : b1 < W.heap.size := by
            obtain ⟨g, o, hg, hS, _⟩ := HA.out.addr (by omega)
            cases hg; exact hS
          have z1 : 0 ≤ y1 ∧ y1 ≤ 100000 := by
            have := List.all_eq_true.1 HALL.out y1 (List.mem_of_getElem? hy1)
            unfold okD at this; simpa using this
          have z2 : 0 ≤ y2 ∧ y2 ≤ 100000 := by
            have := List.all_eq_true.1 HALL.out y2 (List.mem_of_getElem? hy2)
            unfold okD at this; simpa using this
          have HX := Lib.hid hx
          have hRR : okR a x = decide (y1 + x.le ≤ y2) := by
            unfold okR
            rw [List.getD_eq_getElem?_getD, List.getD_eq_getElem?_getD, hy1, hy2]; rfl
          have HRR := Lib.hid hRR
          have HBW := Lib.hid hbw
          have hsz := hbw.size
          have hf := hxi.1
          have ht := hxi.2
          have hlt1 : b1 < wr.heap.size := by omega
          have hne1 : b1 ≠ wr.heap.size := by omega
          have hne2 : wr.heap.size ≠ b1 := by omega
          clear hx hxi hy1 hy2 hRR hbw
          go_wp2_with fail
          by_cases hc : y2 < y1 + x.le
          · have HF : Hid (fitF l a = false) := by
              show _ = _
              rw [fitF, all_stop HX.out (by rw [HRR.out]; simp; omega), Bool.and_false]
            go_quiet (fail)
            go_wp2
            go_ret
            exact ⟨ret_bool HF.out.symm, (((St.of_below HBW.out).alloc _).drewN _).bel⟩
          · have HG := Lib.hid (all_go HX.out (by rw [HRR.out]; simp; omega) he.out)
            clear he
            go_quiet (fail)
            go_wp2
            go_roundw
            case rel => exact ⟨k + 1, by omega, by go_num, (((St.of_below HBW.out).alloc _).drewN _).bel, HG.out⟩
            case measure => simp [intOf]; omega
        · have HF : Hid (fitF l a = true) := by
            show _ = _
            rw [fitF, HALL.out, all_end (by rw [← HL.out]; omega) he.out]; rfl
          go_wp2
          go_ret
          exact ⟨ret_bool HF.out.symm, hbw⟩
end Go.Proofs.Ythgkngngmjonkaa
/- TopLinksPlans: fill (recursive). -/
namespace Go.Mem
open Go Go.RowKit
/-- data outside of block g, which may be written -/
def RdG (w : World) (g : Nat) (v : Value) (n : Nat) (xs : List Value) : Prop := Rd w (fun b => b ≠ g ∧ b < w.heap.size) 1 v n xs
theorem RdG.later {w w' : World} {g n : Nat} {v : Value} {xs : List Value} (h : RdG w g v n xs) (hg : w.grownBy w' (some g)) : RdG w' g v n xs :=
  (Rd.loc h hg.size (fun b ⟨hne, hlt⟩ => hg.block b hlt (by simpa using hne))).mono fun b _ ⟨h1, h2⟩ => ⟨h1, by have := hg.size; omega⟩
theorem gr_below {w w' : World} {g : Nat} (h : Below w.heap.size w w') : w.grownBy w' (some g) := ⟨h.os, h.tape, h.output, h.size, fun k hk _ => h.block k hk⟩
theorem gr_setCell (w : World) (g j : Nat) (u : Value) : w.grownBy (w.setCell ⟨g, j, none⟩ u) (some g) :=
  ⟨rfl, rfl, rfl, by simp [World.setCell], fun k _ hk => Below.heap_setCell _ _ _ _ (fun e => hk (by subst e; rfl))⟩
theorem st_of_row {w w' : World} {e : TypeId} {size n : Nat} {v : Value} {xs : List Value} (hb : Below w.heap.size w w') (ho : w'.ownsRow w.heap.size e size v n xs) : St w w' [row e size v n xs] := by
  refine ⟨hb, fun b => v.ownBlock = some b, fun b hb' => ho.lt b hb', ⟨⟨ho.1, ?_⟩, fun g hg => hg⟩, trivial⟩
  rcases ho.2 with h | ⟨g, cap, cur, rfl, hb, hg, r⟩
  · exact .inl h
  · exact .inr ⟨g, cap, cur, rfl, Nat.zero_le _, hg, r⟩
theorem row_block {W w : World} {L : List Asr} {i : Nat} {e : TypeId} {g n : Nat} {xs : List Value} (h : St W w L) (hi : L[i]? = some (row e 1 (.slice (some ⟨g, 0, none⟩) n n) n xs)) : w.heap[g]? = some (.cells xs.toArray e (0, 0)) := by
  have ho := h.row_own hi
  rcases ho.2 with ⟨h1, _⟩ | ⟨g', cap, cur, h1, _, hg, _, _, hs, ht⟩
  · cases h1
  · injection h1 with e1 e2 e3
    injection e1 with e1
    injection e1 with e1 _
    subst e1 e3
    rw [List.take_of_length_le (by simp [hs])] at ht
    rw [hg, ← ht]
end Go.Mem
namespace Go.Plan
def fillAt (limit n : Int) (fs used : List Int) (i : Nat) : Option (List Nat) := if limit < used.getD i 0 + n then none else (fillF limit fs (used.set i (used.getD i 0 + n))).map (i :: ·)
theorem fillF_cons (limit n : Int) (fs used : List Int) : fillF limit (n :: fs) used = (List.range' 0 used.length).findSome? (fillAt limit n fs used) := by
  rw [fillF, List.range_eq_range']; rfl
theorem some_go {f : Nat → Option (List Nat)} {i c : Nat} {r : Option (List Nat)} (hi : i < c) (h : f i = none) (e : (List.range' i (c - i)).findSome? f = r) : (List.range' (i + 1) (c - (i + 1))).findSome? f = r := by
  rw [← e, show c - i = (c - (i + 1)) + 1 by omega, List.range'_succ, List.findSome?_cons, h]
theorem some_stop {f : Nat → Option (List Nat)} {i c : Nat} {r : Option (List Nat)} {x : List Nat} (hi : i < c) (h : f i = some x) (e : (List.range' i (c - i)).findSome? f = r) : r = some x := by
  rw [← e, show c - i = (c - (i + 1)) + 1 by omega, List.range'_succ, List.findSome?_cons, h]
theorem some_end {f : Nat → Option (List Nat)} {i c : Nat} {r : Option (List Nat)} (hi : c ≤ i) (e : (List.range' i (c - i)).findSome? f = r) : r = none := by
  rw [← e, show c - i = 0 by omega]; rfl
theorem set_back (l : List Int) (i : Nat) (x y : Int) (h : l[i]? = some x) : (l.set i y).set i x = l := by
  rw [List.set_set]
  refine List.ext_getElem? fun j => ?_
  by_cases e : i = j
  · subst e; rw [List.getElem?_set_self (List.getElem?_eq_some_iff.1 h).1, h]
  · rw [List.getElem?_set_ne e]
def natsI (l : List Nat) : List Value := l.map fun (k : Nat) => Value.int .i64 ((k : Nat) : Int)
def intsI (l : List Int) : List Value := l.map (Value.int .i64)
end Go.Plan
namespace Go.Proofs.Ythgkngngmjonkaa
open Go.RowKit Go.Mem Go.Sheet Go.Plan
theorem clone_any (w : World) (S : Nat → Prop) (v : Value) (k : Nat) (zs : List Int) (h : Rd w S 1 v k (intsI zs)) (hk : k ≤ 1000000) :
    Calls Try.prog 31 #[v] w fun e w' => ∃ v', e = .returned v' ∧ St w w' [row 3 1 v' k (intsI zs)] := by
  have hl : k = zs.length := h.count1
  obtain ⟨A, c, rfl, _, _, hh⟩ := h.open_
  have hnone : A = none → k = 0 := fun e => by
    rcases Nat.eq_zero_or_pos k with h0 | h0
    · exact h0
    · obtain ⟨b, o, hA, _⟩ := hh.addr h0
      rw [e] at hA; cases hA
  cases A with
  | none =>
    have h0 := hnone rfl
    subst h0
    have hz : zs = [] := List.eq_nil_of_length_eq_zero hl.symm
    subst hz
    refine (Try.slices_Clone_int_nil 0 c w).mono ?_
    rintro e w' ⟨rfl, rfl⟩
    exact ⟨_, rfl, (St.refl _).row_nil _ _⟩
  | some a =>
    rcases Nat.eq_zero_or_pos k with h0 | h0
    · subst h0
      have hz : zs = [] := List.eq_nil_of_length_eq_zero hl.symm
      subst hz
      refine (Try.slices_Clone_int_zero a c w).mono ?_
      rintro e w' ⟨v', rfl, ho, _, hb⟩
      exact ⟨_, rfl, st_of_row hb ho⟩
    · obtain ⟨b, o, hA, _, _, hc⟩ := hh.addr h0
      cases hA
      refine (Try.slices_Clone_int b o k c zs w (Nat.le_of_eq hl) (by omega) (fun j hj => ?_)).mono ?_
      · refine hc j _ ?_
        rw [intsI, List.getElem?_map, List.getElem?_eq_getElem hj, List.getD_eq_getElem?_getD, List.getElem?_eq_getElem hj]; rfl
      · rintro e w' ⟨v', rfl, ho, _, hb⟩
        rw [List.take_of_length_le (by omega)] at ho
        exact ⟨_, rfl, st_of_row hb ho⟩
def natI (l : List Nat) : List Int := l.map fun (k : Nat) => ((k : Nat) : Int)
set_option maxRecDepth 100000 in
set_option maxHeartbeats 4000000 in
theorem fill_any (limit : Int) (hlim : 0 ≤ limit ∧ limit ≤ 1000000) (n c g : Nat) (hn : n ≤ 1000) (hc : c ≤ 1000) (vf : Value) : ∀ (rest pre : List Int) (w : World) (used : List Int) (ks : List Nat) (vl : Value),
    (pre ++ rest).length = n → (∀ x ∈ rest, 0 ≤ x ∧ x ≤ 1000000) → ks.length = pre.length → used.length = c → (∀ x ∈ used, 0 ≤ x ∧ x ≤ 1000000) → w.heap[g]? = some (.cells (intsI used).toArray 3 (0, 0)) →
    RdG w g vf n (intsI (pre ++ rest)) → RdG w g vl ks.length (intsI (natI ks)) →
    Calls Try.prog 21 #[vf, .int .i64 limit, .slice (some ⟨g, 0, none⟩) c c, vl] w fun e w' => w.grownBy w' (some g) ∧ ((∃ v' ks', e = .returned (.tuple #[v', .bool true]) ∧ fillF limit rest used = some ks' ∧ RdG w' g v' n (intsI (natI (ks ++ ks')))) ∨
      (e = .returned (.tuple #[.slice none 0 0, .bool false]) ∧ fillF limit rest used = none ∧ w'.heap[g]? = some (.cells (intsI used).toArray 3 (0, 0))))
  | [], pre, w, used, ks, vl => by
    intro hlen hr hkl hul hub hg hf hl
    rw [List.append_nil] at hlen hf
    have e1 : ks.length = n := by omega
    have HL := Lib.hid hl
    have hn63 := hf.le
    obtain ⟨Af, cf, rfl, _, _, _⟩ := Rd.open_ hf
    rw [e1] at hl HL
    obtain ⟨Al, cl, rfl, _, _, _⟩ := Rd.open_ hl
    clear hf hl
    go_enter Try.func21, Try.ntmps21
    go_wp2
    go_ret2
    exact ⟨World.grownBy.refl _ _, .inl ⟨_, [], rfl, rfl, by rw [List.append_nil]; exact HL.out⟩⟩
  | f :: rest, pre, w, used, ks, vl => by
    intro hlen hr hkl hul hub hg hf hl
    have hfx := hr f (List.mem_cons_self ..)
    have IH := Lib.hid (fill_any limit hlim n c g hn hc vf rest (pre ++ [f]))
    have hkn : ks.length < n := by simp at hlen; omega
    have HF := Lib.hid hf
    have HL := Lib.hid hl
    have HG := Lib.hid hg
    have HHR := Lib.hid hr
    have HUB := Lib.hid hub
    have HUL := Lib.hid hul
    have HKL := Lib.hid hkl
    have HLEN := Lib.hid hlen
    obtain ⟨bf, of_, x, A, cf0x⟩ : ∃ b o x, ∃ A m, vf = .slice A n m ∧ A = some ⟨b, o, none⟩ ∧ (pre ++ f :: rest)[ks.length]? = some x ∧ w.cell? ⟨b, o + ks.length, none⟩ = some (.int .i64 x) := by
      obtain ⟨A, m, rfl, _, _, h⟩ := Rd.open_ hf
      obtain ⟨b, o, x, h1, h2, h3⟩ := h.int hkn
      exact ⟨b, o, x, A, m, rfl, h1, h2, h3⟩
    obtain ⟨mf, rfl, rfl, hxf, cf0⟩ := cf0x
    have exf : x = f := by
      rw [hkl, List.getElem?_append_right (Nat.le_refl _), Nat.sub_self] at hxf
      exact (Option.some.inj hxf).symm
    subst exf
    obtain ⟨Al, cl, rfl, _, _, _⟩ := Rd.open_ hl
    clear hxf hf hl hg hr hub hul hkl hlen
    obtain ⟨R, hR⟩ : ∃ R, fillF limit (x :: rest) used = R := ⟨_, rfl⟩
    have HRC : Hid ((List.range' 0 (c - 0)).findSome? (fillAt limit x rest used) = R) := by
      show _ = _
      rw [← hR, fillF_cons, HUL.out]; rfl
    rw [hR]
    clear hR
    generalize hkk : ks.length = k at *
    have HKK := Lib.hid hkk
    clear hkk
    go_enter Try.func21, Try.ntmps21
    go_wp2
    have hkb : ((k : Int) == (n : Int)) = false := by simp; omega
    simp only [hkb]
    clear hkb
    go_loopw [27] (fun i_ w' => ∃ i : Nat, i ≤ c ∧ i_ = .int .i64 i ∧ w.grownBy w' (some g) ∧ w'.heap[g]? = some (.cells (intsI used).toArray 3 (0, 0)) ∧ Hid ((List.range' i (c - i)).findSome? (fillAt limit x rest used) = R)) (fun i_ _ => c - (intOf i_).toNat)
    case atStart => exact ⟨0, Nat.zero_le _, rfl, World.grownBy.refl _ _, HG.out, HRC.out⟩
    case round =>
      obtain ⟨i, hi, rfl, hgr, hg, he⟩ := hrel
      clear HG HRC cf0
      by_cases hlt : i < c
      · have hiu : i < used.length := by rw [HUL.out]; exact hlt
        obtain ⟨u, hu⟩ : ∃ u, used[i]? = some u := ⟨_, List.getElem?_eq_getElem hiu⟩
        have hub := HUB.out u (List.mem_of_getElem? hu)
        have hug : used.getD i 0 = u := by rw [List.getD_eq_getElem?_getD, hu]; rfl
        have k0 : wr.cell? ⟨g, i, none⟩ = some (.int .i64 u) := by
          rw [cell_of_row wr g i _ _ _ hg, List.getElem?_toArray, intsI, List.getElem?_map, hu]; rfl
        have f0 : wr.frozen? ⟨g, i, none⟩ = false := by simp [World.frozen?, hg]
        have HG := Lib.hid hg
        have HGR := Lib.hid hgr
        have HU := Lib.hid hu
        have hglt : g < wr.heap.size := (Array.getElem?_eq_some_iff.1 hg).1
        clear hu hg hgr
        by_cases hc1 : limit < u + x
        · have HN := Lib.hid (some_go hlt (by unfold fillAt; rw [hug, if_pos hc1]) he.out)
          clear he hug
          go_wp2_with fail
          go_roundw
          case rel => exact ⟨i + 1, by omega, by go_num, HGR.out, HG.out, HN.out⟩
          case measure => simp [intOf]; omega
        · have HAT : Hid (fillAt limit x rest used i = (fillF limit rest (used.set i (u + x))).map (i :: ·)) := by
            show _ = _
            unfold fillAt
            rw [hug, if_neg hc1]
          have HG1 : Hid ((wr.setCell ⟨g, i, none⟩ (.int .i64 (u + x))).heap[g]? = some (.cells (intsI (used.set i (u + x))).toArray 3 (0, 0))) := by
            show _ = _
            rw [heap_setCell_same wr g i _ _ _ HG.out]
            rw [List.setIfInBounds_toArray, intsI, intsI, List.map_set]
          have HGR1 := Lib.hid (HGR.out.trans (gr_setCell wr g i (.int .i64 (u + x))))
          have HCL := Lib.hid (clone_any _ _ _ _ _ (HL.out.later HGR1.out) (by omega))
          clear hug
          go_wp2_with (first
            | (go_at_call 31; refine HCL.out.mono ?_; rintro e w2 ⟨v', rfl, S2⟩)
            | (at_builtin; refine wpList_append_st eltI rfl _ _ rfl rfl (S2.alloc _) (k := 0) rfl rfl (rd_new w2 (size := 1) (m := 1) #[.int .i64 (i : Int)] 3 rfl (by omega) (fun _ => True) trivial) (by simp [Value.oneCell']) (by omega) (by omega) ?_; intro v'' w3 S3 _))
          have S4 : St (wr.setCell ⟨g, i, none⟩ (.int .i64 (u + x))) w3 [row 3 1 v'' (k + 1) (intsI (natI (ks ++ [i])))] := by
            have e : intsI (natI (ks ++ [i])) = intsI (natI ks) ++ [Value.int .i64 ((i : Nat) : Int)] := by simp [intsI, natI]
            rw [e]
            exact S3
          have hg3 : w3.heap[g]? = some (.cells (intsI (used.set i (u + x))).toArray 3 (0, 0)) := by
            rw [← HG1.out]
            exact S4.bel.block g (by simpa [World.setCell] using hglt)
          have hgr3 := HGR1.out.trans (gr_below S4.bel)
          have hsz3 := S4.size
          have hl3 : RdG w3 g v'' (ks ++ [i]).length (intsI (natI (ks ++ [i]))) := by
            have := S4.row_rd (i := 0) rfl
            rw [show (ks ++ [i]).length = k + 1 by rw [List.length_append, HKK.out]; rfl]
            refine this.mono fun b _ hb => ⟨fun e => ?_, hb.2⟩
            subst e
            have := hb.1
            have h2 : (wr.setCell ⟨b, i, none⟩ (.int .i64 (u + x))).heap.size = wr.heap.size := by simp [World.setCell]
            omega
          have HCALL := Lib.hid (IH.out w3 (used.set i (u + x)) (ks ++ [i]) v'' (by rw [List.append_assoc]; exact HLEN.out) (fun y hy => HHR.out y (List.mem_cons_of_mem _ hy)) (by rw [List.length_append, List.length_append, HKK.out, HKL.out]; rfl) (by rw [List.length_set]; exact HUL.out)
            (fun y hy => by
              rcases List.mem_or_eq_of_mem_set hy with h | h
              · exact HUB.out y h
              · subst h; omega) hg3 (by have := HF.out.later hgr3; rw [List.append_assoc]; exact this) hl3)
          have HGR3 := Lib.hid hgr3
          clear hl3 hg3 hsz3 hgr3 S4 S3 S2 HCL HGR1 HG1 k0 f0 IH
          refine HCALL.out.mono ?_
          rintro e w4 ⟨hgr4, (⟨v3, ks', rfl, hks, hrd⟩ | ⟨rfl, hks, hg4⟩)⟩
          · have HRES : Hid (R = some (i :: ks')) := some_stop hlt (by rw [HAT.out, hks]; rfl) he.out
            have HRD := Lib.hid hrd
            have HGR4 := Lib.hid (HGR3.out.trans hgr4)
            clear hks hrd hgr4 he HAT HCALL
            go_wp2_with fail
            go_ret2
            refine ⟨HGR4.out, .inl ⟨v3, i :: ks', rfl, HRES.out, ?_⟩⟩
            have := HRD.out
            rwa [List.append_assoc] at this
          · have HN := Lib.hid (some_go hlt (by rw [HAT.out, hks]; rfl) he.out)
            have HGR4 := Lib.hid (HGR3.out.trans hgr4)
            have k4 : w4.cell? ⟨g, i, none⟩ = some (.int .i64 (u + x)) := by
              rw [cell_of_row w4 g i _ _ _ hg4, List.getElem?_toArray, intsI, List.getElem?_map, List.getElem?_set_self hiu]; rfl
            have f4 : w4.frozen? ⟨g, i, none⟩ = false := by simp [World.frozen?, hg4]
            have HG5 : Hid ((w4.setCell ⟨g, i, none⟩ (.int .i64 u)).heap[g]? = some (.cells (intsI used).toArray 3 (0, 0))) := by
              show _ = _
              rw [heap_setCell_same w4 g i _ _ _ hg4]
              rw [List.setIfInBounds_toArray, intsI, ← List.map_set, set_back used i u (u + x) HU.out]
              rfl
            have HGR5 := Lib.hid (HGR4.out.trans (gr_setCell w4 g i (.int .i64 u)))
            have hux : u + x - x = u := by omega
            clear hks hgr4 he HAT HCALL hg4
            go_wp2_with fail
            go_roundw
            case rel => exact ⟨i + 1, by omega, by go_num, HGR5.out, HG5.out, HN.out⟩
            case measure => simp [intOf]; omega
      · have HRN := Lib.hid (some_end (by omega) he.out)
        have HG := Lib.hid hg
        have HGR := Lib.hid hgr
        clear hg hgr he
        go_wp2
        go_ret2
        exact ⟨HGR.out, .inr ⟨rfl, HRN.out, HG.out⟩⟩
end Go.Proofs.Ythgkngngmjonkaa
