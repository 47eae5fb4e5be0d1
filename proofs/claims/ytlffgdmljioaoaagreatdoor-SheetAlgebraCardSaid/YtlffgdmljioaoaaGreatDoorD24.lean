/- Part 24 of the walks of the golf union's program: QV3, QP1, QW2, QW3, WR11, WS1, WR12. -/
import Derived.Test.YtlffgdmljioaoaaGreatDoorD23
import Derived.Test.YtlffgdmljioaoaaGreatDoorD03
import Derived.Test.YtlffgdmljioaoaaGreatDoorD08
import Derived.Test.YtlffgdmljioaoaaGreatDoorD21
import Derived.Deep.CutRange
import Derived.Test.YtlffgdmljioaoaaGreatDoorD20
import Derived.Test.YtlffgdmljioaoaaGreatDoorD09
import Derived.Test.YtlffgdmljioaoaaGreatDoorD19
set_option linter.unusedVariables false
set_option linter.unusedSimpArgs false
set_option linter.unusedSectionVars false
set_option linter.constructorNameAsVariable false
/- Walks: the program's CheckCycle. -/
namespace Go.Sheet
end Go.Sheet
namespace Go.Proofs.YtlffgdmljioaoaaGreatDoor
open Go.RowKit Go.Mem Go.Sheet
end Go.Proofs.YtlffgdmljioaoaaGreatDoor
/- The reference's search over all cycles, step by step: plain. -/
namespace Go.Sheet
section
variable {n : Nat} {m : IMat}
structure PathOk (n f : Nat) (p : List Nat) : Prop where
  ne : 0 < p.length
  lt : ∀ x ∈ p, x < n
  two : ∀ i j, i < j → j < p.length → p.getD i 0 ≠ p.getD j 0
  len : p.length + f = n + 1
theorem PathOk.fuel {f : Nat} {p : List Nat} (h : PathOk n f p) : ∃ f', f = f' + 1 := by
  cases f with
  | succ f => exact ⟨f, rfl⟩
  | zero =>
    have hl := h.len
    obtain ⟨t1, t2, h1, h2, e⟩ := pigeonQ (f := fun t => p.getD t 0) (N := n) (k := p.length) (fun t ht => h.lt _ (by
      show p.getD t 0 ∈ p
      rw [List.getD_eq_getElem?_getD, List.getElem?_eq_getElem ht]; exact List.getElem_mem ht)) (by omega)
    exact absurd e (h.two t1 t2 h1 h2)
theorem PathOk.snoc {f : Nat} {p : List Nat} (h : PathOk n (f + 1) p) {k : Nat} (hk : k < n) (hno : ¬ k ∈ p) : PathOk n f (p ++ [k]) := by
  refine ⟨by simp, fun x hx => ?_, fun i j hij hj => ?_, by have := h.len; simp; omega⟩
  · rcases List.mem_append.1 hx with hx | hx
    · exact h.lt x hx
    · rw [List.mem_singleton.1 hx]; exact hk
  · rw [List.length_append, List.length_singleton] at hj
    have hi : i < p.length := by omega
    have e1 : (p ++ [k]).getD i 0 = p.getD i 0 := by rw [List.getD_eq_getElem?_getD, List.getElem?_append_left hi, ← List.getD_eq_getElem?_getD]
    rw [e1]
    by_cases hjl : j < p.length
    · have e2 : (p ++ [k]).getD j 0 = p.getD j 0 := by rw [List.getD_eq_getElem?_getD, List.getElem?_append_left hjl, ← List.getD_eq_getElem?_getD]
      rw [e2]; exact h.two i j hij hjl
    · obtain rfl : j = p.length := by omega
      have e2 : (p ++ [k]).getD p.length 0 = k := by simp
      rw [e2]
      intro e
      apply hno
      rw [← e, List.getD_eq_getElem?_getD, List.getElem?_eq_getElem hi]
      exact List.getElem_mem hi
theorem PathOk.one {i : Nat} (hi : i < n) : PathOk n n [i] := ⟨by simp, fun x hx => by rw [List.mem_singleton.1 hx]; exact hi, fun a b hab hb => by simp at hb; omega, by simp; omega⟩
theorem CycOk.len_le {cy : List Int} (h : CycOk n m cy) : cy.length ≤ n := by
  refine Nat.le_of_not_lt fun hlt => ?_
  obtain ⟨t1, t2, h1, h2, e⟩ := pigeonQ (f := fun t => (cy.getD t 0).toNat) (N := n) (k := cy.length) (fun t ht => by have := h.lt t ht; show (cy.getD t 0).toNat < n; omega) hlt
  have a := h.lt t1 (by omega)
  have b := h.lt t2 h2
  have e : (cy.getD t1 0).toNat = (cy.getD t2 0).toNat := e
  exact h.two t2 t1 h1 h2 (by omega)
theorem cySum_rng {cy : List Int} (hm : MatOk n m) (h : CycOk n m cy) : -((cy.length : Int) * 999999999) ≤ cycS m cy ∧ cycS m cy ≤ (cy.length : Int) * 999999999 := by
  have hs : ∀ k, k ≤ cy.length → -((k : Int) * 999999999) ≤ cySum m cy k ∧ cySum m cy k ≤ (k : Int) * 999999999 := by
    intro k
    induction k with
    | zero => intro _; simp [cySum]
    | succ k ih =>
      intro hk
      have ih := ih (by omega)
      have hP : (k + cy.length - 1) % cy.length < cy.length := Nat.mod_lt _ (by omega)
      have h1 := h.lt k (by omega)
      have h2 := h.lt _ hP
      have h3 := h.ed k (by omega)
      have hb := hm.bd (cy.getD k 0).toNat (cy.getD ((k + cy.length - 1) % cy.length) 0).toNat (by omega) (by omega)
      have hb : cyA m cy k = NONE ∨ -999999999 ≤ cyA m cy k ∧ cyA m cy k ≤ 999999999 := hb
      have hb := hb.resolve_left h3
      rw [cySum]
      have e : (((k + 1 : Nat)) : Int) = (k : Int) + 1 := by omega
      rw [e]
      omega
  exact hs _ (Nat.le_refl _)
def BdB (b : BO) : Prop := ∀ y, b = some y → (-6000000000 ≤ y.1 ∧ y.1 ≤ 6000000000) ∧ 1 ≤ y.2 ∧ y.2 ≤ 6
theorem GoodB.bd {b : BO} (hm : MatOk n m) (hn : n ≤ 6) (h : GoodB n m b) : BdB b := by
  intro y e
  obtain ⟨cy, hc, rfl⟩ := h y e
  have h1 := cySum_rng hm hc
  have h2 := hc.len_le
  have h3 := hc.ne
  show (-6000000000 ≤ cycS m cy ∧ cycS m cy ≤ 6000000000) ∧ 1 ≤ (cy.length : Int) ∧ (cy.length : Int) ≤ 6
  omega
end
end Go.Sheet
/- Walks of the reference's paths. -/
namespace Go.Proofs.YtlffgdmljioaoaaGreatDoor
open Go.RowKit Go.Mem Go.Sheet
/-- Cmp on fractions' texts: its sign -/
def CmpOk : Prop := ∀ (w : World) (p q p' q' : Int), (-6000000000 ≤ p ∧ p ≤ 6000000000) → (1 ≤ q ∧ q ≤ 6) → (-6000000000 ≤ p' ∧ p' ≤ 6000000000) → (1 ≤ q' ∧ q' ≤ 6) →
  Calls Tryz.prog 26 #[.string (tB (txtL p q)), .string (tB (txtL p' q'))] w fun e w' => (∃ z : Int, e = .returned (.int .i64 z) ∧ (0 < z ↔ p' * q < p * q')) ∧ Below w.heap.size w w'
end Go.Proofs.YtlffgdmljioaoaaGreatDoor
/- Walk of the reference's Holes. -/
namespace Go.Sheet
end Go.Sheet
namespace Go.Proofs.YtlffgdmljioaoaaGreatDoor
open Go.RowKit Go.Mem Go.Sheet
end Go.Proofs.YtlffgdmljioaoaaGreatDoor
/- Walks of the reference: ShortPace, CheckPace. -/
namespace Go.Sheet
end Go.Sheet
namespace Go.Proofs.YtlffgdmljioaoaaGreatDoor
open Go.RowKit Go.Mem Go.Sheet
end Go.Proofs.YtlffgdmljioaoaaGreatDoor
/- Walks: what the law's package builds and compares: slots, requests, SameTable. -/
namespace Go.Sheet
def slots0 : List Slot := [⟨480, 1, 1⟩, ⟨490, 1, 1⟩]
def ws0 : List Wish := [⟨0, 5⟩, ⟨1, 3⟩]
def ws1 : List Wish := [⟨0, 4⟩]
def ws2 : List Wish := [⟨1, 1⟩]
def reqs0 (v0 v1 v2 : Value) : List Value :=
  [.string ⟨#[97, 110, 110]⟩, .bool false, v0, .string ⟨#[98, 101, 110]⟩, .bool false, v1, .string ⟨#[99, 97, 116]⟩, .bool true, v2]
end Go.Sheet
namespace Go.Proofs.YtlffgdmljioaoaaGreatDoor
open Go.RowKit Go.Mem Go.Sheet
set_option maxRecDepth 100000 in
set_option maxHeartbeats 1000000 in
theorem slots_any (W : World) : Calls Tryz.prog 29 #[] W fun e w' => ∃ g, e = .returned (.slice (some ⟨g, 0, none⟩) 2 2) ∧ St W w' [row 70 3 (.slice (some ⟨g, 0, none⟩) 2 2) 2 (slots0.flatMap Slot.cells)] := by
  have S1 := (St.refl W).row_new (e := 70) (size := 3) (n := 2) #[.int .i64 480, .int .i64 1, .int .i64 1, .int .i64 490, .int .i64 1, .int .i64 1] (by unfold maxLen; omega) rfl
  have HS1 := Lib.hid S1
  clear S1
  go_enter Tryz.func29, Tryz.ntmps29
  go_wp2_with fail
  go_ret
  exact ⟨_, rfl, HS1.out⟩
set_option maxRecDepth 100000 in
set_option maxHeartbeats 1000000 in
theorem requests_any (W : World) : Calls Tryz.prog 30 #[] W fun e w' => ∃ g g0 g1 g2, e = .returned (.slice (some ⟨g, 0, none⟩) 3 3) ∧
    St W w' [row 122 2 (.slice (some ⟨g0, 0, none⟩) 2 2) 2 (ws0.flatMap Wish.cells), row 122 2 (.slice (some ⟨g1, 0, none⟩) 1 1) 1 (ws1.flatMap Wish.cells), row 122 2 (.slice (some ⟨g2, 0, none⟩) 1 1) 1 (ws2.flatMap Wish.cells),
      row 73 3 (.slice (some ⟨g, 0, none⟩) 3 3) 3 (reqs0 (.slice (some ⟨g0, 0, none⟩) 2 2) (.slice (some ⟨g1, 0, none⟩) 1 1) (.slice (some ⟨g2, 0, none⟩) 1 1))] := by
  have S1 := (St.refl W).row_new (e := 122) (size := 2) (n := 2) #[.int .i64 0, .int .i64 5, .int .i64 1, .int .i64 3] (by unfold maxLen; omega) rfl
  have S2 := S1.row_new (e := 122) (size := 2) (n := 1) #[.int .i64 0, .int .i64 4] (by unfold maxLen; omega) rfl
  have S3 := S2.row_new (e := 122) (size := 2) (n := 1) #[.int .i64 1, .int .i64 1] (by unfold maxLen; omega) rfl
  have S4 := S3.row_new (e := 73) (size := 3) (n := 3) #[.string ⟨#[97, 110, 110]⟩, .bool false, .slice (some ⟨W.heap.size, 0, none⟩) 2 2, .string ⟨#[98, 101, 110]⟩, .bool false, .slice (some ⟨W.heap.size + 1, 0, none⟩) 1 1, .string ⟨#[99, 97, 116]⟩, .bool true, .slice (some ⟨W.heap.size + 1 + 1, 0, none⟩) 1 1] (by unfold maxLen; omega) rfl
  simp only [World.size_alloc, List.nil_append, List.cons_append] at S4
  have HS4 := Lib.hid S4
  clear S1 S2 S3 S4
  go_enter Tryz.func30, Tryz.ntmps30
  go_wp2_with fail
  go_ret
  exact ⟨W.heap.size + 1 + 1 + 1, W.heap.size, W.heap.size + 1, W.heap.size + 1 + 1, rfl, HS4.out⟩
set_option maxRecDepth 100000 in
set_option maxHeartbeats 1000000 in
theorem sameTable_any (w : World) (F F' : Nat → Prop) (va vb : Value) (a b : IMat) (ha : RdRows w F va a) (hb : RdRows w F' vb b) :
    Calls Tryz.prog 23 #[va, vb] w fun r w' => r = .returned (.bool (decide (a = b))) ∧ ∃ q, w' = w.drewN q := by
  obtain ⟨vs, a1, a2⟩ := ha
  obtain ⟨us, b1, b2⟩ := hb
  generalize HL : a.length = n at *
  generalize HM : b.length = m at *
  have hn := a1.le
  have hm := b1.le
  obtain ⟨A, c, rfl, _, _, a1⟩ := a1.open_
  obtain ⟨A', c', rfl, _, _, b1⟩ := b1.open_
  have HL := Lib.hid HL
  have HM := Lib.hid HM
  have HA2 : Hid (∀ (i : Nat) (x : Value) (r : List Int), vs[i]? = some x → a[i]? = some r → Rd w F 1 x r.length (ints r)) := a2
  have HB2 : Hid (∀ (i : Nat) (x : Value) (r : List Int), us[i]? = some x → b[i]? = some r → Rd w F' 1 x r.length (ints r)) := b2
  clear a2 b2
  go_enter Tryz.func23, Tryz.ntmps23
  by_cases hnm : n = m
  · subst hnm
    go_wp2
    go_loopw [5] (fun i w' => ∃ (k q : Nat), k ≤ n ∧ i = .int .i64 k ∧ w' = w.drewN q ∧ Hid (∀ j, j < k → a[j]? = b[j]?)) (fun i _ => n - (intOf i).toNat)
    case atStart => exact ⟨0, 0, Nat.zero_le _, rfl, rfl, fun j hj => by omega⟩
    case round =>
      obtain ⟨k, q, hk, rfl, hwr, he⟩ := hrel
      by_cases hlt : k < n
      · obtain ⟨b1', o, x, rfl, hx, hc⟩ := a1.val hlt
        obtain ⟨b2', o2, y, rfl, hy, hd⟩ := b1.val hlt
        have hka : k < a.length := by rw [HL.out]; exact hlt
        have hkb : k < b.length := by rw [HM.out]; exact hlt
        have hra : a[k]? = some a[k] := List.getElem?_eq_getElem hka
        have hrb : b[k]? = some b[k] := List.getElem?_eq_getElem hkb
        have hx' := HA2.out k x _ hx hra
        have hy' := HB2.out k y _ hy hrb
        generalize a[k] = ra at *
        generalize b[k] = rb at *
        have HC := Lib.hid (fun q => sameInts_any (w.drewN q) _ _ x y ra rb (hx'.now.later (below_drewN (Below.refl _ _) q)) (hy'.now.later (below_drewN (Below.refl _ _) q)))
        have hwk : ∃ q, wr = w.drewN q := ⟨q, hwr⟩
        clear hwr
        go_wp2_with fail
        refine wp_cls 9 (fun w' => ∃ q, w' = w.drewN q) (by kernel_rfl) (by kernel_rfl) (by obtain ⟨q, h⟩ := hwk; exact ⟨q + 1, by rw [h]; rfl⟩) ?_
        simp only [List.take_succ_cons, List.take_zero, List.drop_succ_cons, List.drop_zero]
        generalize hK : (fun w' => ∃ q, w' = w.drewN q) = K
        intro hne
        have kw : ∀ z : Wd K, ∃ q, z.w = w.drewN q := by subst hK; exact fun z => z.h
        have hK2 : ∀ z, (∃ q, z = w.drewN q) → K z := by subst hK; exact fun z h => h
        have y1 : ∀ z : Wd K, z.w.cell? ⟨b1', o + k, none⟩ = some x := fun z => by obtain ⟨q, e⟩ := kw z; rw [e]; exact hc
        have y2 : ∀ z : Wd K, z.w.cell? ⟨b2', o2 + k, none⟩ = some y := fun z => by obtain ⟨q, e⟩ := kw z; rw [e]; exact hd
        have HC2 : Hid (∀ z : Wd K, Calls Tryz.prog 24 #[x, y] z.w fun e w' => e = .returned (.bool (decide (ra = rb))) ∧ ∃ u : Wd K, w' = u.w) := fun z => by
          obtain ⟨q, e⟩ := kw z
          rw [e]
          refine (HC.out q).mono ?_
          rintro e w' ⟨h1, q', rfl⟩
          exact ⟨h1, ⟨⟨_, hK2 _ ⟨q + q', World.drewN_drewN _ _ _⟩⟩, rfl⟩⟩
        clear hK hK2 HC hwk
        have HRA := Lib.hid hra
        have HRB := Lib.hid hrb
        clear hx' hy' hra hrb hx hy
        generalize hdd : decide (ra = rb) = d at *
        have HDD := Lib.hid hdd
        clear hdd
        repeat (go_big_quiet_step ((go_at_call 24; exact HC2.out _)))
        refine wpQuiet_nil ?_
        intro z
        have hq := kw z
        clear kw y1 y2 hne HC2
        generalize z.w = wz at *
        cases d with
        | false =>
          go_wp2
          go_ret
          obtain ⟨q, rfl⟩ := hq
          exact ⟨ret_bool (by
            rw [eq_comm, decide_eq_false_iff_not]
            rintro rfl
            have := HDD.out
            rw [Option.some.inj (HRA.out.symm.trans HRB.out)] at this
            simp at this), q, rfl⟩
        | true =>
          go_wp2
          go_roundw
          case rel =>
            obtain ⟨q, rfl⟩ := hq
            exact ⟨k + 1, q, by omega, by go_num, rfl, fun j hj => by
              by_cases e : j = k
              · subst e; rw [HRA.out, HRB.out, show ra = rb by simpa using HDD.out]
              · exact he.out j (by omega)⟩
          case measure => simp [intOf]; omega
      · obtain rfl : k = n := by omega
        have hkb : decide ((k : Int) < k) = false := by simp
        subst hwr
        go_wp2
        go_ret
        exact ⟨ret_bool (by
          rw [eq_comm, decide_eq_true_iff]
          refine List.ext_getElem? fun j => ?_
          by_cases hj : j < k
          · exact he.out j hj
          · rw [List.getElem?_eq_none (by have := HL.out; omega), List.getElem?_eq_none (by have := HM.out; omega)]), q, rfl⟩
  · have hne : ((n : Int) != (m : Int)) = true := by simp; omega
    have HNE := Lib.hid hnm
    clear hnm
    go_wp2
    go_ret
    exact ⟨ret_bool (by
      rw [eq_comm, decide_eq_false_iff_not]
      rintro rfl
      exact HNE.out (HL.out.symm.trans HM.out)), 0, rfl⟩
end Go.Proofs.YtlffgdmljioaoaaGreatDoor
/- Walk of the law's package: table. -/
namespace Go.Sheet
end Go.Sheet
namespace Go.Proofs.YtlffgdmljioaoaaGreatDoor
open Go.RowKit Go.Mem Go.Sheet
end Go.Proofs.YtlffgdmljioaoaaGreatDoor
