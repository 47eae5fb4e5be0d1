/- Part 12 of the walks of the golf union's program: Enc. -/
import Derived.Test.YtlffgdmljioaoaaGreatDoorD04
import Derived.Test.YtlffgdmljioaoaaGreatDoorD10
import Derived.RangeFuncOwn
set_option linter.unusedVariables false
set_option linter.unusedSimpArgs false
set_option linter.unusedSectionVars false
set_option linter.constructorNameAsVariable false
/- The matching as it lies in memory; a measure that is the least fuel; blocks in another order. -/
namespace Go.Mem
open Go.RowKit
theorem Sep.perm {L L' : List Asr} (h : L.Perm L') : ∀ {w : World} {F : Nat → Prop}, Sep L w F → Sep L' w F := by
  induction h with
  | nil => intros; trivial
  | cons A _ ih => rintro w F ⟨F1, h1, h2, h3⟩; exact ⟨F1, h1, h2, ih h3⟩
  | swap A B L =>
    rintro w F ⟨F1, h1, h2, F2, g1, g2, g3⟩
    exact ⟨F2, fun b hb => (g1 b hb).1, g2, F1, fun b hb => ⟨h1 b hb, fun h => (g1 b h).2 hb⟩, h2, g3.mono fun b ⟨⟨a, c⟩, d⟩ => ⟨⟨a, d⟩, c⟩⟩
  | trans _ _ ih1 ih2 => intro w F h; exact ih2 (ih1 h)
theorem St.perm {W w : World} {L L' : List Asr} (h : St W w L) (hp : L.Perm L') : St W w L' := ⟨h.1, Sep.perm hp h.2⟩
/-- a new block, laid second: behind the head -/
theorem St.blk_new2 {W w : World} {A : Asr} {L : List Asr} (h : St W w (A :: L)) (cs : Array Value) (t : TypeId) : St W (w.alloc (.cells cs t)) (A :: blk w.heap.size t cs :: L) :=
  (h.blk_new cs t).perm (.cons _ List.perm_append_comm)
theorem mu_ex {R : Nat → Prop} (h : ∃ n, R n) : ∃ n, R n ∧ ∀ m, R m → n ≤ m := by
  obtain ⟨n, hn⟩ := h
  induction n using Nat.strongRecOn with
  | ind n ih =>
    by_cases hc : ∃ m, R m ∧ m < n
    · obtain ⟨m, h1, h2⟩ := hc
      exact ih m h2 h1
    · exact ⟨n, hn, fun m hm => by
        rcases Nat.lt_or_ge m n with h | h
        · exact absurd ⟨m, hm, h⟩ hc
        · exact h⟩
/-- a choice of the least number of which R holds -/
def Least (mu : (Nat → Prop) → Nat) : Prop := ∀ R : Nat → Prop, (∃ n, R n) → R (mu R) ∧ ∀ m, R m → mu R ≤ m
theorem least : ∃ mu, Least mu := ⟨fun R => Classical.epsilon fun n => R n ∧ ∀ m, R m → n ≤ m, fun _ h => Classical.epsilon_spec (mu_ex h)⟩
theorem Least.lt {mu : (Nat → Prop) → Nat} (hm : Least mu) {R R' : Nat → Prop} {m : Nat} (h : R' m) (hlt : m < mu R) : mu R' < mu R := Nat.lt_of_le_of_lt ((hm R' ⟨m, h⟩).2 m h) hlt
end Go.Mem
namespace Go.Sheet
def intsV (l : List Int) : List Value := l.map (Value.int .i64)
def natsV (l : List Nat) : List Value := l.map fun k : Nat => Value.int .i64 k
def boolsV (l : List Bool) : List Value := l.map Value.bool
theorem intsV_at (l : List Int) (k : Nat) (h : k < l.length) : (intsV l)[k]? = some (.int .i64 (l.getD k 0)) := by
  rw [intsV, List.getElem?_map, List.getD_eq_getElem?_getD, List.getElem?_eq_getElem h]; rfl
theorem natsV_at (l : List Nat) (k : Nat) (h : k < l.length) : (natsV l)[k]? = some (.int .i64 (l.getD k 0 : Nat)) := by
  rw [natsV, List.getElem?_map, List.getD_eq_getElem?_getD, List.getElem?_eq_getElem h]; rfl
theorem boolsV_at (l : List Bool) (k : Nat) (h : k < l.length) : (boolsV l)[k]? = some (.bool (l.getD k false)) := by
  rw [boolsV, List.getElem?_map, List.getD_eq_getElem?_getD, List.getElem?_eq_getElem h]; rfl
theorem intsV_set (l : List Int) (k : Nat) (x : Int) : (intsV l).set k (.int .i64 x) = intsV (l.set k x) := by rw [intsV, intsV, List.map_set]
theorem natsV_set (l : List Nat) (k : Nat) (x : Nat) : (natsV l).set k (.int .i64 (x : Int)) = natsV (l.set k x) := by rw [natsV, natsV, List.map_set]
theorem boolsV_set (l : List Bool) (k : Nat) (x : Bool) : (boolsV l).set k (.bool x) = boolsV (l.set k x) := by rw [boolsV, boolsV, List.map_set]
def wL (f : Nat → Nat → Int) : List Value := (List.range 5450).map (fun x => Value.int .i64 (f (x / 218) (x % 218)))
def sL (f : Nat → Int) : List Value := (List.range 218).map (fun k => Value.int .i64 (f k))
theorem wL_len (f : Nat → Nat → Int) : (wL f).length = 5450 := by rw [wL, List.length_map, List.length_range]
theorem sL_len (f : Nat → Int) : (sL f).length = 218 := by rw [sL, List.length_map, List.length_range]
def cellsM (M : Mt) : List Value := wL M.worth ++ (sL M.slot ++ ([Value.int .i64 M.rows, Value.int .i64 M.n] ++ (intsV M.row ++ (intsV M.col ++ natsV M.taken))))
theorem app_at {α : Type} {a b : List α} {n : Nat} (h : a.length = n) (k : Nat) : (a ++ b)[n + k]? = b[k]? := by
  rw [List.getElem?_append_right (by omega), h, Nat.add_sub_cancel_left]
theorem app_set {α : Type} {a b : List α} {n : Nat} (h : a.length = n) (k : Nat) (x : α) : (a ++ b).set (n + k) x = a ++ b.set k x := by
  rw [List.set_append_right _ _ (by omega), h, Nat.add_sub_cancel_left]
section
variable (M : Mt)
theorem cM_worth {r k : Nat} (hr : r < 25) (hk : k < 218) : (cellsM M)[r * 218 + k]? = some (.int .i64 (M.worth r k)) := by
  rw [cellsM, List.getElem?_append_left (by rw [wL_len]; omega), wL, List.getElem?_map, List.getElem?_range (by omega)]
  have e1 : (r * 218 + k) / 218 = r := by omega
  have e2 : (r * 218 + k) % 218 = k := by omega
  simp only [Option.map_some, e1, e2]
theorem cM_slot {k : Nat} (hk : k < 218) : (cellsM M)[5450 + k]? = some (.int .i64 (M.slot k)) := by
  rw [cellsM, app_at (wL_len _), List.getElem?_append_left (by rw [sL_len]; exact hk), sL, List.getElem?_map, List.getElem?_range hk]
  rfl
theorem cM_tail (k : Nat) : (cellsM M)[5668 + k]? = ([Value.int .i64 M.rows, Value.int .i64 M.n] ++ (intsV M.row ++ (intsV M.col ++ natsV M.taken)))[k]? := by
  rw [cellsM, show 5668 + k = 5450 + (218 + k) by omega, app_at (wL_len _), app_at (sL_len _)]
theorem cM_rows : (cellsM M)[5668]? = some (.int .i64 M.rows) := by rw [show 5668 = 5668 + 0 by rfl, cM_tail]; rfl
theorem cM_n : (cellsM M)[5669]? = some (.int .i64 M.n) := by rw [show 5669 = 5668 + 1 by rfl, cM_tail]; rfl
variable {M} (L : MLens M)
include L
theorem cM_row {j : Nat} (h : j < 25) : (cellsM M)[5670 + j]? = some (.int .i64 (M.row.getD j 0)) := by
  rw [show 5670 + j = 5668 + (2 + j) by omega, cM_tail, app_at (n := 2) rfl, List.getElem?_append_left (by rw [intsV, List.length_map, L.row]; exact h), intsV_at _ _ (by rw [L.row]; exact h)]
theorem cM_col {k : Nat} (h : k < 218) : (cellsM M)[5695 + k]? = some (.int .i64 (M.col.getD k 0)) := by
  rw [show 5695 + k = 5668 + (2 + (25 + k)) by omega, cM_tail, app_at (n := 2) rfl, app_at (by rw [intsV, List.length_map, L.row]), List.getElem?_append_left (by rw [intsV, List.length_map, L.col]; exact h), intsV_at _ _ (by rw [L.col]; exact h)]
theorem cM_taken {k : Nat} (h : k < 218) : (cellsM M)[5913 + k]? = some (.int .i64 (M.taken.getD k 0 : Nat)) := by
  rw [show 5913 + k = 5668 + (2 + (25 + (218 + k))) by omega, cM_tail, app_at (n := 2) rfl, app_at (by rw [intsV, List.length_map, L.row]), app_at (by rw [intsV, List.length_map, L.col]), natsV_at _ _ (by rw [L.taken]; exact h)]
omit L in
theorem cM_tailset (k : Nat) (x : Value) : (cellsM M).set (5668 + k) x = wL M.worth ++ (sL M.slot ++ ([Value.int .i64 M.rows, Value.int .i64 M.n] ++ (intsV M.row ++ (intsV M.col ++ natsV M.taken))).set k x) := by
  rw [cellsM, show 5668 + k = 5450 + (218 + k) by omega, app_set (wL_len _), app_set (sL_len _)]
theorem sM_row {j : Nat} (h : j < 25) (x : Int) : (cellsM M).set (5670 + j) (.int .i64 x) = cellsM { M with row := M.row.set j x } := by
  rw [show 5670 + j = 5668 + (2 + j) by omega, cM_tailset, app_set (n := 2) rfl, List.set_append_left _ _ (by rw [intsV, List.length_map, L.row]; exact h), intsV_set]
  rfl
theorem sM_col {k : Nat} (h : k < 218) (x : Int) : (cellsM M).set (5695 + k) (.int .i64 x) = cellsM { M with col := M.col.set k x } := by
  rw [show 5695 + k = 5668 + (2 + (25 + k)) by omega, cM_tailset, app_set (n := 2) rfl, app_set (by rw [intsV, List.length_map, L.row]), List.set_append_left _ _ (by rw [intsV, List.length_map, L.col]; exact h), intsV_set]
  rfl
theorem sM_taken (k : Nat) (x : Nat) : (cellsM M).set (5913 + k) (.int .i64 (x : Int)) = cellsM { M with taken := M.taken.set k x } := by
  rw [show 5913 + k = 5668 + (2 + (25 + (218 + k))) by omega, cM_tailset, app_set (n := 2) rfl, app_set (by rw [intsV, List.length_map, L.row]), app_set (by rw [intsV, List.length_map, L.col]), natsV_set]
  rfl
omit L in
theorem sM_n (x : Nat) : (cellsM M).set 5669 (.int .i64 (x : Int)) = cellsM { M with n := x } := by
  rw [show 5669 = 5668 + 1 by rfl, cM_tailset]
  rfl
omit L in
theorem map_range_set {α : Type} (f : Nat → α) (n k : Nat) (x : α) : ((List.range n).map f).set k x = (List.range n).map (fun j => if j = k then x else f j) := by
  apply List.ext_getElem?
  intro j
  rw [List.getElem?_set]
  by_cases e : k = j
  · subst e
    by_cases h : k < n
    · simp [h]
    · simp [h]
  · rw [if_neg e, List.getElem?_map, List.getElem?_map]
    by_cases h : j < n
    · rw [List.getElem?_range h]; simp [Ne.symm e]
    · rw [List.getElem?_eq_none (by simpa using h)]; rfl
omit L in
theorem sL_set (f : Nat → Int) (k : Nat) (x : Int) : (sL f).set k (.int .i64 x) = sL (fun j => if j = k then x else f j) := by
  rw [sL, map_range_set, sL]
  congr 1
  funext j
  split <;> rfl
omit L in
theorem wL_set (f : Nat → Nat → Int) {r k : Nat} (hk : k < 218) (x : Int) : (wL f).set (r * 218 + k) (.int .i64 x) = wL (fun a b => if a = r ∧ b = k then x else f a b) := by
  rw [wL, map_range_set, wL]
  congr 1
  funext j
  have e : (j = r * 218 + k) ↔ (j / 218 = r ∧ j % 218 = k) := by omega
  by_cases h : j = r * 218 + k
  · rw [if_pos h, if_pos (e.1 h)]
  · rw [if_neg h, if_neg (fun h' => h (e.2 h'))]
omit L in
theorem sM_slot {k : Nat} (h : k < 218) (x : Int) : (cellsM M).set (5450 + k) (.int .i64 x) = cellsM { M with slot := fun j => if j = k then x else M.slot j } := by
  rw [cellsM, app_set (wL_len _), List.set_append_left _ _ (by rw [sL_len]; exact h), sL_set]
  rfl
omit L in
theorem sM_worth {r k : Nat} (hr : r < 25) (hk : k < 218) (x : Int) : (cellsM M).set (r * 218 + k) (.int .i64 x) = cellsM { M with worth := fun a b => if a = r ∧ b = k then x else M.worth a b } := by
  rw [cellsM, List.set_append_left _ _ (by rw [wL_len]; omega), wL_set _ hk]
  rfl
end
end Go.Sheet
namespace Go.Mem
open Go.RowKit
/-- St, the blocks all ahead of B -/
structure StB (W : World) (B : Nat) (w : World) (L : List Asr) : Prop where
  bel : Below W.heap.size W w
  lo : W.heap.size ≤ B
  hi : B ≤ w.heap.size
  sep : Sep L w (fun b => W.heap.size ≤ b ∧ b < B)
section
variable {W w w' : World} {B : Nat} {L : List Asr}
theorem St.toB (h : St W w L) : StB W w.heap.size w L := ⟨h.1, h.size, Nat.le_refl _, h.2⟩
theorem StB.st (h : StB W B w L) : St W w L := ⟨h.bel, h.sep.mono fun b hb => ⟨hb.1, by have := h.hi; omega⟩⟩
theorem StB.ext (h : StB W B w L) (e : Below w.heap.size w w') : StB W B w' L :=
  ⟨h.bel.trans (e.mono h.bel.size), h.lo, Nat.le_trans h.hi e.size, Sep.loc h.sep e.size fun b hb => e.block b (by have := h.hi; omega)⟩
theorem StB.drew (h : StB W B w L) : StB W B w.drew L := ⟨h.bel.drew, h.lo, h.hi, Sep.loc (w' := w.drew) h.sep (Nat.le_refl _) fun _ _ => rfl⟩
theorem StB.turn {row : Option Nat} (h : StB W B w L) (hg : w.grownBy w' row) (hr : ∀ r, row = some r → B ≤ r) : StB W B w' L :=
  ⟨h.bel.grown hg h.bel.size (fun k e => by have := hr k e; have := h.lo; omega), h.lo, Nat.le_trans h.hi hg.size,
    Sep.loc h.sep hg.size fun b hb => hg.block b (by have := h.hi; omega) fun e => by have := hr b e.symm; omega⟩
theorem StB.blk_set {i g : Nat} {t : TypeId} {cs : Array Value} (h : StB W B w L) (hi : L[i]? = some (blk g t cs)) (j : Nat) (u : Value) :
    StB W B (w.setCell ⟨g, j, none⟩ u) (L.set i (blk g t (cs.setIfInBounds j u))) := by
  obtain ⟨F1, h1, ⟨h2, hF⟩, h3⟩ := Sep.upd h.sep hi
  have hg := h1 g hF
  refine ⟨h.bel.setCell (p := ⟨g, j, none⟩) hg.1 u, h.lo, by simpa [World.setCell] using h.hi, ?_⟩
  refine (h3 (w.setCell ⟨g, j, none⟩ u) (blk g t (cs.setIfInBounds j u)) F1 ⟨heap_setCell_same w g j cs t u h2, hF⟩ (by simp [World.setCell]) (fun b hb => .inl hb) (fun b _ hn => Below.heap_setCell _ _ _ _ (fun e => hn (by subst e; exact hF)))).mono ?_
  rintro b (hb | hb)
  · exact hb
  · exact h1 b hb
/-- a block that is no cells -/
def obj (g : Nat) (o : Obj) : Asr where
  holds w F := w.heap[g]? = some o ∧ F g
  loc := fun ⟨h, hF⟩ _ hk => ⟨(hk g hF).trans h, hF⟩
  mono := fun ⟨h, hF⟩ hh => ⟨h, hh _ hF⟩
theorem StB.push_obj {D : Nat} {o : Obj} (h : StB W B w L) (hD : B ≤ D) (hK : w.heap[D]? = some o) : St W w (L ++ [obj D o]) := by
  have hlt : D < w.heap.size := (Array.getElem?_eq_some_iff.1 hK).1
  refine ⟨h.bel, (h.sep.append (L' := [obj D o]) (F' := fun b => b = D) ⟨fun b => b = D, fun _ h => h, ⟨hK, rfl⟩, trivial⟩ fun b hb hb' => by omega).mono ?_⟩
  have := h.lo
  rintro b (hb | hb) <;> omega
theorem St.obj_at {D i : Nat} {o : Obj} (h : St W w L) (hi : L[i]? = some (obj D o)) : w.heap[D]? = some o := let ⟨_, _, h2, _⟩ := h.get hi; h2
theorem St.obj_set {D i : Nat} {o : Obj} (h : St W w L) (hi : L[i]? = some (obj D o)) (o' : Obj) : St W (w.putObj D o') (L.set i (obj D o')) := by
  obtain ⟨F1, h1, ⟨h2, hF⟩, h3⟩ := h.upd hi
  have hlt : D < w.heap.size := (Array.getElem?_eq_some_iff.1 h2).1
  exact h3 _ _ F1 (some D) ⟨World.putObj_heap_same hlt, hF⟩ (grownBy_putObj' w D o') (fun k hk => by cases hk; exact hF) (fun b hb => .inl hb)
end
end Go.Mem
