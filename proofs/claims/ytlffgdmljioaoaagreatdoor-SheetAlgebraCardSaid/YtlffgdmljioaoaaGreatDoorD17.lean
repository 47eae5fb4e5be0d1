/- Part 17 of the walks of the golf union's program: TailA. -/
import Derived.Test.YtlffgdmljioaoaaGreatDoorD07
import Derived.Test.YtlffgdmljioaoaaGreatDoorD04
import Derived.Test.YtlffgdmljioaoaaGreatDoorD12
set_option linter.unusedVariables false
set_option linter.unusedSimpArgs false
set_option linter.unusedSectionVars false
set_option linter.constructorNameAsVariable false
/- A drawn region that ends in several appends to several lists (x, y = append(x, u), append(y, v)): each a buildSlice and an append, in whatever order they come. -/
namespace Go.Mem
open Go Go.RowKit
variable {P : Program} {ops : Array Oper} {Q : Exit → Act → World → Prop}
/-- a limb that says nothing -/
def emp : Asr where
  holds _ _ := True
  loc := fun _ _ _ => trivial
  mono := fun _ _ => trivial
theorem St.push_emp {W w : World} {L : List Asr} (h : St W w L) : St W w (L ++ [emp]) :=
  h.push (F := fun _ => False) (Below.refl _ _) trivial (fun _ h => h.elim)
theorem St.fill {W w : World} {L : List Asr} {i : Nat} (h : St W w L) (hi : L[i]? = some emp) (cs : Array Value) (t : TypeId) : St W (w.alloc (.cells cs t)) (L.set i (blk w.heap.size t cs)) := by
  obtain ⟨F1, _, _, h3⟩ := h.upd hi
  exact h3 _ _ (fun b => b = w.heap.size) none ⟨heap_alloc_new w _, rfl⟩ (World.grownBy_alloc w _ none) (fun g hg => by cases hg) (fun b hb => .inr (by subst hb; simp))
/-- one chain: the build's place, the append's place, the element's slot, the build's, the list's, the append's -/
structure Chn where
  ib : Nat
  ia : Nat
  x : Nat
  d : Nat
  s : Nat
  e : Nat
/-- what is appended to what -/
structure Cdt where
  u : Value
  v : Value
  n : Nat
  l : List Value
def sl1 (g : Nat) : Value := .slice (some ⟨g, 0, none⟩) 1 1
structure ChnOk (P : Program) (ops : Array Oper) (t e : TypeId) (c : Chn) : Prop where
  b : ∃ o, ops[c.ib]? = some o ∧ o.guard = none ∧ o.dst = some c.d ∧ o.op = .buildSlice t 1 #[(0, .tmp c.x)]
  a : ∃ o, ops[c.ia]? = some o ∧ o.guard = none ∧ o.dst = some c.e ∧ o.op = .call { callee := .builtin .append, args := #[.tmp c.s, .tmp c.d], argTypes := #[t, t] }
theorem run_build1 {t e : TypeId} {z : Value} {bytes : Nat} (hE : Elt P t e z 1 bytes) (u : Value) (hu : u.oneCell' = true) (w : World) :
    (Instr.buildSlice t 1 #[(0, u)]).run P w = .ok (sl1 w.heap.size) (w.alloc (.cells #[u] e)) := by
  obtain ⟨ht, hinfo, hzs, hsz⟩ := hE
  obtain ⟨i, hi, hz, hsize, hby⟩ := info_parts hinfo
  cases u
  case agg => simp [Value.oneCell'] at hu
  all_goals simp [Instr.buildSlice, run_underlying ht, sizeOf, typeInfo, hi, hsize, zeroValue, hz, Instr.fill, newRow, sl1, go_sem]
section
variable (chs : List Chn) (ls0 : Array Bool)
def lsOf (σ : List Nat) : Array Bool :=
  ls0.mapIdx fun p b => b || (chs.zip σ).any fun q => (decide (1 ≤ q.2) && p == q.1.ib) || (decide (2 ≤ q.2) && p == q.1.ia)
def dstsOf : List Nat := chs.flatMap fun c => [c.d, c.e]
/-- what may come up in a state -/
def mayB (n : Nat) (σ : List Nat) (i : Nat) : Bool :=
  decide (i < n) && (chs.zip σ).any fun q => (q.2 == 0 && i == q.1.ib) || (q.2 == 1 && i == q.1.ia)
/-- all states of n chains -/
def states : Nat → List (List Nat)
  | 0 => [[]]
  | k + 1 => (states k).flatMap fun σ => [0 :: σ, 1 :: σ, 2 :: σ]
def remOf (σ : List Nat) : Nat := (σ.map fun s => 2 - s).foldr (· + ·) 0
def chainsB (ops : Array Oper) (n : Nat) : Bool :=
  decide (dstsOf chs).Nodup && (chs.all fun c => !(dstsOf chs).contains c.x && !(dstsOf chs).contains c.s) &&
  (states chs.length).all fun σ => if remOf σ = 0 then Region.seqB .any ops (ops.size - n) n (lsOf chs ls0 σ)
    else decide (Region.ready .any ops (lsOf chs ls0 σ) ≠ []) && (Region.ready .any ops (lsOf chs ls0 σ)).all (mayB chs n σ)
end
theorem mem_states : ∀ (n : Nat) (σ : List Nat), σ.length = n → (∀ s ∈ σ, s ≤ 2) → σ ∈ states n
  | 0, σ, h, _ => by have := List.eq_nil_of_length_eq_zero h; subst this; simp [states]
  | n + 1, [], h, _ => by simp at h
  | n + 1, s :: σ, h, hs => by
    have h1 := mem_states n σ (by simpa using h) fun x hx => hs x (List.mem_cons_of_mem _ hx)
    have h2 := hs s (List.mem_cons_self ..)
    rw [states, List.mem_flatMap]
    refine ⟨σ, h1, ?_⟩
    match s, h2 with
    | 0, _ => simp
    | 1, _ => simp
    | 2, _ => simp
theorem zip_any {chs : List Chn} {σ : List Nat} {f : Chn × Nat → Bool} : (chs.zip σ).any f = true ↔ ∃ (j : Nat) (c : Chn) (s : Nat), chs[j]? = some c ∧ σ[j]? = some s ∧ f (c, s) = true := by
  rw [List.any_eq_true]
  constructor
  · rintro ⟨q, hq, hf⟩
    obtain ⟨j, hj⟩ := List.getElem?_of_mem hq
    rw [List.getElem?_zip_eq_some] at hj
    exact ⟨j, q.1, q.2, hj.1, hj.2, hf⟩
  · rintro ⟨j, c, s, h1, h2, h3⟩
    exact ⟨(c, s), List.mem_of_getElem? (i := j) (List.getElem?_zip_eq_some.2 ⟨h1, h2⟩), h3⟩
theorem lsOf_set {chs : List Chn} {ls0 : Array Bool} {σ : List Nat} {j s : Nat} {c : Chn} (hc : chs[j]? = some c) (hs : σ[j]? = some s) (h : s ≤ 1) :
    (lsOf chs ls0 σ).setIfInBounds (if s = 0 then c.ib else c.ia) true = lsOf chs ls0 (σ.set j (s + 1)) := by
  have hj : j < σ.length := (List.getElem?_eq_some_iff.1 hs).1
  refine Array.ext (by simp [lsOf]) fun p h1 h2 => ?_
  rw [Array.getElem_setIfInBounds (by simpa using h1)]
  simp only [lsOf, Array.getElem_mapIdx]
  rw [Bool.eq_iff_iff]
  by_cases hp : (if s = 0 then c.ib else c.ia) = p
  · rw [if_pos hp]
    simp only [true_iff, Bool.or_eq_true]
    refine .inr (zip_any.2 ⟨j, c, s + 1, hc, by rw [List.getElem?_set_self hj], ?_⟩)
    rcases Nat.lt_or_ge 0 s with h0 | h0
    · obtain rfl : s = 1 := by omega
      simp at hp
      simp [hp]
    · obtain rfl : s = 0 := by omega
      simp at hp
      simp [hp]
  · rw [if_neg hp]
    simp only [Bool.or_eq_true]
    have key : ∀ (i : Nat) (c' : Chn) (s' : Nat), chs[i]? = some c' → (σ.set j (s + 1))[i]? = some s' → (((decide (1 ≤ s') && p == c'.ib) || (decide (2 ≤ s') && p == c'.ia)) = true) →
        ∃ s'' : Nat, σ[i]? = some s'' ∧ (((decide (1 ≤ s'') && p == c'.ib) || (decide (2 ≤ s'') && p == c'.ia)) = true) := by
      intro i c' s' hi hs' hf
      by_cases e : j = i
      · subst e
        rw [List.getElem?_set_self hj] at hs'
        obtain rfl := Option.some.inj hs'
        obtain rfl := Option.some.inj (hc.symm.trans hi)
        refine ⟨s, hs, ?_⟩
        rcases Nat.lt_or_ge 0 s with h0 | h0
        · obtain rfl : s = 1 := by omega
          simp at hp hf ⊢
          rcases hf with hf | hf
          · exact hf
          · exact absurd hf.symm hp
        · obtain rfl : s = 0 := by omega
          simp at hp hf ⊢
          exact absurd hf.symm hp
      · rw [List.getElem?_set_ne e] at hs'
        exact ⟨s', hs', hf⟩
    constructor
    · rintro (h' | h')
      · exact .inl h'
      · obtain ⟨i, c', s', hi, hs', hf⟩ := zip_any.1 h'
        refine .inr (zip_any.2 ?_)
        by_cases e : j = i
        · subst e
          obtain rfl := Option.some.inj (hc.symm.trans hi)
          obtain rfl := Option.some.inj (hs.symm.trans hs')
          refine ⟨j, c, s + 1, hc, by rw [List.getElem?_set_self hj], ?_⟩
          simp only [Bool.or_eq_true, Bool.and_eq_true, decide_eq_true_eq] at hf ⊢
          rcases hf with ⟨_, hf⟩ | ⟨h2, _⟩
          · exact .inl ⟨by omega, hf⟩
          · omega
        · exact ⟨i, c', s', hi, by rw [List.getElem?_set_ne e]; exact hs', hf⟩
    · rintro (h' | h')
      · exact .inl h'
      · obtain ⟨i, c', s', hi, hs', hf⟩ := zip_any.1 h'
        obtain ⟨s'', h1, h2⟩ := key i c' s' hi hs' hf
        exact .inr (zip_any.2 ⟨i, c', s'', hi, h1, h2⟩)
theorem remOf_set {σ : List Nat} : ∀ {j s : Nat}, σ[j]? = some s → s ≤ 1 → remOf (σ.set j (s + 1)) + 1 = remOf σ := by
  induction σ with
  | nil => intro j s h; simp at h
  | cons x σ ih =>
    intro j s h hs
    cases j with
    | zero =>
      simp at h
      subst h
      simp only [List.set_cons_zero, remOf, List.map_cons, List.foldr_cons]
      omega
    | succ j =>
      simp only [List.getElem?_cons_succ] at h
      have := ih h hs
      simp only [List.set_cons_succ, remOf, List.map_cons, List.foldr_cons] at this ⊢
      omega
theorem remOf_zero {σ : List Nat} (h : remOf σ = 0) (hs : ∀ s ∈ σ, s ≤ 2) : ∀ s ∈ σ, s = 2 := by
  induction σ with
  | nil => intro s hs; cases hs
  | cons x σ ih =>
    simp only [remOf, List.map_cons, List.foldr_cons] at h
    have hx := hs x (List.mem_cons_self ..)
    intro s hs'
    rcases List.mem_cons.1 hs' with rfl | h'
    · omega
    · exact ih (by simp only [remOf]; omega) (fun s h => hs s (List.mem_cons_of_mem _ h)) s h'
theorem set_same {α : Type} {l : List α} {j : Nat} {x : α} (h : l[j]? = some x) : l.set j x = l := by
  refine List.ext_getElem? fun i => ?_
  by_cases e : j = i
  · subst e
    rw [List.getElem?_set_self (List.getElem?_eq_some_iff.1 h).1, h]
  · rw [List.getElem?_set_ne e]
section
variable (E : TypeId)
def rowAt (c : Cdt) (s : Nat) (v : Value) : Asr := if 2 ≤ s then row E 1 v (c.n + 1) (c.l ++ [c.u]) else row E 1 c.v c.n c.l
def blkAt (c : Cdt) (s g : Nat) : Asr := if 1 ≤ s then blk g E #[c.u] else emp
def rowsOf (D : List Cdt) (σ : List Nat) (v : Nat → Value) : List Asr := D.zipIdx.map fun p => rowAt E p.1 (σ.getD p.2 0) (v p.2)
def blksOf (D : List Cdt) (σ : List Nat) (g : Nat → Nat) : List Asr := D.zipIdx.map fun p => blkAt E p.1 (σ.getD p.2 0) (g p.2)
end
def upd {α : Type} (f : Nat → α) (j : Nat) (x : α) : Nat → α := fun i => if i = j then x else f i
section
variable {E : TypeId} {D : List Cdt} {σ : List Nat} {j s : Nat} {c : Cdt}
theorem rowsOf_at {v : Nat → Value} (hc : D[j]? = some c) (hs : σ[j]? = some s) : (rowsOf E D σ v)[j]? = some (rowAt E c s (v j)) := by
  rw [rowsOf, List.getElem?_map, List.getElem?_zipIdx, hc]
  simp [hs]
theorem blksOf_at {g : Nat → Nat} (hc : D[j]? = some c) (hs : σ[j]? = some s) : (blksOf E D σ g)[j]? = some (blkAt E c s (g j)) := by
  rw [blksOf, List.getElem?_map, List.getElem?_zipIdx, hc]
  simp [hs]
theorem rowsOf_set {v : Nat → Value} {v' : Value} {s' : Nat} (hc : D[j]? = some c) (hs : σ[j]? = some s) : (rowsOf E D σ v).set j (rowAt E c s' v') = rowsOf E D (σ.set j s') (upd v j v') := by
  have hj : j < σ.length := (List.getElem?_eq_some_iff.1 hs).1
  have hjd : j < D.length := (List.getElem?_eq_some_iff.1 hc).1
  refine List.ext_getElem? fun i => ?_
  by_cases e : j = i
  · subst e
    rw [List.getElem?_set_self (by simp [rowsOf, hjd]), rowsOf_at hc (by rw [List.getElem?_set_self hj])]
    simp [upd]
  · rw [List.getElem?_set_ne e]
    simp only [rowsOf, List.getElem?_map, List.getElem?_zipIdx, upd]
    cases D[i]? with
    | none => rfl
    | some d => simp [List.getElem?_set_ne e, Ne.symm e]
theorem blksOf_set {g : Nat → Nat} {g' s' : Nat} (hc : D[j]? = some c) (hs : σ[j]? = some s) : (blksOf E D σ g).set j (blkAt E c s' g') = blksOf E D (σ.set j s') (upd g j g') := by
  have hj : j < σ.length := (List.getElem?_eq_some_iff.1 hs).1
  have hjd : j < D.length := (List.getElem?_eq_some_iff.1 hc).1
  refine List.ext_getElem? fun i => ?_
  by_cases e : j = i
  · subst e
    rw [List.getElem?_set_self (by simp [blksOf, hjd]), blksOf_at hc (by rw [List.getElem?_set_self hj])]
    simp [upd]
  · rw [List.getElem?_set_ne e]
    simp only [blksOf, List.getElem?_map, List.getElem?_zipIdx, upd]
    cases D[i]? with
    | none => rfl
    | some d => simp [List.getElem?_set_ne e, Ne.symm e]
theorem rowsOf_keep {v : Nat → Value} {s' : Nat} (hc : D[j]? = some c) (hs : σ[j]? = some s) (h : rowAt E c s' (v j) = rowAt E c s (v j)) : rowsOf E D (σ.set j s') v = rowsOf E D σ v := by
  have h1 := rowsOf_set (E := E) (v := v) (v' := v j) (s' := s') hc hs
  have e : upd v j (v j) = v := by funext i; unfold upd; split <;> simp_all
  rw [e, h, set_same (rowsOf_at hc hs)] at h1
  exact h1.symm
theorem blksOf_keep {g : Nat → Nat} {s' : Nat} (hc : D[j]? = some c) (hs : σ[j]? = some s) (h : blkAt E c s' (g j) = blkAt E c s (g j)) : blksOf E D (σ.set j s') g = blksOf E D σ g := by
  have h1 := blksOf_set (E := E) (g := g) (g' := g j) (s' := s') hc hs
  have e : upd g j (g j) = g := by funext i; unfold upd; split <;> simp_all
  rw [e, h, set_same (blksOf_at hc hs)] at h1
  exact h1.symm
end
/-- what holds in a state -/
structure AInv (E : TypeId) (chs : List Chn) (D : List Cdt) (L0 : List Asr) (W : World) (a0 : Act) (σ : List Nat) (a : Act) (w : World) (g : Nat → Nat) (v : Nat → Value) : Prop where
  st : St W w (rowsOf E D σ v ++ (blksOf E D σ g ++ L0))
  size : a.tmps.size = a0.tmps.size
  defers : a.defers = a0.defers
  old : ∀ q, q ∉ dstsOf chs → a.eval (.tmp q) = a0.eval (.tmp q)
  d : ∀ (j : Nat) (c : Chn) (s : Nat), chs[j]? = some c → σ[j]? = some s → 1 ≤ s → a.eval (.tmp c.d) = sl1 (g j)
  e : ∀ (j : Nat) (c : Chn) (s : Nat), chs[j]? = some c → σ[j]? = some s → 2 ≤ s → a.eval (.tmp c.e) = v j
theorem eval_put_ne {a : Act} {q d : Nat} {u : Value} (h : q ≠ d) : (a.put (some d) u).eval (.tmp q) = a.eval (.tmp q) := by
  simp only [Act.put, Act.eval]
  rw [Array.getD_eq_getD_getElem?, Array.getD_eq_getD_getElem?, Array.getElem?_setIfInBounds_ne (Ne.symm h)]
theorem eval_put_self {a : Act} {d : Nat} {u : Value} (h : d < a.tmps.size) : (a.put (some d) u).eval (.tmp d) = u := by
  simp only [Act.put, Act.eval]
  rw [Array.getD_eq_getD_getElem?, Array.getElem?_setIfInBounds_self_of_lt h]; rfl
theorem put_size {a : Act} {d : Nat} {u : Value} : (a.put (some d) u).tmps.size = a.tmps.size := by simp [Act.put]
theorem put_defers {a : Act} {d : Nat} {u : Value} : (a.put (some d) u).defers = a.defers := by simp [Act.put]
theorem dsts_ne {chs : List Chn} (hn : (dstsOf chs).Nodup) : ∀ {i j : Nat} {c c' : Chn}, chs[i]? = some c → chs[j]? = some c' →
    (i ≠ j → c.d ≠ c'.d ∧ c.e ≠ c'.e) ∧ c.d ≠ c'.e := by
  induction chs with
  | nil => intro i j c c' h; simp at h
  | cons x chs ih =>
    have hx : dstsOf (x :: chs) = x.d :: x.e :: dstsOf chs := rfl
    rw [hx, List.nodup_cons, List.nodup_cons] at hn
    obtain ⟨n1, n2, n3⟩ := hn
    have hmem : ∀ {i : Nat} {c : Chn}, chs[i]? = some c → c.d ∈ dstsOf chs ∧ c.e ∈ dstsOf chs := fun h => by
      have := List.mem_of_getElem? h
      exact ⟨List.mem_flatMap.2 ⟨_, this, by simp⟩, List.mem_flatMap.2 ⟨_, this, by simp⟩⟩
    have n1' : x.d ≠ x.e ∧ x.d ∉ dstsOf chs := by simpa using n1
    intro i j c c' hi hj
    cases i with
    | zero =>
      simp at hi; subst hi
      cases j with
      | zero => simp at hj; subst hj; exact ⟨fun h => absurd rfl h, n1'.1⟩
      | succ j =>
        simp only [List.getElem?_cons_succ] at hj
        obtain ⟨m1, m2⟩ := hmem hj
        exact ⟨fun _ => ⟨fun e => n1'.2 (e ▸ m1), fun e => n2 (e ▸ m2)⟩, fun e => n1'.2 (e ▸ m2)⟩
    | succ i =>
      simp only [List.getElem?_cons_succ] at hi
      obtain ⟨m1, m2⟩ := hmem hi
      cases j with
      | zero =>
        simp at hj; subst hj
        exact ⟨fun _ => ⟨fun e => n1'.2 (e ▸ m1), fun e => n2 (e ▸ m2)⟩, fun e => n2 (e ▸ m1)⟩
      | succ j =>
        simp only [List.getElem?_cons_succ] at hj
        obtain ⟨h1, h2⟩ := ih n3 hi hj
        exact ⟨fun h => h1 (by omega), h2⟩
theorem rd_of_blk {W w : World} {L : List Asr} {i g : Nat} {t : TypeId} {u : Value} (h : St W w L) (hi : L[i]? = some (blk g t #[u])) : Rd w (fun _ => True) 1 (sl1 g) 1 [u] := by
  have c0 : w.cell? ⟨g, 0, none⟩ = some u := h.blk_cell hi 0
  refine ⟨_, 1, rfl, Nat.le_refl _, by unfold maxLen; omega, rfl, (fun h => by cases h), fun _ => ⟨g, 0, rfl, trivial, World.block_lt_of_cell? w _ c0, fun j v hv => ?_⟩⟩
  rw [Nat.zero_add, h.blk_cell hi j]
  simpa using hv
section
variable {K : World → Prop} {n : Nat} {chs : List Chn} {ls0 : Array Bool} {D : List Cdt} {L0 : List Asr} {W : World} {a0 : Act} {t E : TypeId} {z : Value} {bytes : Nat}
/-- what each chain is given -/
def Given (a0 : Act) (bytes : Nat) (c : Chn) (d : Cdt) : Prop :=
  a0.eval (.tmp c.x) = d.u ∧ a0.eval (.tmp c.s) = d.v ∧ d.u.oneCell' = true ∧ (d.n + 1) * bytes ≤ 140737488355328 ∧ d.n + 1 ≤ 140737488355328
theorem headW_chains (hE : Elt P t E z 1 bytes) (hlen : D.length = chs.length) (hB : chainsB chs ls0 ops n = true) (hok : ∀ c ∈ chs, ChnOk P ops t E c) (hsz : ∀ q ∈ dstsOf chs, q < a0.tmps.size)
    (hx : ∀ (j : Nat) (c : Chn) (d : Cdt), chs[j]? = some c → D[j]? = some d → Given a0 bytes c d)
    (hK : ∀ w' σ g v, St W w' (rowsOf E D σ v ++ (blksOf E D σ g ++ L0)) → K w') {L : Array Bool → Act → World → Prop}
    (hL : ∀ (σ : List Nat) a w g v, σ.length = chs.length → (∀ s ∈ σ, s = 2) → Region.seqB .any ops (ops.size - n) n (lsOf chs ls0 σ) = true → AInv E chs D L0 W a0 σ a w g v → L (lsOf chs ls0 σ) a w) :
    ∀ (k : Nat) (σ : List Nat) (a : Act) (w : World) (g : Nat → Nat) (v : Nat → Value), σ.length = chs.length → (∀ s ∈ σ, s ≤ 2) → remOf σ = k → AInv E chs D L0 W a0 σ a w g v → headW P .any ops Q K n L k (lsOf chs ls0 σ) a w := by
  simp only [chainsB, Bool.and_eq_true, decide_eq_true_eq, List.all_eq_true] at hB
  obtain ⟨⟨hnd, hxs⟩, hst⟩ := hB
  intro k
  induction k with
  | zero =>
    intro σ a w g v hl hs hr hI
    have h1 := hst σ (mem_states _ σ hl hs)
    rw [if_pos hr] at h1
    exact hL σ a w g v hl (remOf_zero hr hs) h1 hI
  | succ k ih =>
    intro σ a w g v hl hs hr hI
    have h1 := hst σ (mem_states _ σ hl hs)
    rw [if_neg (by omega)] at h1
    simp only [Bool.and_eq_true, decide_eq_true_eq, List.all_eq_true] at h1
    refine ⟨h1.1, fun i hi => ?_⟩
    have h2 := h1.2 i hi
    simp only [mayB, Bool.and_eq_true, decide_eq_true_eq] at h2
    refine ⟨h2.1, ?_⟩
    obtain ⟨j, c, s, hc, hsj, hf⟩ := zip_any.1 h2.2
    have hj : j < chs.length := (List.getElem?_eq_some_iff.1 hc).1
    obtain ⟨d, hd⟩ : ∃ d, D[j]? = some d := ⟨_, List.getElem?_eq_getElem (by omega)⟩
    obtain ⟨g1, g2, g3, g4, g5⟩ := hx j c d hc hd
    have hcm := List.mem_of_getElem? hc
    have hxc := hxs c hcm
    simp only [Bool.not_eq_true', List.contains_eq_mem, decide_eq_false_iff_not] at hxc
    have hrl : (rowsOf E D σ v).length = chs.length := by simp [rowsOf, hlen]
    have hbl : (blksOf E D σ g).length = chs.length := by simp [blksOf, hlen]
    have hmd : c.d ∈ dstsOf chs ∧ c.e ∈ dstsOf chs := ⟨List.mem_flatMap.2 ⟨c, hcm, by simp⟩, List.mem_flatMap.2 ⟨c, hcm, by simp⟩⟩
    have hsl : (σ.set j (s + 1)).length = chs.length := by simp [hl]
    have hls : lsOf chs ls0 σ = lsOf chs ls0 σ := rfl
    simp only [Bool.or_eq_true, Bool.and_eq_true, beq_iff_eq] at hf
    rcases hf with ⟨rfl, rfl⟩ | ⟨rfl, rfl⟩
    · obtain ⟨o, ho, hgd, hdst, hop⟩ := (hok c hcm).b
      refine wpOp_list ho fun Q' hQ' => wpList_plain hgd fun K' hK' => ?_
      have ex : a.eval (.tmp c.x) = d.u := (hI.old _ hxc.1).trans g1
      unfold Oper.wp execOp
      simp only [hop, List.map_toArray, List.map_cons, List.map_nil, ex, run_build1 hE d.u g3 w, Sem.run_bind, Sem.run_pure, Result.andThen_ok]
      refine hK' _ _ ?_
      have hbi : (rowsOf E D σ v ++ (blksOf E D σ g ++ L0))[chs.length + j]? = some emp := by
        rw [List.getElem?_append_right (by omega), hrl, Nat.add_sub_cancel_left, List.getElem?_append_left (by omega), blksOf_at hd hsj]
        simp [blkAt]
      have S1 := hI.st.fill hbi #[d.u] E
      rw [List.set_append_right _ _ (by omega), hrl, Nat.add_sub_cancel_left, List.set_append_left _ _ (by omega)] at S1
      have e1 : blk w.heap.size E #[d.u] = blkAt E d 1 w.heap.size := rfl
      rw [e1, blksOf_set hd hsj, ← rowsOf_keep (s' := 1) hd hsj (by simp [rowAt])] at S1
      rw [hdst]
      refine hQ' _ _ ⟨hK _ _ _ _ S1, ?_⟩
      have e2 := lsOf_set (ls0 := ls0) hc hsj (by omega)
      rw [if_pos rfl] at e2
      rw [e2]
      have hdlt : c.d < a.tmps.size := by rw [hI.size]; exact hsz _ hmd.1
      refine ih _ _ _ _ _ hsl (fun s hs' => ?_) (by have := remOf_set hsj (by omega); omega) ⟨S1, by rw [put_size, hI.size], by rw [put_defers, hI.defers], fun q hq => ?_, fun i c' s' hi hs' h1 => ?_, fun i c' s' hi hs' h2 => ?_⟩
      · rcases List.mem_or_eq_of_mem_set hs' with h | h
        · exact hs s h
        · omega
      · rw [eval_put_ne (fun (e : q = c.d) => hq (by rw [e]; exact hmd.1)), hI.old q hq]
      · by_cases e : j = i
        · subst e
          obtain rfl := Option.some.inj (hc.symm.trans hi)
          rw [eval_put_self hdlt]
          simp [upd, sl1]
        · rw [List.getElem?_set_ne e] at hs'
          rw [eval_put_ne (((dsts_ne hnd hi hc).1 (Ne.symm e)).1), hI.d i c' s' hi hs' h1]
          simp [upd, Ne.symm e]
      · have e : j ≠ i := by
          rintro rfl
          rw [List.getElem?_set_self (by omega)] at hs'
          cases hs'
          omega
        rw [List.getElem?_set_ne e] at hs'
        rw [eval_put_ne (fun h => (dsts_ne hnd hc hi).2 h.symm), hI.e i c' s' hi hs' h2]
    · obtain ⟨o, ho, hgd, hdst, hop⟩ := (hok c hcm).a
      refine wpOp_list ho fun Q' hQ' => ?_
      have es : a.eval (.tmp c.s) = d.v := (hI.old _ hxc.2).trans g2
      have ed : a.eval (.tmp c.d) = sl1 (g j) := hI.d j c 1 hc hsj (Nat.le_refl _)
      have hri : (rowsOf E D σ v ++ (blksOf E D σ g ++ L0))[j]? = some (row E 1 d.v d.n d.l) := by
        rw [List.getElem?_append_left (by omega), rowsOf_at hd hsj]
        simp [rowAt]
      have hbi : (rowsOf E D σ v ++ (blksOf E D σ g ++ L0))[chs.length + j]? = some (blk (g j) E #[d.u]) := by
        rw [List.getElem?_append_right (by omega), hrl, Nat.add_sub_cancel_left, List.getElem?_append_left (by omega), blksOf_at hd hsj]
        simp [blkAt]
      refine wpList_append_st hE hgd _ _ hop es hI.st hri ed (rd_of_blk hI.st hbi) (by simp [g3]) g4 g5 fun v' w' S1 _ => ?_
      rw [List.set_append_left _ _ (by omega)] at S1
      have e1 : row E 1 v' (d.n + 1) (d.l ++ [d.u]) = rowAt E d 2 v' := by simp [rowAt]
      rw [e1, rowsOf_set hd hsj, ← blksOf_keep (s' := 2) hd hsj (by simp [blkAt])] at S1
      rw [hdst]
      refine hQ' _ _ ⟨hK _ _ _ _ S1, ?_⟩
      have e2 := lsOf_set (ls0 := ls0) hc hsj (by omega)
      rw [if_neg (by omega)] at e2
      rw [e2]
      have hdlt : c.e < a.tmps.size := by rw [hI.size]; exact hsz _ hmd.2
      refine ih _ _ _ _ _ hsl (fun s hs' => ?_) (by have := remOf_set hsj (by omega); omega) ⟨S1, by rw [put_size, hI.size], by rw [put_defers, hI.defers], fun q hq => ?_, fun i c' s' hi hs' h1 => ?_, fun i c' s' hi hs' h2 => ?_⟩
      · rcases List.mem_or_eq_of_mem_set hs' with h | h
        · exact hs s h
        · omega
      · rw [eval_put_ne (fun (e : q = c.e) => hq (by rw [e]; exact hmd.2)), hI.old q hq]
      · rw [eval_put_ne ((dsts_ne hnd hi hc).2)]
        by_cases e : j = i
        · subst e
          exact hI.d j c' 1 hi hsj (Nat.le_refl _)
        · rw [List.getElem?_set_ne e] at hs'
          exact hI.d i c' s' hi hs' h1
      · by_cases e : j = i
        · subst e
          obtain rfl := Option.some.inj (hc.symm.trans hi)
          rw [eval_put_self hdlt]
          simp [upd]
        · rw [List.getElem?_set_ne e] at hs'
          rw [eval_put_ne (((dsts_ne hnd hi hc).1 (Ne.symm e)).2), hI.e i c' s' hi hs' h2]
          simp [upd, Ne.symm e]
/-- the frame behind all chains -/
def putAll (g : Nat → Nat) (v : Nat → Value) : Nat → List Chn → Act → Act
  | _, [], a => a
  | j, c :: chs, a => putAll g v (j + 1) chs ((a.put (some c.d) (sl1 (g j))).put (some c.e) (v j))
theorem putAll_size {g : Nat → Nat} {v : Nat → Value} : ∀ (chs : List Chn) (j : Nat) (a : Act), (putAll g v j chs a).tmps.size = a.tmps.size ∧ (putAll g v j chs a).defers = a.defers
  | [], _, _ => ⟨rfl, rfl⟩
  | c :: chs, j, a => by
    rw [putAll, (putAll_size chs _ _).1, (putAll_size chs _ _).2]
    simp [Act.put]
theorem putAll_old {g : Nat → Nat} {v : Nat → Value} {q : Nat} : ∀ (chs : List Chn) (j : Nat) (a : Act), q ∉ dstsOf chs → (putAll g v j chs a).eval (.tmp q) = a.eval (.tmp q)
  | [], _, _, _ => rfl
  | c :: chs, j, a, h => by
    have hx : dstsOf (c :: chs) = c.d :: c.e :: dstsOf chs := rfl
    rw [hx] at h
    simp only [List.mem_cons, not_or] at h
    rw [putAll, putAll_old chs _ _ h.2.2, eval_put_ne h.2.1, eval_put_ne h.1]
theorem putAll_new {g : Nat → Nat} {v : Nat → Value} {i : Nat} {c : Chn} : ∀ (chs : List Chn) (j : Nat) (a : Act), (dstsOf chs).Nodup → (∀ q ∈ dstsOf chs, q < a.tmps.size) → chs[i]? = some c →
    (putAll g v j chs a).eval (.tmp c.d) = sl1 (g (j + i)) ∧ (putAll g v j chs a).eval (.tmp c.e) = v (j + i)
  | [], _, _, _, _, h => by simp at h
  | x :: chs, j, a, hn, hsz, h => by
    have hx : dstsOf (x :: chs) = x.d :: x.e :: dstsOf chs := rfl
    rw [hx, List.nodup_cons, List.nodup_cons] at hn
    obtain ⟨n1, n2, n3⟩ := hn
    have n1' : x.d ≠ x.e ∧ x.d ∉ dstsOf chs := by simpa using n1
    rw [hx] at hsz
    cases i with
    | zero =>
      simp at h; subst h
      rw [putAll, putAll_old chs _ _ n1'.2, putAll_old chs _ _ n2]
      have h1 : x.d < a.tmps.size := hsz _ (by simp)
      have h2 : x.e < a.tmps.size := hsz _ (by simp)
      rw [eval_put_ne n1'.1, eval_put_self h1, eval_put_self (by rw [put_size]; exact h2)]
      exact ⟨rfl, rfl⟩
    | succ i =>
      simp only [List.getElem?_cons_succ] at h
      have := putAll_new (g := g) (v := v) chs (j + 1) ((a.put (some x.d) (sl1 (g j))).put (some x.e) (v j)) n3 (fun q hq => by rw [put_size, put_size]; exact hsz q (by simp [hq])) h
      rw [putAll, show j + (i + 1) = j + 1 + i by omega]
      exact this
theorem act_ext {a b : Act} (h1 : a.tmps.size = b.tmps.size) (h2 : a.defers = b.defers) (h : ∀ q, a.eval (.tmp q) = b.eval (.tmp q)) : a = b := by
  obtain ⟨at_, ad⟩ := a
  obtain ⟨bt, bd⟩ := b
  dsimp only at h1 h2
  subst h2
  congr 1
  refine Array.ext h1 fun q hq hq' => ?_
  have := h q
  simp only [Act.eval] at this
  simpa [Array.getD_eq_getD_getElem?, hq, hq'] using this
theorem AInv.frame {σ : List Nat} {a : Act} {w : World} {g : Nat → Nat} {v : Nat → Value} (h : AInv E chs D L0 W a0 σ a w g v) (hl : σ.length = chs.length) (h2 : ∀ s ∈ σ, s = 2) (hn : (dstsOf chs).Nodup) (hsz : ∀ q ∈ dstsOf chs, q < a0.tmps.size) : a = putAll g v 0 chs a0 := by
  refine act_ext (by rw [(putAll_size chs 0 a0).1, h.size]) (by rw [(putAll_size chs 0 a0).2, h.defers]) fun q => ?_
  by_cases hq : q ∈ dstsOf chs
  · obtain ⟨c, hc, hqc⟩ := List.mem_flatMap.1 hq
    obtain ⟨i, hi⟩ := List.getElem?_of_mem hc
    have his : i < σ.length := by rw [hl]; exact (List.getElem?_eq_some_iff.1 hi).1
    have hs : σ[i]? = some 2 := by rw [List.getElem?_eq_getElem his, h2 _ (List.getElem_mem his)]
    have h3 := putAll_new (g := g) (v := v) chs 0 a0 hn hsz hi
    rw [Nat.zero_add] at h3
    simp only [List.mem_cons, List.not_mem_nil, or_false] at hqc
    rcases hqc with rfl | rfl
    · rw [h.d i c 2 hi hs (by omega), h3.1]
    · rw [h.e i c 2 hi hs (by omega), h3.2]
  · rw [h.old q hq, putAll_old chs 0 a0 hq]
theorem lsOf_start : lsOf chs ls0 (List.replicate chs.length 0) = ls0 := by
  refine Array.ext (by simp [lsOf]) fun p h1 h2 => ?_
  simp only [lsOf, Array.getElem_mapIdx]
  have : ((chs.zip (List.replicate chs.length 0)).any fun q => (decide (1 ≤ q.2) && p == q.1.ib) || (decide (2 ≤ q.2) && p == q.1.ia)) = false := by
    rw [Bool.eq_false_iff]
    intro h
    obtain ⟨j, c, s, _, hs, hf⟩ := zip_any.1 h
    have : s = 0 := by have := List.mem_of_getElem? hs; exact (List.mem_replicate.1 this).2
    subst this
    simp at hf
  rw [this, Bool.or_false]
def rows0 (E : TypeId) (D : List Cdt) : List Asr := D.map fun c => row E 1 c.v c.n c.l
def rows1 (E : TypeId) (D : List Cdt) (v : Nat → Value) : List Asr := D.zipIdx.map fun p => row E 1 (v p.2) (p.1.n + 1) (p.1.l ++ [p.1.u])
theorem rowsOf_zero {v : Nat → Value} {m : Nat} : rowsOf E D (List.replicate m 0) v = rows0 E D := by
  refine List.ext_getElem? fun i => ?_
  simp only [rowsOf, rows0, List.getElem?_map, List.getElem?_zipIdx]
  cases D[i]? with
  | none => rfl
  | some d =>
    have : (List.replicate m 0)[i]?.getD 0 = 0 := by simp [List.getElem?_replicate]; split <;> rfl
    simp [rowAt, this]
theorem rowsOf_two {v : Nat → Value} {σ : List Nat} (hl : σ.length = D.length) (h2 : ∀ s ∈ σ, s = 2) : rowsOf E D σ v = rows1 E D v := by
  refine List.ext_getElem? fun i => ?_
  simp only [rowsOf, rows1, List.getElem?_map, List.getElem?_zipIdx]
  cases hd : D[i]? with
  | none => rfl
  | some d =>
    have hi : i < σ.length := by rw [hl]; exact (List.getElem?_eq_some_iff.1 hd).1
    have : σ[i]?.getD 0 = 2 := by rw [List.getElem?_eq_getElem hi]; exact h2 _ (List.getElem_mem hi)
    simp [rowAt, this]
theorem st_emps {W w : World} {L : List Asr} (h : St W w L) : ∀ (m : Nat), St W w (L ++ List.replicate m emp)
  | 0 => by simpa using h
  | m + 1 => by
    have := (st_emps h m).push_emp
    rwa [List.append_assoc, ← List.replicate_succ'] at this
theorem blksOf_zero {g : Nat → Nat} {m : Nat} : blksOf E D (List.replicate m 0) g = List.replicate D.length emp := by
  refine List.ext_getElem? fun i => ?_
  simp only [blksOf, List.getElem?_map, List.getElem?_zipIdx, List.getElem?_replicate]
  cases hd : D[i]? with
  | none => simp [List.getElem?_eq_none_iff.1 hd]
  | some d =>
    have hi := (List.getElem?_eq_some_iff.1 hd).1
    have : (List.replicate m 0)[i]?.getD 0 = 0 := by simp [List.getElem?_replicate]; split <;> rfl
    simp [blkAt, this, hi]
/-- the law for the chains -/
theorem headW_appends {w : World} (hE : Elt P t E z 1 bytes) (hlen : D.length = chs.length) (hB : chainsB chs ls0 ops n = true) (hok : ∀ c ∈ chs, ChnOk P ops t E c) (hsz : ∀ q ∈ dstsOf chs, q < a0.tmps.size)
    (hx : ∀ (j : Nat) (c : Chn) (d : Cdt), chs[j]? = some c → D[j]? = some d → Given a0 bytes c d)
    (hK : ∀ w' R, St W w' (R ++ L0) → K w') (h : St W w (rows0 E D ++ L0)) :
    headW P .any ops Q K n (fun ls a' w' => Region.seqB .any ops (ops.size - n) n ls = true ∧ ∃ g v, St W w' (rows1 E D v ++ L0) ∧ a' = putAll g v 0 chs a0) (2 * chs.length) ls0 a0 w := by
  have hnd : (dstsOf chs).Nodup := by
    simp only [chainsB, Bool.and_eq_true, decide_eq_true_eq] at hB
    exact hB.1.1
  have h0 : St W w (rowsOf E D (List.replicate chs.length 0) (fun _ => undef) ++ (blksOf E D (List.replicate chs.length 0) (fun _ => 0) ++ L0)) := by
    rw [rowsOf_zero, blksOf_zero]
    have h1 := st_emps h D.length
    refine h1.perm ?_
    rw [List.append_assoc]
    exact List.Perm.append_left _ List.perm_append_comm
  have H := headW_chains (Q := Q) (K := K) hE hlen hB hok hsz hx (fun w' σ g v h => hK w' (rowsOf E D σ v ++ blksOf E D σ g) (by rw [List.append_assoc]; exact h))
    (L := fun ls a' w' => Region.seqB .any ops (ops.size - n) n ls = true ∧ ∃ g v, St W w' (rows1 E D v ++ L0) ∧ a' = putAll g v 0 chs a0)
    (fun σ a w g v hl h2 hq hI => ⟨hq, g, v, by
      have := hI.st
      rw [rowsOf_two (by omega) h2] at this
      exact this.sub ((List.Sublist.refl _).append (List.sublist_append_right _ _)), hI.frame hl h2 hnd hsz⟩)
    (remOf (List.replicate chs.length 0)) (List.replicate chs.length 0) a0 w (fun _ => 0) (fun _ => undef) (by simp) (fun s hs => by rw [(List.mem_replicate.1 hs).2]; omega) rfl
    ⟨h0, rfl, rfl, fun _ _ => rfl, fun j c s _ hs h1 => by have := (List.mem_replicate.1 (List.mem_of_getElem? hs)).2; omega, fun j c s _ hs h1 => by have := (List.mem_replicate.1 (List.mem_of_getElem? hs)).2; omega⟩
  rw [lsOf_start] at H
  have hr : ∀ m, remOf (List.replicate m 0) = 2 * m := by
    intro m
    induction m with
    | zero => rfl
    | succ m ih => simp only [remOf, List.replicate_succ, List.map_cons, List.foldr_cons] at ih ⊢; omega
  rw [hr] at H
  exact H
end
end Go.Mem
