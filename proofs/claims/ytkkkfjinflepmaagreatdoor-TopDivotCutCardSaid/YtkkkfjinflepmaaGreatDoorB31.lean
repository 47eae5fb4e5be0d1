/- Part 31 of the walks of the golf union's program: LM3. -/
import Derived.Test.YtkkkfjinflepmaaGreatDoorB30
set_option linter.unusedVariables false
set_option linter.unusedSimpArgs false
set_option linter.unusedSectionVars false
set_option linter.constructorNameAsVariable false
/- Chapter 5: the states of a match. -/
namespace Go.Proofs.YtkkkfjinflepmaaGreatDoor
open Go.RowKit Go.Mem Go.Sheet Go.Adj Go.Shelf Go.MemQ
attribute [local go_sem] Oper.semAt_some
theorem arr_litm (T : Array Value) (N : Nat) (h : T.size = N) : T = ((List.range N).map fun i => T.getD i undef).toArray := by
  apply Array.ext_getElem?
  intro i
  rw [List.getElem?_toArray (xs := (List.range N).map _), List.getElem?_map]
  by_cases hi : i < N
  · rw [List.getElem?_range hi, Option.map_some, Array.getElem?_eq_getElem (by omega), Array.getD_eq_getD_getElem?, Array.getElem?_eq_getElem (by omega)]
    rfl
  · rw [List.getElem?_eq_none (by simpa using hi), Array.getElem?_eq_none (by omega)]
    rfl
set_option maxRecDepth 100000 in
theorem frame18m {T : Array Value} {v5 v6 : Value} (h : T.size = 18) (h5 : T.getD 5 undef = v5) (h6 : T.getD 6 undef = v6) : ∃ f : Nat → Value, T = #[f 0, f 1, f 2, f 3, f 4, v5, v6, f 7, f 8, f 9, f 10, f 11, f 12, f 13, f 14, f 15, f 16, f 17] := by
  obtain ⟨f, hf⟩ : ∃ f : Nat → Value, f = fun i => T.getD i undef := ⟨_, rfl⟩
  have e : ((List.range 18).map f).toArray = #[f 0, f 1, f 2, f 3, f 4, f 5, f 6, f 7, f 8, f 9, f 10, f 11, f 12, f 13, f 14, f 15, f 16, f 17] := rfl
  have e2 := arr_litm T 18 h
  rw [← hf, e] at e2
  rw [show T.getD 5 undef = f 5 by rw [hf]] at h5
  rw [show T.getD 6 undef = f 6 by rw [hf]] at h6
  refine ⟨f, ?_⟩
  rw [← h5, ← h6]
  exact e2
/-- append at a row that is owned, in a round -/
theorem wpListIn_append_e {P : Program} {F : Fence} {nF : Nat} {ops : Array Oper} {rest : List Oper} {o : Oper} {a : Act} {Q : Exit → Act → World → Prop} {w : World} {t e : TypeId} {z : Value} {size bytes : Nat} (hE : Elt P t e z size bytes)
    (hgd : o.guard = none) (s x : Operand) (ho : o.op = .call { callee := .builtin .append, args := #[s, x], argTypes := #[t, t] }) (base : Nat)
    {v : Value} {n : Nat} {xs : List Value} (hs : a.eval s = v) (hown : w.ownsRow base e size v n xs) {g m c : Nat} {news : List Value} (hx : a.eval x = .slice (some ⟨g, 0, none⟩) m c) (hl : news.length = m * size)
    (hc : ∀ j u, news[j]? = some u → w.cell? ⟨g, j, none⟩ = some u) (h1 : ∀ u ∈ news, u.oneCell' = true) (h63 : n + m ≤ maxLen) (hbytes : (n + m) * bytes ≤ 140737488355328) (hbase : base ≤ w.heap.size)
    (h : ∀ v' w', w'.ownsRow base e size v' (n + m) (xs ++ news) → w.grownBy w' v.ownBlock → (v'.ownBlock = v.ownBlock ∨ v'.ownBlock = some w.heap.size) → wpListIn F nF P ops Q rest (a.put o.dst v') w') : wpListIn F nF P ops Q (o :: rest) a w := by
  obtain ⟨ht, hinfo, hzs, hsz⟩ := hE
  obtain ⟨i, hi, hz, hsize, hby⟩ := info_parts hinfo
  exact wpListIn_append_own_at w hgd s x t ho base e i z size bytes ht hi hz hsize hby hzs hsz v n xs hs hown ⟨g, 0, none⟩ m c news hx hl (fun j u hu => by rw [Addr.add_lit, Nat.zero_add]; exact hc j u hu) h1 h63 hbytes hbase (fun v' w' a b _ d => h v' w' a b d)
theorem ownsRow_turn {X Y : World} {base : Nat} {e : TypeId} {size n : Nat} {v : Value} {xs : List Value} (h : X.ownsRow base e size v n xs) (hb : ∀ g, v.ownBlock = some g → Y.heap[g]? = X.heap[g]?) : Y.ownsRow base e size v n xs := by
  obtain ⟨h1, h2⟩ := h
  refine ⟨h1, ?_⟩
  rcases h2 with h2 | ⟨g, cap, cur, rfl, h3, h4, r⟩
  · exact .inl h2
  · exact .inr ⟨g, cap, cur, rfl, h3, (hb g rfl).trans h4, r⟩
theorem ownsRow_cells {X : World} {base : Nat} {e : TypeId} {size n : Nat} {v : Value} {xs : List Value} (h : X.ownsRow base e size v n xs) {g : Nat} (hg : v.ownBlock = some g) : base ≤ g ∧ ∃ cur, X.heap[g]? = some (.cells cur e (0, 0)) := by
  rcases h.2 with ⟨rfl, _⟩ | ⟨g', cap, cur, rfl, h3, h4, _⟩
  · cases hg
  · cases hg
    exact ⟨h3, cur, h4⟩
theorem ownsRow_st {W X : World} {e : TypeId} {size n : Nat} {v : Value} {xs : List Value} (hb : Below W.heap.size W X) (h : X.ownsRow W.heap.size e size v n xs) : St W X [row e size v n xs] := by
  refine ⟨hb, fun b => v.ownBlock = some b, fun b hb => ?_, ⟨⟨h.1, ?_⟩, fun g hg => hg⟩, trivial⟩
  · obtain ⟨h1, cur, h2⟩ := ownsRow_cells h hb
    exact ⟨h1, (Array.getElem?_eq_some_iff.1 h2).1⟩
  · rcases h.2 with h2 | ⟨g, cap, cur, rfl, h3, r⟩
    · exact .inl h2
    · exact .inr ⟨g, cap, cur, rfl, Nat.zero_le _, r⟩
/-- what has come, in the caller's box -/
structure MI (W : World) (gs B : Nat) (pre : List StI) (X : World) (v : Value) : Prop where
  bel : Below W.heap.size W X
  box : X.heap[gs]? = some (.cells #[v] 90 (0, 0))
  own : X.ownsRow W.heap.size 95 3 v pre.length (pre.flatMap StI.cells)
  apart : ∀ g, v.ownBlock = some g → B < g
  lo : W.heap.size ≤ gs
  hi : gs < B
theorem MI.turn {W X Y : World} {gs B : Nat} {pre : List StI} {v : Value} {r : Option Nat} (h : MI W gs B pre X v) (hg : X.grownBy Y r) (h1 : ∀ k, r = some k → W.heap.size ≤ k ∧ k ≠ gs ∧ v.ownBlock ≠ some k) : MI W gs B pre Y v where
  bel := h.bel.grown hg h.bel.size fun k hk => (h1 k hk).1
  box := (hg.block gs (Array.getElem?_eq_some_iff.1 h.box).1 fun e => (h1 gs e.symm).2.1 rfl).trans h.box
  own := ownsRow_turn h.own fun g hgo => hg.block g (by obtain ⟨_, cur, h2⟩ := ownsRow_cells h.own hgo; exact (Array.getElem?_eq_some_iff.1 h2).1) fun e => (h1 g e.symm).2.2 hgo
  apart := h.apart
  lo := h.lo
  hi := h.hi
theorem MI.turn_other {W X Y : World} {gs B b0 : Nat} {pre : List StI} {v : Value} {r : Option Nat} (h : MI W gs B pre X v) (hW : W.heap.size ≤ b0) (hg : X.grownBy Y r) (hr : ∀ k, r = some k → b0 ≤ k ∧ ∃ o : Obj, X.heap[k]? = some o ∧ o.isCells = false) : MI W gs B pre Y v :=
  h.turn hg fun k hk => by
    obtain ⟨h1, o, h2, h3⟩ := hr k hk
    refine ⟨by omega, fun e => ?_, fun e => ?_⟩
    · subst e; rw [h.box] at h2; cases h2; cases h3
    · obtain ⟨_, cur, h4⟩ := ownsRow_cells h.own e
      rw [h4] at h2; cases h2; cases h3
theorem MI.idle {W X Y : World} {gs B : Nat} {pre : List StI} {v : Value} (h : MI W gs B pre X v) (hg : X.grownBy Y (some B)) : MI W gs B pre Y v :=
  h.turn hg fun k hk => by
    cases hk
    have := h.hi
    have := h.lo
    exact ⟨by omega, by omega, fun e => absurd (h.apart _ e) (by omega)⟩
theorem ownsRow_slice {X : World} {base : Nat} {e : TypeId} {size n : Nat} {v : Value} {xs : List Value} (h : X.ownsRow base e size v (n + 1) xs) : ∃ g c, v = .slice (some ⟨g, 0, none⟩) (n + 1) c := by
  rcases h.2 with ⟨_, h0⟩ | ⟨g, cap, cur, rfl, _⟩
  · omega
  · exact ⟨g, cap, rfl⟩
theorem MI.box_after {W X Y : World} {gs B : Nat} {pre : List StI} {v : Value} (h : MI W gs B pre X v) (hg : X.grownBy Y v.ownBlock) : Y.heap[gs]? = some (.cells #[v] 90 (0, 0)) :=
  (hg.block gs (Array.getElem?_eq_some_iff.1 h.box).1 fun e => by have := h.apart _ e.symm; have := h.hi; omega).trans h.box
theorem MI.push {W X Y : World} {gs B : Nat} {pre : List StI} {v v2 : Value} {x : StI} (h : MI W gs B pre X v) (hg : X.grownBy Y v.ownBlock) (hown : Y.ownsRow W.heap.size 95 3 v2 (pre.length + 1) (pre.flatMap StI.cells ++ x.cells))
    (hblk : v2.ownBlock = v.ownBlock ∨ v2.ownBlock = some X.heap.size) (hX : B < X.heap.size) : MI W gs B (pre ++ [x]) (Y.setCell ⟨gs, 0, none⟩ v2) v2 := by
  have hap : ∀ g, v2.ownBlock = some g → B < g := fun g hg2 => by
    rcases hblk with e | e
    · exact h.apart g (e.symm.trans hg2)
    · cases (e.symm.trans hg2); exact hX
  have hlo := h.lo
  have hhi := h.hi
  refine ⟨((h.bel.grown hg h.bel.size fun k hk => ?_)).setCell (p := ⟨gs, 0, none⟩) hlo _, heap_setCell_same _ gs 0 _ _ v2 (h.box_after hg), ?_, hap, hlo, hhi⟩
  · exact (ownsRow_cells h.own hk).1
  · rw [List.length_append, List.flatMap_append]
    refine ownsRow_turn (X := Y) (by simpa using hown) fun g hg2 => Below.heap_setCell _ _ _ _ ?_
    have := hap g hg2
    show g ≠ gs
    omega
theorem KpL.put {n₀ : Nat} {bs : List Nat} {l : Nat} (hl : n₀ ≤ l) (hb : ∀ b ∈ bs, b ≠ l) (X : World) (o : Obj) : KpL n₀ bs X (X.putObj l o) :=
  ⟨⟨rfl, rfl, rfl, by simp [World.putObj], fun k hk => World.putObj_heap_other (by omega)⟩, by simp [World.putObj], fun b hb' => World.putObj_heap_other (hb b hb')⟩
/-- the frame of a round of match -/
def RoundM (gs : Nat) (x : StI) (a : Act) (X : World) : Prop :=
  a.tmps.size = 18 ∧ a.tmps.getD 5 undef = .pointer (some ⟨gs, 0, none⟩) ∧ a.defers = [] ∧ ∃ Bx v, a.tmps.getD 6 undef = .pointer (some ⟨Bx, 0, none⟩) ∧ X.heap[Bx]? = some (.cells #[.int .i64 x.up, .int .i64 x.to, .bool x.ov] 95 (0, 0)) ∧ Bx ≠ gs ∧
    X.heap[gs]? = some (.cells #[v] 90 (0, 0)) ∧ v.ownBlock ≠ some Bx
theorem eltS : Elt Tryz.prog 90 95 (.agg #[.int .i64 0, .int .i64 0, .bool false]) 3 24 := ⟨Tryz.underlying90, by kernel_rfl, rfl, by decide⟩
theorem al_ml {A B : Nat → NI} {n : Nat} : ∀ d k j, k + d = n → (∀ i, k ≤ i → i < k + j → (stF A B n i).ov = false) → j ≤ alF A B d k → (j = alF A B d k ∨ (stF A B n (k + j)).ov = true) → mlF A B n d k = if j = alF A B d k then j else j + 1
  | 0, k, j, _, _, hj, _ => by
    have : j = 0 := by simpa [alF] using hj
    subst this
    simp [alF, mlF]
  | d + 1, k, j, hk, h1, hj, h2 => by
    rw [alF] at hj h2 ⊢
    rw [mlF]
    by_cases hd : deadF A B k = true
    · rw [if_pos hd] at hj h2 ⊢
      have : j = 0 := by omega
      subst this
      rw [if_pos hd]
      simp
    · rw [if_neg hd] at hj h2 ⊢
      rw [if_neg hd]
      cases j with
      | zero =>
        rcases h2 with h2 | h2
        · omega
        · rw [Nat.add_zero] at h2
          rw [if_pos h2, if_neg (by omega)]
      | succ j =>
        have h3 := h1 k (Nat.le_refl _) (by omega)
        rw [if_neg (by rw [h3]; simp), al_ml d (k + 1) j (by omega) (fun i a b => h1 i (by omega) (by omega)) (by omega) (by
          rcases h2 with h2 | h2
          · exact .inl (by omega)
          · exact .inr (by rwa [show k + 1 + j = k + (j + 1) by omega]))]
        by_cases e : j = alF A B d (k + 1)
        · rw [if_pos e, if_pos (by omega)]
        · rw [if_neg e, if_neg (by omega)]
set_option maxRecDepth 100000 in
set_option maxHeartbeats 4000000 in
theorem match_any (W : World) (P Q : Option Addr) (n c d : Nat) (A B : Nat → NI) (hn : n ≤ 36) (ha : Rd W (· < W.heap.size) 2 (.slice P n c) n ((nl A n).flatMap NI.cells)) (hb : Rd W (· < W.heap.size) 2 (.slice Q n d) n ((nl B n).flatMap NI.cells)) :
    Calls Tryz.prog 84 #[.slice P n c, .slice Q n d] W fun e w' => ∃ v', e = .returned v' ∧ St W w' [row 95 3 v' (matF A B n).length ((matF A B n).flatMap StI.cells)] := by
  have HA := Lib.hid ha
  have HB := Lib.hid hb
  clear ha hb
  refine (callsIn_wide (n := 6)).1 (callsIn_of_wp_marks Tryz.func84 rfl trivial (wpIn_wide.2 ?_) rfl)
  simp only [Tryz.ntmps84, List.size_toArray, List.length_cons, List.length_nil, Nat.reduceAdd, Nat.reduceSub, Array.replicate_succ, Array.replicate_zero, List.push_toArray, List.append_toArray, List.nil_append, List.cons_append]
  go_wp2
  go_step3
  go_wp2_with fail
  go_step3
  go_wp2_with fail
  refine (states_any _ _ _ _ _ _ _).mono ?_
  rintro e w3 ⟨rfl, hw3⟩
  have S1 := (((St.refl W).blk_new #[.slice none 0 0] 90).blk_new #[.slice P n c] 139).blk_new #[.slice Q n d] 139
  simp only [World.size_alloc, List.cons_append, List.nil_append] at S1 hw3
  rw [← hw3] at S1
  have hsz3 : w3.heap.size = W.heap.size + 1 + 1 + 1 := by rw [hw3]; simp
  clear hw3
  simp only [World.size_alloc]
  have hb0 := S1.blk_at (i := 0) rfl
  have hbx := S1.blk_cell (i := 1) rfl 0
  have hby := S1.blk_cell (i := 2) rfl 0
  have hra : Rd w3 (· < W.heap.size) 2 (.slice P n c) n ((nl A n).flatMap NI.cells) := HA.out.below S1.bel
  have hrb : Rd w3 (· < W.heap.size) 2 (.slice Q n d) n ((nl B n).flatMap NI.cells) := HB.out.below S1.bel
  have hbl3 := S1.bel
  clear S1
  go_wp2
  refine (wpIn_wide (n := 5)).1 ?_
  refine wpIn_rangeFunc_ownC (F := Fence.wide) rfl (by decide) (gf := 135) (lb := #[.pointer (some ⟨W.heap.size + 1, 0, none⟩), .pointer (some ⟨W.heap.size + 1 + 1, 0, none⟩)]) rfl trivial (enters Tryz.func135 (by kernel_rfl) rfl)
    (states1_stops 4 (by decide) w3 (W.heap.size + 1) (W.heap.size + 1 + 1) W.heap.size n c d P Q A B hn hbx hby hra hrb hbl3.size) KpL.trans (KpL.put (by omega) (by intro b hb; simp at hb; omega)) (fun _ => rfl)
    (fun (pre : List StI) X => (∃ v, MI W W.heap.size (w3.heap.size + 2) pre X v) ∧ ∀ s ∈ pre, s.ov = false)
    (fun cc pre X => cc = .exit 0 ∧ (∃ v, MI W W.heap.size (w3.heap.size + 2) pre X v) ∧ ∃ (pre' : List StI) (x : StI), pre = pre' ++ [x] ∧ (∀ s ∈ pre', s.ov = false) ∧ x.ov = true)
    ?hI ?hIB ?hIx ?h0 (fun x a' X => RoundM W.heap.size x a' X) ?hax ?assign ?body ?done ?stop
  case hI => exact fun s X Y row hs hg hr => ⟨let ⟨v, h⟩ := hs.1; ⟨v, h.turn_other hbl3.size hg hr⟩, hs.2⟩
  case hIB => exact fun _ s X Y hs hg => ⟨let ⟨v, h⟩ := hs.1; ⟨v, h.idle hg⟩, hs.2⟩
  case hIx => exact fun cc s X Y row hs hg hr => ⟨hs.1, let ⟨v, h⟩ := hs.2.1; ⟨v, h.turn_other hbl3.size hg hr⟩, hs.2.2⟩
  case h0 => exact ⟨⟨_, ⟨hbl3, hb0.2.2, World.ownsRow_nil _ _ _ _, fun g hg => by (cases hg), Nat.le_refl _, by omega⟩⟩, fun s hs => by (cases hs)⟩
  case hax =>
    intro x a' _ X Y row hs hg hr
    obtain ⟨h1, h2, h3, Bx, v, h4, h5, h6, h7, h8⟩ := hs
    have hk : ∀ {g : Nat} {cs : Array Value} {t : TypeId}, X.heap[g]? = some (.cells cs t (0, 0)) → Y.heap[g]? = some (.cells cs t (0, 0)) := fun {g cs t} h =>
      (hg.block g (Array.getElem?_eq_some_iff.1 h).1 fun e => by obtain ⟨_, o, ho, hc⟩ := hr g e.symm; rw [h] at ho; cases ho; cases hc).trans h
    exact ⟨h1, h2, h3, Bx, v, h4, hk h5, h6, hk h7, h8⟩
  case assign =>
    intro lp pre x X K hX _ hi hK
    obtain ⟨⟨v, hm⟩, hov⟩ := hi
    unfold encSt StI.val
    have hm2 := hm.turn (World.grownBy_alloc X (.cells #[.int .i64 x.up, .int .i64 x.to, .bool x.ov] 95) none) (fun k e => by cases e)
    have hgx : W.heap.size < X.heap.size := by omega
    have hvx : v.ownBlock ≠ some X.heap.size := fun e => by
      obtain ⟨_, cur, h2⟩ := ownsRow_cells hm.own e
      have := (Array.getElem?_eq_some_iff.1 h2).1
      omega
    have hkp : KpL W.heap.size [W.heap.size + 1, W.heap.size + 1 + 1, w3.heap.size + 2] X (X.alloc (.cells #[.int .i64 x.up, .int .i64 x.to, .bool x.ov] 95)) := KpL.of_below ((Below.refl _ X).alloc (Nat.le_refl _) _) (by omega) (by intro b hb; simp at hb; omega)
    gi_wp2
    exact hK _ _ ((KeepsOthers.alloc _ _).from _) hkp ⟨⟨v, hm2⟩, hov⟩ ⟨rfl, rfl, rfl, X.heap.size, v, rfl, heap_alloc_new X _, by omega, hm2.box, hvx⟩
  case body =>
    intro lp pre x a' X hX hi hA5 hN
    have hN : pre.length < n := by simp at hN; omega
    obtain ⟨⟨v, hm⟩, hov⟩ := hi
    obtain ⟨h1, h2, h3, Bx, v', h4, h5, h6, h7, h8⟩ := hA5
    rw [hm.box] at h7
    cases h7
    obtain ⟨T, dfs⟩ := a'
    dsimp only at h1 h2 h3 h4
    subst h3
    obtain ⟨f, rfl⟩ := frame18m h1 h2 h4
    clear h1 h2 h4
    have hbl : Below X.heap.size X (X.alloc (.cells #[.int .i64 x.up, .int .i64 x.to, .bool x.ov] 95)) := (Below.refl _ _).alloc (Nat.le_refl _) _
    have hgx : W.heap.size < X.heap.size := by omega
    have hlx := (Array.getElem?_eq_some_iff.1 h5).1
    have b0 : X.cell? ⟨Bx, 0, none⟩ = some (.int .i64 x.up) := by rw [cell_of_row X Bx 0 _ _ _ h5]; rfl
    have b1 : X.cell? ⟨Bx, 1, none⟩ = some (.int .i64 x.to) := by rw [cell_of_row X Bx 1 _ _ _ h5]; rfl
    have b2 : X.cell? ⟨Bx, 2, none⟩ = some (.bool x.ov) := by rw [cell_of_row X Bx 2 _ _ _ h5]; rfl
    have g0 : X.cell? ⟨W.heap.size, 0, none⟩ = some v := by rw [cell_of_row X W.heap.size 0 _ _ _ hm.box]; rfl
    have hm2 := hm.turn (grown_of_below hbl none) (fun k e => by cases e)
    have HM := Lib.hid hm2
    have h5a := (hbl.block Bx hlx).trans h5
    have H5 := Lib.hid h5a
    have hva : ∀ g, v.ownBlock = some g → g < X.heap.size := fun g hg => by
      obtain ⟨_, cur, h2⟩ := ownsRow_cells hm.own hg
      exact (Array.getElem?_eq_some_iff.1 h2).1
    have HVA := Lib.hid hva
    have HAP := Lib.hid hm.apart
    have hkx : KpL W.heap.size [W.heap.size + 1, W.heap.size + 1 + 1, w3.heap.size + 2] X (X.alloc (.cells #[.int .i64 x.up, .int .i64 x.to, .bool x.ov] 95)) := KpL.of_below hbl (by omega) (by intro b hb; simp at hb; omega)
    have HKX := Lib.hid hkx
    have h63 : pre.length + 1 ≤ maxLen := by unfold maxLen; omega
    clear hm hm2 hbl h5 h5a hkx hva
    have hgb : W.heap.size ≠ Bx := fun e => h6 e.symm
    obtain ⟨up, tg, ov⟩ := x
    dsimp only at *
    have HFIN : Hid (∀ (v2 : Value) (w6 : World), (X.alloc (.cells #[.int .i64 up, .int .i64 tg, .bool ov] 95)).grownBy w6 v.ownBlock → w6.ownsRow W.heap.size 95 3 v2 (pre.length + 1) (pre.flatMap StI.cells ++ [.int .i64 up, .int .i64 tg, .bool ov]) →
        (v2.ownBlock = v.ownBlock ∨ v2.ownBlock = some (X.alloc (.cells #[.int .i64 up, .int .i64 tg, .bool ov] 95)).heap.size) →
        KeepsFrom w3.heap.size X (w6.setCell ⟨W.heap.size, 0, none⟩ v2) ∧ KpL W.heap.size [W.heap.size + 1, W.heap.size + 1 + 1, w3.heap.size + 2] X (w6.setCell ⟨W.heap.size, 0, none⟩ v2) ∧ MI W W.heap.size (w3.heap.size + 2) (pre ++ [⟨up, tg, ov⟩]) (w6.setCell ⟨W.heap.size, 0, none⟩ v2) v2) := by
      intro v2 w6 hg hown hblk
      have hM := HM.out.push (x := ⟨up, tg, ov⟩) hg hown hblk (by simp; omega)
      have hs1 := HM.out.bel.size
      have hs2 := hg.size
      refine ⟨(((KeepsOthers.alloc _ _).trans (KeepsOthers.of_grownBy hg fun j o hj ho => ?_)).trans (KeepsOthers.setCell _ _ _)).from _, (HKX.out.trans (KpL.of_grown hg (fun r hr => ?_) (fun b hb => ?_) (by simp at hs1 ⊢; omega))).trans (KpL.of_grown (grown_set _ _ _ _) (fun r hr => ?_) (fun b hb => ?_) (by omega)), hM⟩
      · obtain ⟨_, cur, h2⟩ := ownsRow_cells HM.out.own hj
        rw [h2] at ho; cases ho; rfl
      · have h1 := HAP.out r hr
        exact ⟨by omega, by simp; omega⟩
      · simp at hb ⊢; omega
      · cases hr
        exact ⟨Nat.le_refl _, by simp; omega⟩
      · simp at hb hs2; omega
    have HQ : Hid (∀ w6 : World, (X.alloc (.cells #[.int .i64 up, .int .i64 tg, .bool ov] 95)).grownBy w6 v.ownBlock → w6.cell? ⟨W.heap.size, 0, none⟩ = some v ∧ w6.frozen? ⟨W.heap.size, 0, none⟩ = false ∧ w6.cell? ⟨Bx, 2, none⟩ = some (.bool ov)) := by
      intro w6 hgr
      have q0 := HM.out.box_after hgr
      have q3 := (hgr.block Bx (by simp; omega) (fun e => h8 e.symm)).trans H5.out
      exact ⟨by rw [cell_of_row w6 W.heap.size 0 _ _ _ q0]; rfl, by simp [World.frozen?, q0], by rw [cell_of_row w6 Bx 2 _ _ _ q3]; rfl⟩
    have HNC : Hid (∀ j u, ([.int .i64 up, .int .i64 tg, .bool ov] : List Value)[j]? = some u → ((X.alloc (.cells #[.int .i64 up, .int .i64 tg, .bool ov] 95))).cell? ⟨X.heap.size, j, none⟩ = some u) := by
      intro j u hu
      rw [cell_of_row _ X.heap.size j _ _ _ (heap_alloc_new X _)]
      simpa using hu
    by_cases hovx : ov = true
    · subst hovx
      gi_wp2_with (gi_at_builtin; refine wpListIn_append_e eltS rfl _ _ rfl W.heap.size (v := v) rfl HM.out.own (m := 1) (news := [.int .i64 up, .int .i64 tg, .bool true]) rfl rfl HNC.out (by simp [Value.oneCell']) h63 (by omega) (by simp; omega) ?_; intro v2 w6 hown hgr hblk; obtain ⟨gq, cq, rfl⟩ := ownsRow_slice hown; have HF := Lib.hid (HFIN.out _ _ hgr hown hblk); obtain ⟨q1, q2, q4⟩ := HQ.out _ hgr; clear hown hgr hblk)
      exact ⟨HF.out.1, rfl, ⟨_, HF.out.2.2⟩, pre, _, rfl, hov, rfl⟩
    · have hov0 : ov = false := by simpa using hovx
      subst hov0
      clear hovx
      gi_wp2_with (gi_at_builtin; refine wpListIn_append_e eltS rfl _ _ rfl W.heap.size (v := v) rfl HM.out.own (m := 1) (news := [.int .i64 up, .int .i64 tg, .bool false]) rfl rfl HNC.out (by simp [Value.oneCell']) h63 (by omega) (by simp; omega) ?_; intro v2 w6 hown hgr hblk; obtain ⟨gq, cq, rfl⟩ := ownsRow_slice hown; have HF := Lib.hid (HFIN.out _ _ hgr hown hblk); obtain ⟨q1, q2, q4⟩ := HQ.out _ hgr; clear hown hgr hblk)
      exact ⟨HF.out.1, HF.out.2.1, ⟨_, HF.out.2.2⟩, fun s hs => by rcases List.mem_append.1 hs with h | h; exact hov s h; simp at h; rw [h]⟩
  case done =>
    intro D xs X hD hS hI hK
    obtain ⟨⟨v, hm⟩, hov⟩ := hI
    have hS' : xs = stL A B n (alF A B n 0) := hS
    have hml : mlF A B n n 0 = alF A B n 0 := by
      rw [al_ml n 0 (alF A B n 0) (by omega) (fun i _ hi => hov _ (by rw [hS']; exact List.mem_map.2 ⟨i, List.mem_range.2 (by omega), rfl⟩)) (Nat.le_refl _) (.inl rfl), if_pos rfl]
    have hmat : matF A B n = xs := by rw [hS']; unfold matF stL; rw [hml]
    have g0 : X.cell? ⟨W.heap.size, 0, none⟩ = some v := by rw [cell_of_row X W.heap.size 0 _ _ _ hm.box]; rfl
    have hm2 := hm.turn_other hbl3.size (grownBy_putObj' X D (.deferred none)) (fun k e => by cases e; exact ⟨hD, _, hK, rfl⟩)
    rw [← hmat] at hm2
    have HF := Lib.hid (ownsRow_st hm2.bel hm2.own)
    clear hm hm2 hmat hml hS hS' hov
    go_wp2
    rw [Exit.noGoto_ret]
    refine ⟨by simp, .inl ⟨_, _, rfl, run_takeDeferred hK, ?_⟩⟩
    exact ⟨_, results_tmp rfl _ _ _, v, rfl, HF.out⟩
  case stop =>
    intro D cc pre X hD hS hI hK
    obtain ⟨rfl, ⟨v, hm⟩, pre', x, rfl, hov, hx⟩ := hI
    obtain ⟨k, hk, hpre⟩ : ∃ k, k ≤ alF A B n 0 ∧ pre' ++ [x] = stL A B n k := hS
    obtain ⟨j, rfl⟩ : ∃ j, k = j + 1 := ⟨k - 1, by have := congrArg List.length hpre; rw [stL_len] at this; simp at this; omega⟩
    have hpre2 := hpre
    rw [stL_snoc] at hpre2
    obtain ⟨e1, e2⟩ := List.append_inj' hpre2 rfl
    have hx' : x = stF A B n j := by simpa using e2
    have hml : mlF A B n n 0 = j + 1 := by
      rw [al_ml n 0 j (by omega) (fun i _ hi => hov _ (by rw [e1]; exact List.mem_map.2 ⟨i, List.mem_range.2 (by omega), rfl⟩)) (by omega) (.inr (by rw [Nat.zero_add, ← hx']; exact hx)), if_neg (by omega)]
    have hmat : matF A B n = pre' ++ [x] := by rw [hpre]; unfold matF stL; rw [hml]
    have g0 : X.cell? ⟨W.heap.size, 0, none⟩ = some v := by rw [cell_of_row X W.heap.size 0 _ _ _ hm.box]; rfl
    have hm2 := hm.turn_other hbl3.size (grownBy_putObj' X D (.deferred none)) (fun k e => by cases e; exact ⟨hD, _, hK, rfl⟩)
    rw [← hmat] at hm2
    have HF := Lib.hid (ownsRow_st hm2.bel hm2.own)
    clear hm hm2 hmat hml hpre hpre2 e1 e2 hov hk hx hx'
    refine wpIn_exit ?_
    go_wp2
    rw [Exit.noGoto_ret]
    refine ⟨by simp, .inl ⟨_, _, rfl, run_takeDeferred hK, ?_⟩⟩
    exact ⟨_, results_tmp rfl _ _ _, v, rfl, HF.out⟩
end Go.Proofs.YtkkkfjinflepmaaGreatDoor
