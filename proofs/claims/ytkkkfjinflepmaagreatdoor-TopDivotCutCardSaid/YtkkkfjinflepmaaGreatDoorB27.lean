/- Part 27 of the walks of the golf union's program: RFC. -/
import Derived.RangeFuncNested
import Derived.RangeFuncBound
import Derived.RangeFuncCalls
import Derived.RangeFuncLeaves
set_option linter.unusedVariables false
set_option linter.unusedSimpArgs false
set_option linter.unusedSectionVars false
set_option linter.constructorNameAsVariable false
/- A range over a function whose iterator has a block of its own, into which it stores between the rounds. -/
namespace Go.MemQ
open Go Go.RowKit
variable {P : Program} {F : Fence} {n : Nat}
/-- what is kept whatever is stored into block B -/
def Idle {β : Type} (B : Nat) (J : β → World → Prop) : Prop := ∀ s X Y, J s X → X.grownBy Y (some B) → J s Y
/-- an iterator whose first new block is its own: the caller's word abides stores into it, and each round gives it back as it was (by Kp) -/
def SeqStopsC {α : Type} (idle : Prop) (F : Fence) (n : Nat) (P : Program) (g : Nat) (lb : Array Value) (encs : α → Array Value) (Kp : World → World → Prop) (S Sp : List α → Prop) (N : List α → Prop) (w : World) : Prop :=
  ∀ (l : Nat) (J Jx : List α → World → Prop) (W : World), Below w.heap.size w W → W.heap.size = w.heap.size + 2 → AbidesFrom W.heap.size J → (idle → Idle W.heap.size J) →
    (∀ pre x X, J pre X → W.heap.size < X.heap.size → N (pre ++ [x]) → YieldAt F (n - 1) P l (encs x) X fun e Y =>
      (e = .returned (.bool true) ∧ J (pre ++ [x]) Y ∧ Kp X Y) ∨ (e = .returned (.bool false) ∧ Jx (pre ++ [x]) Y)) →
    J [] W →
    CallsIn F n P g (#[.func (.yield l) #[] #[]] ++ lb) W fun e Y => (∃ v, e = .returned v) ∧ ((∃ xs, S xs ∧ J xs Y) ∨ (∃ pre, Sp pre ∧ Jx pre Y))
/-- the loop's record l and the block d of its deferred calls -/
def Book (l d : Nat) (r : Loop) (X : World) : Prop := X.heap[l]? = some (.loop r) ∧ X.heap[d]? = some (.deferred (some []))
theorem Book.turn {l d : Nat} {r : Loop} {X Y : World} {row : Option Nat} (h : Book l d r X) (hg : X.grownBy Y row) (hl : row ≠ some l) (hd : row ≠ some d) : Book l d r Y :=
  ⟨(hg.block l (Array.getElem?_eq_some_iff.1 h.1).1 fun e => hl e.symm).trans h.1, (hg.block d (Array.getElem?_eq_some_iff.1 h.2).1 fun e => hd e.symm).trans h.2⟩
theorem Book.keeps {l d : Nat} {r : Loop} {X Y : World} (h : Book l d r X) (hk : KeepsFrom d X Y) (hdl : d ≤ l) : Book l d r Y :=
  ⟨hk.same l _ hdl h.1 rfl, hk.same d _ (Nat.le_refl _) h.2 rfl⟩
theorem Book.put {l d : Nat} {r r' : Loop} {X : World} (h : Book l d r X) (hne : d ≠ l) : Book l d r' (X.putObj l (.loop r')) :=
  ⟨World.putObj_heap_same (Array.getElem?_eq_some_iff.1 h.1).1, (World.putObj_heap_other hne).trans h.2⟩
theorem walk_not {X : World} {row : Option Nat} {k : Nat} {o : Obj} (hk : X.heap[k]? = some o) (ho : o.isWalk = false) (hr : ∀ r, row = some r → ∃ o : Obj, X.heap[r]? = some o ∧ o.isWalk = true) : row ≠ some k := by
  intro e
  obtain ⟨o', h1, h2⟩ := hr k e
  rw [hk] at h1
  cases h1
  rw [ho] at h2
  cases h2
theorem wpIn_rangeFunc_ownC {α : Type} {g : Operand} {ps : Array Tmp} {assign body : Code} {Q : Exit → Act → World → Prop} {a : Act} {w : World}
    (hro : F.round = none) (h1 : 1 ≤ n) {gf : Nat} {lb : Array Value} (hg : a.eval g = .func (.func gf) #[] lb) (hFg : F.fn gf) (eg : ∀ args w, (callFunc gf args).run P w = .ok (.enter gf args) w)
    {encs : α → Array Value} {Kp : World → World → Prop} {S Sp : List α → Prop} {N : List α → Prop} {idle : Prop} (hseq : SeqStopsC idle F (n - 1) P gf lb encs Kp S Sp N w)
    (hKt : ∀ {A B C : World}, Kp A B → Kp B C → Kp A C) (hKb : ∀ (X : World) (o : Obj), Kp X (X.putObj (w.heap.size + 1) o)) (hps : ∀ x, (encs x).size = ps.size)
    (I : List α → World → Prop) (Ix : Code → List α → World → Prop) (hI : OwnFrom w.heap.size I) (hIB : idle → Idle (w.heap.size + 2) I) (hIx : ∀ c, OwnFrom w.heap.size (Ix c)) (h0 : I [] w)
    (Ax : α → Act → World → Prop) (hAx : ∀ x a', OwnFrom w.heap.size (fun (_ : Unit) W => Ax x a' W))
    (hassign : ∀ (l : Nat) (pre : List α) (x : α) (X : World) (K : Act → World → Prop), w.heap.size + 2 < X.heap.size → N (pre ++ [x]) → I pre X → (∀ a' Y, KeepsFrom w.heap.size X Y → Kp X Y → I pre Y → Ax x a' Y → K a' Y) →
      assign.wpIn (F.inRound l) (n - 1 - 1) P (Exit.then K (fun _ _ _ => False)) { tmps := (ps.zip (encs x)).foldl (fun t (p, v) => t.setIfInBounds p v) a.tmps, defers := [] } X)
    (hbody : ∀ (l : Nat) (pre : List α) (x : α) (a' : Act) (X : World), w.heap.size + 2 < X.heap.size → I pre X → Ax x a' X → N (pre ++ [x]) → body.wpIn (F.inRound l) (n - 1 - 1) P (ownPostG w.heap.size Kp I Ix (pre ++ [x]) X) a' X)
    (hdone : ∀ (D : Nat) (xs : List α) (X : World), w.heap.size ≤ D → S xs → I xs X → X.heap[D]? = some (.deferred (some [])) → Q .normal { a with defers := { target := .collected D, args := #[] } :: a.defers } X)
    (hstop : ∀ (D : Nat) (c : Code) (pre : List α) (X : World), w.heap.size ≤ D → Sp pre → Ix c pre X → X.heap[D]? = some (.deferred (some [])) → c.wpIn F n P Q { a with defers := { target := .collected D, args := #[] } :: a.defers } X) :
    (Code.rangeFunc g ps assign body).wpIn F n P Q a w := by
  refine wpIn_rangeFunc fun fn hfn => ?_
  rw [hro]
  obtain ⟨rec, hrec⟩ : ∃ rec : LoopState → Option Code → Loop, rec = fun s p => { state := s, pending := p, fn, tmps := a.tmps, params := ps, assign, body, defers := w.heap.size } := ⟨_, rfl⟩
  obtain ⟨V, hV⟩ : ∃ V, (w.alloc (.deferred (some []))).alloc (.loop (rec .ready none)) = V := ⟨_, rfl⟩
  have hVs : V.heap.size = w.heap.size + 2 := by rw [← hV]; simp
  have hbV : Below w.heap.size w V := by rw [← hV]; exact ((Below.refl _ w).alloc (Nat.le_refl _) _).alloc (by simp) _
  have hB0 : Book (w.heap.size + 1) w.heap.size (rec .ready none) V := by
    refine ⟨?_, ?_⟩
    · rw [← hV]; have := World.alloc_heap_new (w.alloc (.deferred (some []))) (.loop (rec .ready none)); rwa [World.size_alloc] at this
    · rw [← hV]; exact (Below.heap_alloc _ _ _ (by simp)).trans (World.alloc_heap_new w _)
  have hIV : I [] V := by rw [← hV]; exact hI.alloc _ (hI.alloc _ h0)
  refine ⟨w.heap.size + 1, [{ target := .collected w.heap.size, args := #[] }], V, { target := .fn (.func gf) lb, args := #[.func (.yield (w.heap.size + 1)) #[] #[]] }, V, gf,
    #[.func (.yield (w.heap.size + 1)) #[] #[]] ++ lb, V, by rw [← hV, hrec]; exact run_enterLoop_outer _ _ _ _ _, by simp only [resolve, hg]; simp [go_sem], fun f' hf' => by simp [Target.leads] at hf'; subst hf'; exact hFg, by simp [invoke, go_sem, eg], fun _ => h1, ?_⟩
  have hnc : ∀ {A : World} {row : Option Nat}, (∀ r, row = some r → V.heap.size ≤ r ∧ ∃ o : Obj, A.heap[r]? = some o ∧ o.isWalk = true) → (∀ r, row = some r → w.heap.size ≤ r ∧ ∃ o : Obj, A.heap[r]? = some o ∧ o.isCells = false) :=
    fun hr r e => by obtain ⟨hb, o, ho, hw⟩ := hr r e; exact ⟨by omega, o, ho, Obj.not_cells_of_walk hw⟩
  refine (hseq (w.heap.size + 1) (fun pre X => I pre X ∧ Book (w.heap.size + 1) w.heap.size (rec .ready none) X) (fun pre X => ∃ c, Ix c pre X ∧ Book (w.heap.size + 1) w.heap.size (rec .done (some c)) X) V hbV hVs ?_ ?_ ?_ ⟨hIV, hB0⟩).mono ?_
  · intro s X Y row hs hgr hr
    exact ⟨hI s X Y row hs.1 hgr (hnc hr), hs.2.turn hgr (walk_not hs.2.1 rfl fun r e => (hr r e).2) (walk_not hs.2.2 rfl fun r e => (hr r e).2)⟩
  · intro hid s X Y hs hgr
    rw [hVs] at hgr
    exact ⟨hIB hid s X Y hs.1 hgr, hs.2.turn hgr (by simp) (by simp)⟩
  · rintro pre x X ⟨hi, hb⟩ hX hN
    rw [hVs] at hX
    have hy := run_yield (P := P) (args := encs x) hb.1 (by rw [hrec]; exact hps x)
    rw [hrec] at hy
    refine ⟨fn, _, assign, body, hy, roundIn_of_wpIn hfn (hassign _ pre x X _ hX hN hi ?_)⟩
    clear hy
    intro a' Y hkf hkp hiY hax
    have hbY := hb.keeps hkf (by omega)
    have hsY := hkf.size
    refine ⟨_, run_beginRound hbY.1 (by rw [hrec]), ?_⟩
    have hbZ : Book (w.heap.size + 1) w.heap.size { rec .ready none with state := .busy } (Y.putObj (w.heap.size + 1) (.loop { rec .ready none with state := .busy })) := hbY.put (by omega)
    have hkZ := hKb Y (.loop { rec .ready none with state := .busy })
    have hiZ := hI.putObj (.loop { rec .ready none with state := .busy }) hiY (by omega) hbY.1 rfl
    have haZ := (hAx x a').putObj (s := ()) (.loop { rec .ready none with state := .busy }) hax (by omega) hbY.1 rfl
    have hsZ : w.heap.size + 2 < (Y.putObj (w.heap.size + 1) (.loop { rec .ready none with state := .busy })).heap.size := by simp [World.putObj]; omega
    refine wpIn_mono (hbody _ pre x a' _ hsZ hiZ haZ hN) ?_
    clear hiZ haZ
    generalize Y.putObj (w.heap.size + 1) (.loop { rec .ready none with state := .busy }) = Z at *
    have out : ∀ (jump : Option Code) (T : World), KeepsFrom w.heap.size Z T →
        (Instr.endRound (w.heap.size + 1) jump).run P T = .ok (.bool jump.isNone) (T.putObj (w.heap.size + 1) (.loop (rec (if jump.isNone then .ready else .done) jump))) ∧ Book (w.heap.size + 1) w.heap.size { rec .ready none with state := .busy } T ∧
        Book (w.heap.size + 1) w.heap.size (rec (if jump.isNone then .ready else .done) jump) (T.putObj (w.heap.size + 1) (.loop (rec (if jump.isNone then .ready else .done) jump))) := fun jump T hk => by
      have hT := hbZ.keeps hk (by omega)
      refine ⟨?_, hT, hT.put (by omega)⟩
      have := run_endRound (P := P) jump hT.1
      rw [hrec] at this ⊢
      exact this
    have stop : ∀ (c : Code) (T : World), KeepsFrom w.heap.size Z T → Ix c (pre ++ [x]) T → ∃ v T', (Instr.endRound (w.heap.size + 1) (some c)).run P T = .ok v T' ∧
        ((Ending.returned v = .returned (.bool true) ∧ (I (pre ++ [x]) T' ∧ Book (w.heap.size + 1) w.heap.size (rec .ready none) T') ∧ Kp X T') ∨ (Ending.returned v = .returned (.bool false) ∧ ∃ c, Ix c (pre ++ [x]) T' ∧ Book (w.heap.size + 1) w.heap.size (rec .done (some c)) T')) := fun c T hk hi => by
      obtain ⟨e1, e2, e3⟩ := out (some c) T hk
      exact ⟨_, _, e1, .inr ⟨rfl, c, (hIx c).putObj _ hi (by omega) e2.1 rfl, e3⟩⟩
    rintro e a3 T hp
    cases e with
    | normal =>
      obtain ⟨hk, hkp2, hi2⟩ := hp
      obtain ⟨e1, e2, e3⟩ := out none T hk
      exact ⟨_, _, e1, .inl ⟨rfl, ⟨hI.putObj _ hi2 (by omega) e2.1 rfl, e3⟩, hKt hkp (hKt (hKt hkZ hkp2) (hKb _ _))⟩⟩
    | ret => exact stop .ret T hp.1 hp.2
    | exit id => exact stop (.exit id) T hp.1 hp.2
    | goto t => exact stop (.goto t) T hp.1 hp.2
    | panic ch => exact hp.elim
    | outgrown => exact hp.elim
  · rintro e T ⟨⟨v, rfl⟩, (⟨xs, hS, hi, hb⟩ | ⟨pre, hSp, c, hi, hb⟩)⟩
    · exact ⟨none, _, by have := run_endLoop (P := P) hb.1 (by rw [hrec]; simp); rw [hrec] at this; exact this, hdone _ xs _ (Nat.le_refl _) hS (hI.putObj _ hi (by omega) hb.1 rfl) ((World.putObj_heap_other (by omega)).trans hb.2)⟩
    · exact ⟨some c, _, by have := run_endLoop (P := P) hb.1 (by rw [hrec]; simp); rw [hrec] at this; exact this, hstop _ c pre _ (Nat.le_refl _) hSp ((hIx c).putObj _ hi (by omega) hb.1 rfl) ((World.putObj_heap_other (by omega)).trans hb.2)⟩
end Go.MemQ
