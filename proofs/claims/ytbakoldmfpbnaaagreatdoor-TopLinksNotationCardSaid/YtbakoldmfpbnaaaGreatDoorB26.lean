/- Part 26 of the walks of the golf union's program: TailR. -/
import Derived.Test.YtbakoldmfpbnaaaGreatDoorB03
import Derived.Test.YtbakoldmfpbnaaaGreatDoorB18
set_option linter.unusedVariables false
set_option linter.unusedSimpArgs false
set_option linter.unusedSectionVars false
set_option linter.constructorNameAsVariable false
/- TailW's law inside a round of a range over a function (the wide fence): the region is walked as outside of it. -/
namespace Go.Mem
open Go Go.RowKit
variable {P : Program} {ops : Array Oper} {md : Region.Mode} {lp m : Nat}
/-- what follows, at the plain end alone -/
def OnlyN (Q : Exit → Act → World → Prop) (e : Exit) (a : Act) (w : World) : Prop :=
  match e with
  | .normal => Q .normal a w
  | _ => False
theorem OnlyN.normal {Q : Exit → Act → World → Prop} {a : Act} {w : World} (h : Q .normal a w) : OnlyN Q .normal a w := h
theorem wpIn_of_wp {o : Oper} {a : Act} {K K' : Act → World → Prop} {Q : Exit → Act → World → Prop} {w : World} (hd : nd o = true) (hK : ∀ a w, K a w → K' a w) (h : o.wp P a w K (OnlyN Q)) : o.wpIn (Fence.wide.inRound lp) m P a w K' Q := by
  unfold Oper.wp at h
  unfold Oper.wpIn
  refine ⟨fun _ _ => trivial, ?_⟩
  rw [Fence.inRound_round, semAt_nd _ _ hd]
  generalize (execOp a.eval o).run P w = r at *
  cases r with
  | ok n w' =>
    cases n <;> simp only [Oper.upon] at h <;> simp only [Oper.uponIn]
    case value u => exact hK _ _ h
    case skip => exact hK _ _ h
    case defer d => exact hK _ _ h
    case enter f args =>
      refine ⟨fun h => (by cases h), CallsIn.inRound lp (callsIn_wide.2 (Calls.mono h ?_))⟩
      intro e w'' he
      cases e with
      | returned v => exact hK _ _ he
      | panicked c => exact False.elim he
      | outgrown => obtain ⟨_, _, h⟩ := he; exact False.elim h
    case row r args =>
      refine ⟨fun h => (by cases h), fun c cs _ => ?_⟩
      obtain ⟨v, w2, h1, h2⟩ := h c cs
      exact ⟨v, w2, hK _ _ h1, stepsIn_wide.2 h2⟩
  | halt x w' => cases x <;> simp only [Oper.upon] at h <;> exact False.elim h
theorem wpAnyIn_of_any {Q : Exit → Act → World → Prop} (hd : ∀ (i : Nat) o, ops[i]? = some o → nd o = true) (g : Nat) : ∀ (ls : Array Bool) (a : Act) (w : World), wpAny P md ops (OnlyN Q) g ls a w → wpAnyIn (Fence.wide.inRound lp) m P md ops Q g ls a w := by
  induction g with
  | zero => exact fun ls a w h => ⟨h.1, h.2⟩
  | succ g ih =>
    intro ls a w h
    refine ⟨fun h0 => h.1 h0, fun i hi => ?_⟩
    have h2 := h.2 i hi
    unfold wpOp at h2
    unfold wpOpIn
    split
    · rename_i ho; simp only [ho] at h2; exact ih _ _ _ h2
    · rename_i o ho
      simp only [ho] at h2
      split
      · rename_i hw
        rw [if_pos hw] at h2
        rcases h2 with h2 | ⟨_, _, _, h2⟩
        · exact wpIn_of_wp (hd i o ho) (fun a w => ih _ a w) h2
        · exact False.elim h2
      · rename_i hw
        rw [if_neg hw] at h2
        exact ⟨fun _ _ => trivial, ih _ _ _ h2⟩
theorem wpIn_head_tail {id : Nat} {Q : Exit → Act → World → Prop} {a : Act} {w : World} {l : List Oper} (m' n k : Nat) (pre qs : List Nat) (hpre' : List.range m' = pre) (K : World → Prop) (hm : P.follows .mixedOrders = true) (hB : headWB l.toArray m' n k qs = true) (hd : ndAll l = true) (hK : K w.drew)
    (h1 : wpQuiet P l.toArray (fun _ => True) (fun a1 => wpQuiet P l.toArray (fun w' => ∃ y : Wd K, w' = y.w) (fun a2 => headW P .any l.toArray (OnlyN Q) K n
        (fun ls a' w' => Region.seqB .any l.toArray (l.toArray.size - n) n ls = true ∧ wpList P l.toArray (OnlyN Q) (l.drop n) a' w') k (setAll qs (setAll pre (Array.replicate l.toArray.size false))) a2 w.drew) (pick l.toArray qs) a1) (pick l.toArray pre) a) :
    (Code.region id l.toArray true).wpIn (Fence.wide.inRound lp) m P Q a w := by
  subst hpre'
  have e : (fun w' => ∃ y : Wd K, w' = y.w) = K := by
    funext w'
    exact propext ⟨fun ⟨y, hy⟩ => hy ▸ y.h, fun h => ⟨⟨w', h⟩, rfl⟩⟩
  rw [e] at h1
  simp only [headWB, Bool.and_eq_true, decide_eq_true_eq] at hB
  obtain ⟨⟨⟨⟨⟨⟨⟨⟨hsel, hn⟩, hmk⟩, hs⟩, hc⟩, hpre⟩, hqs⟩, hqn⟩, hmn⟩ := hB
  have hQ : ∀ c a a' w, OnlyN Q (.panic c) a' w → OnlyN Q (.panic c) a w := fun _ _ _ _ h => (h : False).elim
  have inv0 : HeadInv .any l.toArray n (Array.replicate l.toArray.size false) :=
    ⟨by simp, fun j oj _ hl => (by rw [getD_replicate_false] at hl; cases hl), fun t _ ht => getD_in (by simpa using ht) (getD_replicate_false _ _)⟩
  have inv1 := HeadInv.setAll (List.range m') _ inv0 hpre fun i hi => by have := List.mem_range.1 hi; omega
  refine wpIn_region_any hm ?_
  have hdl : (l.drop n).length = l.toArray.size - n := by simp
  have hsz : l.toArray.size = (List.range m').length + ((qs.length + k) + (l.toArray.size - n)) := by rw [List.length_range]; omega
  have hfu : wpAny P .any l.toArray (OnlyN Q) ((List.range m').length + ((qs.length + k) + (l.toArray.size - n))) (Array.replicate l.toArray.size false) a w.drew := by
    refine wpAny_pre hsel hQ (List.range m') _ _ hpre ?_
    refine wpQuiet_mono' (fun a1 h3 => ?_) h1
    refine headW_sound (n := n) (S := K) (fun ls a' w' hL => ?_) (qs.length + k) _ a1 w.drew ?_ (L := fun ls a' w' => Region.seqB .any l.toArray (l.toArray.size - n) n ls = true ∧ wpList P l.toArray (OnlyN Q) (l.drop n) a' w')
    · have := wpAny_of_seq (P := P) (md := .any) (Q' := OnlyN Q) (l.drop n) n ls a' w' (fun j => by simp [List.getElem?_drop]) (by rw [hdl]; exact hL.1) hL.2
      rwa [hdl] at this
    · exact headW_qs hsel hs hc hn hQ (fun ls a w hL => seqB_ready hL.1) hK qs _ a1 inv1 (fun i hi => setAll_mem _ _ i (List.mem_range.2 hi)) hqs (fun i hi => by simpa using List.all_eq_true.1 hqn i hi) h3
  rw [← hsz] at hfu
  exact wpAnyIn_of_any (fun i o ho => by
    rw [List.getElem?_toArray] at ho
    exact List.all_eq_true.1 hd o (List.mem_of_getElem? ho)) _ _ _ _ hfu
end Go.Mem
