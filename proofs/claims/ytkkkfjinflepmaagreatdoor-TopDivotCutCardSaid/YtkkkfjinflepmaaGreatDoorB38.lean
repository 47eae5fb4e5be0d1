/- Part 38 of the walks of the golf union's program: DP6. -/
import Derived.Test.YtkkkfjinflepmaaGreatDoorB01
import Derived.Maps.OwnOps
import Derived.Maps.Views
import Derived.Maps.RangeWalk
set_option linter.unusedVariables false
set_option linter.unusedSimpArgs false
set_option linter.unusedSectionVars false
set_option linter.constructorNameAsVariable false
/- A map of ints to whatever values, as an assertion. -/
namespace Go.Mem
open Go.RowKit Go.Maps
def heldR (v : Value) : Option (DataW Value × List MemPlace) := some (.held v, [])
/-- block b is a map from ints of at most m entries; at x lies f x (nil where there is no entry); its keys are S -/
def mapH (P : Program) (K : TypeId) (b m : Nat) (f : Nat → Value) (S : Nat → Prop) : Asr where
  holds w F := (∃ D : DataW Value, w.ownsMap P K heldR b m D ∧ IsMap D ∧ (∀ x : Nat, D.atKey (.int .i64 x) (.held (.slice none 0 0)) = .held (f x)) ∧ (∀ kl : Lit, has D kl = true → ∃ x : Nat, kl = .int .i64 x ∧ S x) ∧ ∀ x : Nat, S x → has D (.int .i64 x) = true) ∧ F b
  loc := by
    rintro w w' F ⟨⟨D, ⟨es, clock, hb, h2⟩, h3, h4⟩, hF⟩ hs hk
    exact ⟨⟨D, ⟨es, clock, (hk b hF).trans hb, h2⟩, h3, h4⟩, hF⟩
  mono := fun ⟨h, hF⟩ hh => ⟨h, hh _ hF⟩
theorem St.mapH_new {W w : World} {L : List Asr} (h : St W w L) (P : Program) (K : TypeId) : St W (w.alloc (.map #[] 0)) (L ++ [mapH P K w.heap.size 0 (fun _ => .slice none 0 0) (fun _ => False)]) :=
  h.push (F := fun b => b = w.heap.size) ((Below.refl _ _).alloc (Nat.le_refl _) _) ⟨⟨.map [], World.ownsMap_made _ _ _ _, isMap_empty, fun _ => rfl, (fun kl hk => by cases hk), (fun x h => False.elim h)⟩, rfl⟩ (fun b hb => by subst hb; simp)
theorem wpList_mapUpdate_h {P : Program} {W w : World} {L : List Asr} {i : Nat} {ops : Array Oper} {rest : List Oper} {o : Oper} {a : Act} {Q : Exit → Act → World → Prop}
    (hg : o.guard = none) (m x v : Operand) (t : TypeId) (hop : o.op = Op.mapUpdate t m x v)
    (k e : TypeId) (hk : P.underlying k = some (.int .i64)) (ht : P.underlying t = some (.map k e))
    {b c : Nat} {f : Nat → Value} {S0 : Nat → Prop} (S : St W w L) (hi : L[i]? = some (mapH P k b c f S0)) (hm : a.eval m = .map (some b)) (hc : c ≤ 1000000) (key : Nat) (hx : a.eval x = .int .i64 (key : Int)) (h63 : key ≤ 1000000)
    (val : Value) (hv : a.eval v = val)
    (hK : ∀ w', St W w' (L.set i (mapH P k b (c + 1) (fun j => if j = key then val else f j) (fun j => S0 j ∨ j = key))) → wpList P ops Q rest (a.put o.dst undef) w') : wpList P ops Q (o :: rest) a w := by
  obtain ⟨F1, h1, ⟨⟨D, hown, hM, hat, hks, hsk⟩, hF⟩, h3⟩ := S.upd hi
  have hwf : (Lit.int .i64 (key : Int)).wf = true := WalkArith.wf_i64 (by omega)
  refine wpList_mapUpdate_own _ hg m x v t hop k e (int_keyed hk) ht _ b c D hm hown (by unfold maxLen; omega) _ _ _ hx hv (keyOf_int_mk hk hwf) _ [] rfl ?_
  intro w' hown' hg'
  refine hK w' (h3 w' _ F1 (some b) ⟨⟨_, hown', hM.put _ _, fun y => ?_, fun kl hkl => ?_, fun y hy => ?_⟩, hF⟩ hg' (fun g hg => by cases hg; exact hF) (fun b hb => .inl hb))
  · show _ = DataW.held (if y = key then val else f y)
    by_cases hy : y = key
    · subst hy
      rw [if_pos rfl]
      exact atKey_put_same hM (by trivial) _ _
    · rw [if_neg hy, atKey_put_other (by intro e; simp only [Lit.int.injEq, true_and] at e; omega)]
      exact hat y
  · by_cases e : kl = .int .i64 (key : Int)
    · exact ⟨key, e, .inr rfl⟩
    · rw [has_put_other e] at hkl
      obtain ⟨y, h1, h2⟩ := hks kl hkl
      exact ⟨y, h1, .inl h2⟩
  · by_cases e : y = key
    · subst e
      exact has_put_same hM (by trivial) _
    · rw [has_put_other (by intro e2; simp only [Lit.int.injEq, true_and] at e2; omega)]
      rcases hy with hy | hy
      · exact hsk y hy
      · exact absurd hy e
theorem wpList_lookup_h {P : Program} {W w : World} {L : List Asr} {i : Nat} {ops : Array Oper} {rest : List Oper} {o : Oper} {a : Act} {Q : Exit → Act → World → Prop}
    (hg : o.guard = none) (m x : Operand) (t : TypeId) (hop : o.op = Op.lookup t m x false)
    (k e : TypeId) (hk : P.underlying k = some (.int .i64)) (ht : P.underlying t = some (.map k e)) (hz : (zeroValue e).run P w = .ok (.slice none 0 0) w)
    {b c : Nat} {f : Nat → Value} {S0 : Nat → Prop} (S : St W w L) (hi : L[i]? = some (mapH P k b c f S0)) (hm : a.eval m = .map (some b)) (key : Nat) (hx : a.eval x = .int .i64 (key : Int)) (h63 : key ≤ 1000000)
    (hK : wpList P ops Q rest (a.put o.dst (f key)) w) : wpList P ops Q (o :: rest) a w := by
  obtain ⟨F, hF, ⟨D, hown, hM, hat, hks, hsk⟩, _⟩ := S.get hi
  have hwf : (Lit.int .i64 (key : Int)).wf = true := WalkArith.wf_i64 (by omega)
  obtain ⟨v, ps, hrun, hv⟩ := hown.lookup (int_keyed hk) ht hz (z := .slice none 0 0) rfl (keyOf_int_mk hk hwf)
  rw [hat key] at hv
  have e1 : v = f key := by
    have e1 : (some (DataW.held v, ([] : List MemPlace))) = some (DataW.held (f key), ps) := hv
    simp only [Option.some.injEq, Prod.mk.injEq, DataW.held.injEq] at e1
    exact e1.1
  subst e1
  refine wpList_plain hg fun K' hK' => ?_
  unfold Oper.wp
  simp [execOp, hop, hm, hx, hrun, Result.andThen]
  exact hK' _ _ hK
end Go.Mem
