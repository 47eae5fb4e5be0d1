/- Part 27 of the walks of the golf union's program: UF34. -/
import Derived.Test.YtnaafefcijgpkaaGreatDoorB26
import Derived.Maps.OwnOps
import Derived.Maps.Views
set_option linter.unusedVariables false
set_option linter.unusedSimpArgs false
set_option linter.unusedSectionVars false
set_option linter.constructorNameAsVariable false
/- A map of strings to ints that the call has made, as an assertion. -/
namespace Go.Mem
open Go.RowKit Go.Maps
/-- block b is a map from strings to ints of at most m entries; at x lies f x -/
def mapI (P : Program) (K E : TypeId) (b m : Nat) (f : ByteArray → Int) : Asr where
  holds w F := (∃ D : DataW Unit, w.ownsMap P K (plainElem P E) b m D ∧ IsMap D ∧ ∀ x : ByteArray, D.atKey (.string x.data.toList) (.lit (.int .i64 0)) = .lit (.int .i64 (f x))) ∧ F b
  loc := by
    rintro w w' F ⟨⟨D, ⟨es, clock, hb, h2⟩, h3, h4⟩, hF⟩ hs hk
    exact ⟨⟨D, ⟨es, clock, (hk b hF).trans hb, h2⟩, h3, h4⟩, hF⟩
  mono := fun ⟨h, hF⟩ hh => ⟨h, hh _ hF⟩
theorem St.mapI_new {W w : World} {L : List Asr} (h : St W w L) (P : Program) (K E : TypeId) : St W (w.alloc (.map #[] 0)) (L ++ [mapI P K E w.heap.size 0 (fun _ => 0)]) :=
  h.push (F := fun b => b = w.heap.size) ((Below.refl _ _).alloc (Nat.le_refl _) _) ⟨⟨.map [], World.ownsMap_made _ _ _ _, isMap_empty, fun _ => rfl⟩, rfl⟩ (fun b hb => by subst hb; simp)
theorem run_lookupI_st {P : Program} {W w : World} {L : List Asr} {i : Nat} (t : TypeId)
    (k e : TypeId) (hk : P.underlying k = some .string) (ht : P.underlying t = some (.map k e)) (he : P.underlying e = some (.int .i64)) (hz : ∀ w, (zeroValue e).run P w = .ok (.int .i64 0) w)
    {b c : Nat} {f : ByteArray → Int} (S : St W w L) (hi : L[i]? = some (mapI P k e b c f)) (key : ByteArray) (h63 : key.size ≤ 9223372036854775807) :
    (Instr.lookup t (.map (some b)) (.string key) false).run P w = .ok (.int .i64 (f key)) w := by
  obtain ⟨F, h1, ⟨⟨D, hown, hM, hat⟩, hF⟩⟩ := S.get hi
  obtain ⟨c', hrun, hat', _⟩ := hown.lookup_int (string_keyed hk) ht he (hz w) (WideMaps.keyOf_string_mk hk (show key.size ≤ maxLen by unfold maxLen; omega))
  rw [hat key] at hat'
  simp only [DataW.lit.injEq, Lit.int.injEq, true_and] at hat'
  rw [hat']; exact hrun
theorem wpList_mapUpdateI_st {P : Program} {W w : World} {L : List Asr} {i : Nat} {ops : Array Oper} {rest : List Oper} {o : Oper} {a : Act} {Q : Exit → Act → World → Prop}
    (hg : o.guard = none) (m x v : Operand) (t : TypeId) (hop : o.op = Op.mapUpdate t m x v)
    (k e : TypeId) (hk : P.underlying k = some .string) (ht : P.underlying t = some (.map k e)) (he : P.underlying e = some (.int .i64))
    {b c : Nat} {f : ByteArray → Int} (S : St W w L) (hi : L[i]? = some (mapI P k e b c f)) (hm : a.eval m = .map (some b)) (hc : c ≤ 1000000) (key : ByteArray) (hx : a.eval x = .string key) (h63 : key.size ≤ 9223372036854775807)
    (val : Int) (hv : a.eval v = .int .i64 val) (hb : -1000000 ≤ val ∧ val ≤ 1000000)
    (hK : ∀ w', St W w' (L.set i (mapI P k e b (c + 1) (fun j => if j = key then val else f j))) → wpList P ops Q rest (a.put o.dst undef) w') : wpList P ops Q (o :: rest) a w := by
  obtain ⟨F1, h1, ⟨⟨D, hown, hM, hat⟩, hF⟩, h3⟩ := S.upd hi
  refine wpList_mapUpdate_own _ hg m x v t hop k e (string_keyed hk) ht _ b c D hm hown (by unfold maxLen; omega) _ _ _ hx hv (WideMaps.keyOf_string_mk hk (show key.size ≤ maxLen by unfold maxLen; omega)) _ [] (plainElem_int he (WalkArith.wf_i64 (by omega))) ?_
  intro w' hown' hg'
  refine hK w' (h3 w' _ F1 (some b) ⟨⟨_, hown', hM.put _ _, fun y => ?_⟩, hF⟩ hg' (fun g hg => by cases hg; exact hF) (fun b hb => .inl hb))
  show _ = DataW.lit (.int .i64 (if y = key then val else f y))
  by_cases hy : y = key
  · subst hy
    rw [if_pos rfl]
    exact atKey_put_same hM (by trivial) _ _
  · rw [if_neg hy, atKey_put_other (by
      intro e
      simp only [Lit.string.injEq] at e
      exact hy (by obtain ⟨d⟩ := y; obtain ⟨d'⟩ := key; have e2 : d = d' := Array.toList_inj.1 e; rw [e2]))]
    exact hat y
end Go.Mem
