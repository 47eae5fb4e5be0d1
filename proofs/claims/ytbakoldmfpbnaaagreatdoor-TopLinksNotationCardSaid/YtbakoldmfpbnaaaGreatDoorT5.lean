/- A map of ints to ints with its keys, as an assertion; points and scores, plain. -/
import Derived.Test.YtbakoldmfpbnaaaGreatDoorT4
import Derived.Test.YtbakoldmfpbnaaaGreatDoorT3
import Derived.Test.YtbakoldmfpbnaaaGreatDoorTS
import Derived.Maps.OwnOps
import Derived.Maps.Views
import Derived.Maps.RangeWalk
set_option linter.unusedVariables false
set_option linter.unusedSimpArgs false
set_option linter.unusedSectionVars false
set_option linter.constructorNameAsVariable false
namespace Go.Mem
open Go.RowKit Go.Maps
/-- block b is a map from ints to ints of at most m entries; at x lies f x; its keys fulfil S -/
def mapK (P : Program) (K E : TypeId) (b m : Nat) (f : Nat → Int) (S : Nat → Prop) : Asr where
  holds w F := (∃ D : DataW Unit, w.ownsMap P K (plainElem P E) b m D ∧ IsMap D ∧ (∀ x : Nat, D.atKey (.int .i64 x) (.lit (.int .i64 0)) = .lit (.int .i64 (f x))) ∧ ∀ kl : Lit, has D kl = true → ∃ x : Nat, kl = .int .i64 x ∧ S x) ∧ F b
  loc := by
    rintro w w' F ⟨⟨D, ⟨es, clock, hb, h2⟩, h3, h4⟩, hF⟩ hs hk
    exact ⟨⟨D, ⟨es, clock, (hk b hF).trans hb, h2⟩, h3, h4⟩, hF⟩
  mono := fun ⟨h, hF⟩ hh => ⟨h, hh _ hF⟩
theorem St.mapK_new {W w : World} {L : List Asr} (h : St W w L) (P : Program) (K E : TypeId) : St W (w.alloc (.map #[] 0)) (L ++ [mapK P K E w.heap.size 0 (fun _ => 0) (fun _ => False)]) :=
  h.push (F := fun b => b = w.heap.size) ((Below.refl _ _).alloc (Nat.le_refl _) _) ⟨⟨.map [], World.ownsMap_made _ _ _ _, isMap_empty, fun _ => rfl, fun kl hk => by cases hk⟩, rfl⟩ (fun b hb => by subst hb; simp)
theorem wpList_mapUpdate_k {P : Program} {W w : World} {L : List Asr} {i : Nat} {ops : Array Oper} {rest : List Oper} {o : Oper} {a : Act} {Q : Exit → Act → World → Prop}
    (hg : o.guard = none) (m x v : Operand) (t : TypeId) (hop : o.op = Op.mapUpdate t m x v)
    (k e : TypeId) (hk : P.underlying k = some (.int .i64)) (ht : P.underlying t = some (.map k e)) (he : P.underlying e = some (.int .i64))
    {b c : Nat} {f : Nat → Int} {S0 : Nat → Prop} (S : St W w L) (hi : L[i]? = some (mapK P k e b c f S0)) (hm : a.eval m = .map (some b)) (hc : c ≤ 1000000) (key : Nat) (hx : a.eval x = .int .i64 (key : Int)) (h63 : key ≤ 1000000)
    (val : Int) (hv : a.eval v = .int .i64 val) (hb : -1000000000 ≤ val ∧ val ≤ 1000000000)
    (hK : ∀ w', St W w' (L.set i (mapK P k e b (c + 1) (fun j => if j = key then val else f j) (fun j => S0 j ∨ j = key))) → wpList P ops Q rest (a.put o.dst undef) w') : wpList P ops Q (o :: rest) a w := by
  obtain ⟨F1, h1, ⟨⟨D, hown, hM, hat, hks⟩, hF⟩, h3⟩ := S.upd hi
  have hwf : (Lit.int .i64 (key : Int)).wf = true := WalkArith.wf_i64 (by omega)
  refine wpList_mapUpdate_own _ hg m x v t hop k e (int_keyed hk) ht _ b c D hm hown (by unfold maxLen; omega) _ _ _ hx hv (keyOf_int_mk hk hwf) _ [] (plainElem_int he (WalkArith.wf_i64 (by omega))) ?_
  intro w' hown' hg'
  refine hK w' (h3 w' _ F1 (some b) ⟨⟨_, hown', hM.put _ _, fun y => ?_, fun kl hkl => ?_⟩, hF⟩ hg' (fun g hg => by cases hg; exact hF) (fun b hb => .inl hb))
  · show _ = DataW.lit (.int .i64 (if y = key then val else f y))
    by_cases hy : y = key
    · subst hy
      rw [if_pos rfl]
      exact atKey_put_same hM (by trivial) _ _
    · rw [if_neg hy, atKey_put_other (by intro e; simp only [Lit.int.injEq, true_and] at e; omega)]
      exact hat y
  · by_cases e : kl = .int .i64 (key : Int)
    · exact ⟨key, e, .inr rfl⟩
    · rw [has_put_other e] at hkl
      obtain ⟨y, h1, h2⟩ := hks kl hkl
      exact ⟨y, h1, .inl h2⟩
end Go.Mem
namespace Go.Proofs.YtbakoldmfpbnaaaGreatDoor
open Go.RowKit Go.Mem Go.Sheet Go.Adj
def posB (P : Nat → Int) : Nat → Bool
  | 0 => true
  | k + 1 => posB P k && decide (0 < P k)
theorem posB_at {P : Nat → Int} : ∀ {n i : Nat}, posB P n = true → i < n → 0 < P i
  | n + 1, i, h, hi => by
    rw [posB, Bool.and_eq_true, decide_eq_true_iff] at h
    by_cases e : i = n
    · subst e; exact h.2
    · exact posB_at h.1 (by omega)
theorem sumTo_add (f g : Nat → Int) : ∀ n, sumTo f n + sumTo g n = sumTo (fun i => f i + g i) n
  | 0 => rfl
  | n + 1 => by
    have ih := sumTo_add f g n
    show sumTo f n + f n + (sumTo g n + g n) = sumTo (fun i => f i + g i) n + (f n + g n)
    omega
/-- where all holes count and all points are above 0, points and net score are together the same for all players -/
theorem pts_score {hs : List HI} {es : List EI} {co : Int} {n : Nat} (ha : allO (netF hs es co) n = true) (hp : posB (ptsL hs es co) n = true) :
    sumTo (ptsL hs es co) n + sumTo (fun i => (netF hs es co i).s) n = sumTo (fun i => 2 + (hAt hs i).par) n := by
  rw [sumTo_add]
  refine sumTo_congr fun i hi => ?_
  have h1 := (allO_iff _ _).1 ha i hi
  have h2 := posB_at hp hi
  unfold ptsL ptN at h2 ⊢
  rw [h1] at h2 ⊢
  simp only [isO, if_true] at h2 ⊢
  omega
theorem pts_bd {W : World} {v ve : Value} {n : Nat} {hs : List HI} {es : List EI} {name : ByteArray} {co : Int} (h : CEnv W v ve n hs es name) (hco : -99 ≤ co ∧ co ≤ 99) : ∀ i, i < n → 0 ≤ ptsL hs es co i ∧ ptsL hs es co i ≤ 300 := fun i hi => by
  have h1 := net_bd h hco i hi
  have h2 := h.gh.par i (by rw [← h.len]; exact hi)
  unfold ptsL ptN
  split
  · omega
  · omega
end Go.Proofs.YtbakoldmfpbnaaaGreatDoor
