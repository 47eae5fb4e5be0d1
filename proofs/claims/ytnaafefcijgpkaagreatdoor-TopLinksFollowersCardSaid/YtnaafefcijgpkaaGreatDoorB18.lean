/- Part 18 of the walks of the golf union's program: CopyS. -/
import Derived.Test.YtnaafefcijgpkaaGreatDoorB01
import Derived.Laws.CopyOwn
set_option linter.unusedVariables false
set_option linter.unusedSimpArgs false
set_option linter.unusedSectionVars false
set_option linter.constructorNameAsVariable false
/- copy of elements of several cells; a slice filled with copies of one element. -/
namespace Go.Mem
open Go Go.RowKit
theorem run_copy_sz {P : Program} (w : World) (dT sT ty elem : TypeId) (g o dLen dCap : Nat) (a : Addr) (sLen sCap size : Nat) (cur : Array Value) (t : TypeId) (cs : List Value)
    (hu : P.underlying dT = some (.slice elem)) (hs : (P.info? elem).map (·.size) = some size)
    (hg : w.heap[g]? = some (.cells cur t (0, 0))) (hn : cs.length = Nat.min sLen dLen * size)
    (hsrc : ∀ j v, cs[j]? = some v → w.cell? (a.add j) = some v) (hfit : o + cs.length ≤ cur.size) (h1 : ∀ v ∈ cs, v.oneCell' = true) :
    (Builtin.copy_ #[dT, sT] ty #[.slice (some ⟨g, o, none⟩) dLen dCap, .slice (some a) sLen sCap]).run P w =
      .ok (goInt (Nat.min sLen dLen)) (w.setRow g (cur.toList.take o ++ cs ++ cur.toList.drop (o + cs.length)).toArray) := by
  have hl := run_loadCells_list (P := P) w a cs hsrc
  have hst := run_storeCells_at P g o t cs 0 cur w hg (by simpa using hfit) h1
  cases hq : P.info? elem with
  | none => simp [hq] at hs
  | some i =>
    have hi : i.size = size := by simpa [hq] using hs
    simp [Builtin.copy_, run_underlying hu, Builtin.lenOf, Builtin.firstCells, sizeOf, typeInfo, hq, hi, ← hn, hl, hst]
theorem wpList_copy_sz {P : Program} {w : World} {ops : Array Oper} {rest : List Oper} {o : Oper} {a : Act} {Q : Exit → Act → World → Prop} (hgd : o.guard = none) (d s : Operand) (dT sT : TypeId)
    (ho : o.op = .call { callee := .builtin .copy, args := #[d, s], argTypes := #[dT, sT] }) (elem : TypeId) (size : Nat) (hu : P.underlying dT = some (.slice elem)) (hsz : (P.info? elem).map (·.size) = some size)
    (ad : Addr) (dLen dCap sLen sCap : Nat) (g off : Nat) (hd : a.eval d = .slice (some ⟨g, off, none⟩) dLen dCap) (hs : a.eval s = .slice (some ad) sLen sCap)
    (cur : List Value) (t : TypeId) (hg : w.heap[g]? = some (.cells cur.toArray t (0, 0))) (cs : List Value) (hn : cs.length = Nat.min sLen dLen * size)
    (hsrc : ∀ j v, cs[j]? = some v → w.cell? (ad.add j) = some v)
    (hfit : off + cs.length ≤ cur.length) (h1 : ∀ v ∈ cs, v.oneCell' = true) (B : Nat) (w0 : World) (hb : Below B w0 w) (hBg : B ≤ g)
    (h : ∀ w', Hid (w'.heap[g]? = some (.cells (splice cur off cs).toArray t (0, 0))) → Below B w0 w' → wpList P ops Q rest (a.put o.dst (goInt (Nat.min sLen dLen))) w') :
    wpList P ops Q (o :: rest) a w := by
  refine wpList_plain hgd fun K hK => ?_
  have hrun := run_copy_sz (P := P) w dT sT o.type elem g off dLen dCap ad sLen sCap size cur.toArray t cs hu hsz hg hn hsrc (by simpa using hfit) h1
  unfold Oper.wp
  simp [execOp, ho, resolve, invoke, builtin, hd, hs, hrun, Result.andThen]
  exact hK _ _ (h _ (show _ = _ by simpa [splice] using setRow_heap w g _ _ t _ hg) (below_setRow hb hBg _))
/-- k copies of u, the rest z -/
def fillU (u z : List Value) (n k : Nat) : List Value := (List.replicate k u).flatten ++ (List.replicate (n - k) z).flatten
theorem rep_len (u : List Value) (k : Nat) : (List.replicate k u).flatten.length = k * u.length := by simp
theorem fillU_len {u z : List Value} (hz : z.length = u.length) {n k : Nat} (h : k ≤ n) : (fillU u z n k).length = n * u.length := by
  rw [fillU, List.length_append, rep_len, rep_len, hz, ← Nat.add_mul]
  congr 1; omega
theorem rep_add (u : List Value) (a b : Nat) : (List.replicate (a + b) u).flatten = (List.replicate a u).flatten ++ (List.replicate b u).flatten := by
  rw [← List.replicate_append_replicate, List.flatten_append]
theorem fillU_splice {u z : List Value} (hz : z.length = u.length) {n k m : Nat} (h : k + m ≤ n) : splice (fillU u z n k) (k * u.length) (List.replicate m u).flatten = fillU u z n (k + m) := by
  have e1 : (fillU u z n k).take (k * u.length) = (List.replicate k u).flatten := by
    rw [fillU, List.take_append_of_le_length (by rw [rep_len]; exact Nat.le_refl _), List.take_of_length_le (by rw [rep_len]; exact Nat.le_refl _)]
  have e2 : (fillU u z n k).drop (k * u.length + (List.replicate m u).flatten.length) = (List.replicate (n - (k + m)) z).flatten := by
    have h1 : fillU u z n k = ((List.replicate k u).flatten ++ (List.replicate m z).flatten) ++ (List.replicate (n - (k + m)) z).flatten := by
      rw [fillU, List.append_assoc, ← rep_add, show m + (n - (k + m)) = n - k by omega]
    have h2 : k * u.length + (List.replicate m u).flatten.length = ((List.replicate k u).flatten ++ (List.replicate m z).flatten).length := by
      rw [List.length_append, rep_len, rep_len, rep_len, hz]
    rw [h1, h2, List.drop_left]
  rw [splice, e1, e2, fillU, rep_add, List.append_assoc]
theorem fillU_at {u z : List Value} {n k m j : Nat} (hm : m ≤ k) {v : Value} (h : (List.replicate m u).flatten[j]? = some v) : (fillU u z n k)[j]? = some v := by
  have hj := (List.getElem?_eq_some_iff.1 h).1
  rw [fillU, show k = m + (k - m) by omega, rep_add, List.append_assoc, List.getElem?_append_left hj]
  exact h
theorem made_rep (z : Array Value) (hz : 0 < z.size) (n : Nat) : (madeCells z (n * z.size)).toList = (List.replicate n z.toList).flatten := by
  have e : (List.replicate n z.toList).flatten = (List.range n).flatMap fun _ => z.toList := by
    have : List.replicate n z.toList = (List.range n).map fun _ => z.toList := by
      rw [List.map_const', List.length_range]
    rw [this, List.flatMap_def]
  rw [e]
  apply List.ext_getElem?
  intro i
  by_cases hi : i < n * z.size
  · have hd : i / z.size < n := (Nat.div_lt_iff_lt_mul hz).2 hi
    have hm : i % z.size < z.size := Nat.mod_lt _ hz
    have := flatMap_at (f := fun _ : Nat => z.toList) (s := z.size) (l := List.range n) (k := i / z.size) (j := i % z.size) (x := i / z.size) (u := z[i % z.size]) (fun _ _ => by simp) (List.getElem?_range hd) (by simp [hm])
    rw [Nat.mul_comm, Nat.div_add_mod] at this
    rw [this]
    simp only [madeCells, List.getElem?_toArray, Array.getElem?_toList, Array.getElem?_map]
    rw [Array.getElem?_range]
    simp only [hi, if_true, Option.map_some]
    rw [getElem!_pos z (i % z.size) hm]
  · rw [List.getElem?_eq_none (by simp [madeCells]; omega), List.getElem?_eq_none (by rw [flatMap_len (size := z.size) (fun _ => by simp) _]; simp; omega)]
theorem row_block2 {W w : World} {L : List Asr} {i size : Nat} {e : TypeId} {g n : Nat} {xs : List Value} (h : St W w L) (hi : L[i]? = some (row e size (.slice (some ⟨g, 0, none⟩) n n) n xs)) : w.heap[g]? = some (.cells xs.toArray e (0, 0)) := by
  have ho := h.row_own hi
  rcases ho.2 with ⟨h1, _⟩ | ⟨g', cap, cur, h1, _, hg, _, _, hs, ht⟩
  · cases h1
  · injection h1 with e1 e2 e3
    injection e1 with e1
    injection e1 with e1 _
    subst e1 e3
    rw [List.take_of_length_le (by simp [hs])] at ht
    rw [hg, ← ht]
theorem st_of_block2 {W w : World} {e : TypeId} {g n size : Nat} {xs : List Value} (hb : Below W.heap.size W w) (hg : W.heap.size ≤ g) (h : w.heap[g]? = some (.cells xs.toArray e (0, 0))) (hn : xs.length = n * size) (hm : n ≤ maxLen) : St W w [row e size (.slice (some ⟨g, 0, none⟩) n n) n xs] := by
  have hlt := (Array.getElem?_eq_some_iff.1 h).1
  refine ⟨hb, fun b => b = g, fun b hb' => by subst hb'; exact ⟨hg, hlt⟩, ⟨⟨hn, .inr ⟨g, n, xs.toArray, rfl, Nat.zero_le _, h, Nat.le_refl _, hm, by simp [hn], ?_⟩⟩, fun g' hg' => by simpa [Value.ownBlock] using hg'.symm⟩, trivial⟩
  rw [List.take_of_length_le (by simp [hn])]
end Go.Mem
