/- Part 12 of the walks of the golf union's program: LN9a. -/
import Derived.Test.YtbakoldmfpbnaaaGreatDoorB10
import Derived.Test.YtbakoldmfpbnaaaGreatDoorB11
set_option linter.unusedVariables false
set_option linter.unusedSimpArgs false
set_option linter.unusedSectionVars false
set_option linter.constructorNameAsVariable false
/- Chapter 1: the words of entries, as the marks write them. -/
namespace Go.Adj
open Go.RowKit Go.Mem
/-- the words of a run -/
def wordsR (q : Nat × EI) : List (List UInt8) := if 2 < q.1 then [dgL q.1 ++ 42 :: wE q.2] else List.replicate q.1 (wE q.2)
/-- the words of the first parts of nine -/
def wordsC (l : List EI) : Nat → List (List UInt8)
  | 0 => []
  | k + 1 => (if (wordsC l k).length = 0 then wordsC l k else wordsC l k ++ [[124]]) ++ (runsL ((l.drop (9 * k)).take 9)).flatMap wordsR
theorem wordsC_one (l : List EI) (h : l.length ≤ 9) : wordsC l 1 = (runsL l).flatMap wordsR := by
  show (if ([] : List (List UInt8)).length = 0 then [] else [] ++ [[124]]) ++ (runsL ((l.drop 0).take 9)).flatMap wordsR = _
  rw [List.drop_zero, List.take_of_length_le h]; rfl
theorem pushR_len (out : List (Nat × EI)) (x : EI) : (pushR out x).length ≤ out.length + 1 := by
  unfold pushR
  split
  · split
    · simp only [List.length_append, List.length_dropLast, List.length_singleton]; omega
    · simp
  · simp
theorem foldR_len (l : List EI) : ∀ out, (l.foldl pushR out).length ≤ out.length + l.length := by
  induction l with
  | nil => intro out; exact Nat.le_refl _
  | cons x l ih =>
    intro out
    have h1 := ih (pushR out x)
    have h2 := pushR_len out x
    rw [List.foldl_cons, List.length_cons]; omega
theorem runsL_len (l : List EI) : (runsL l).length ≤ l.length := by
  have := foldR_len l []
  simpa [runsL] using this
theorem runsL_one {l : List EI} (hd : ∀ i, ∀ x y, l[i]? = some x → l[i + 1]? = some y → x ≠ y) : ∀ q ∈ runsL l, q.1 = 1 ∧ q.2 ∈ l := by
  have H : ∀ k, k ≤ l.length → ∀ q ∈ runsL (l.take k), q.1 = 1 ∧ q.2 ∈ l := by
    intro k
    induction k with
    | zero => intro _ q hq; simp [runsL] at hq
    | succ k ih =>
      intro hk q hq
      have hx : l[k]? = some (l[k]'(by omega)) := List.getElem?_eq_getElem _
      rw [runsL_new hx fun j hj y hy => by subst hj; exact hd j y _ hy hx] at hq
      rcases List.mem_append.1 hq with h | h
      · exact ih (by omega) q h
      · rw [List.mem_singleton] at h; subst h; exact ⟨rfl, List.getElem_mem _⟩
  have := H l.length (Nat.le_refl _)
  rwa [List.take_length] at this
end Go.Adj
namespace Go.Proofs.YtbakoldmfpbnaaaGreatDoor
open Go.RowKit Go.Mem Go.Sheet Go.Adj Go.Shelf
theorem cardOk3 (w : World) (g : Nat) (hg : g < w.heap.size) (h0 : w.cell? ⟨g, 0, none⟩ = some (.int .i64 0)) (h1 : w.cell? ⟨g, 1, none⟩ = some (.int .i64 0)) (h2 : w.cell? ⟨g, 2, none⟩ = some (.int .i64 0)) :
    Calls Tryz.prog 23 #[.slice (some ⟨g, 0, none⟩) 3 3] w fun r w' => r = .returned (.int .i64 0) ∧ w = w' :=
  cardFirst_any w (fun _ => True) _ 3 [0, 0, 0] (rd_cells hg (by simp) fun j u hu => by
    match j, hu with
    | 0, hu => cases hu; exact h0
    | 1, hu => cases hu; exact h1
    | 2, hu => cases hu; exact h2)
theorem run_lookupS1 {P : Program} {w : World} (t : TypeId) (k e : TypeId) (hk : P.underlying k = some .string) (ht : P.underlying t = some (.map k e)) {b clock : Nat} {es : Array MapEntry} (hb : w.heap[b]? = some (.map es clock))
    (key : ByteArray) (j : Nat) (v : Value) (hf : Instr.findNow .string (.string key) es.toList 0 = some (some (j, v))) :
    (Instr.lookup t (.map (some b)) (.string key) false).run P w = .ok v w := by
  have hkk : MapKept.IsKey .string (.string key) := trivial
  simp [Instr.lookup, run_underlying ht, MapKept.run_getObj_map hb, MapKept.run_checkKey hk hkk, MapKept.run_findKey hk hf, Result.andThen]
theorem itoa_any (k : Nat) (h : k < 100) (w : World) : Calls Tryz.prog 29 #[.int .i64 k] w fun e w' => e = .returned (.string (wB (dgL k))) ∧ w = w' := by
  refine (Tryz.strconv_Itoa_small k h w).mono ?_
  rintro e w' ⟨rfl, rfl⟩
  rw [dg_eq h]; exact ⟨rfl, rfl⟩
theorem dgL_len (k : Nat) : (wB (dgL k)).size ≤ 2 := by
  rw [wB_size]; unfold dgL; split <;> simp
theorem wB_app (a b : List UInt8) : wB a ++ wB b = wB (a ++ b) := by
  apply ByteArray.ext
  simp [wB]
theorem word3 (k : Nat) (h : k < 100) (w : World) : Calls Tryz.prog 62 #[.int .i64 k] w fun e w' => e = .returned (.string (wB (dgL k ++ [99]))) ∧ w = w' := by
  have hs := dgL_len k
  have hs2 : ¬ 9223372036854775807 < (wB (dgL k)).size + 1 := by omega
  go_enter Tryz.func62, Tryz.ntmps62
  go_wp2_with (go_at_call 29; refine (itoa_any k h _).mono ?_; rintro e w' ⟨rfl, rfl⟩)
  go_ret
  exact ⟨by rw [show (⟨#[99]⟩ : ByteArray) = wB [99] from rfl, wB_app]; rfl, rfl⟩
theorem word4 (k : Int) (w : World) : Calls Tryz.prog 63 #[.int .i64 k] w fun e w' => e = .returned (.string (wB [120])) ∧ w = w' := by
  go_enter Tryz.func63, Tryz.ntmps63
  go_wp2
  go_ret
  exact ⟨rfl, rfl⟩
theorem word5 (k : Int) (w : World) : Calls Tryz.prog 64 #[.int .i64 k] w fun e w' => e = .returned (.string (wB [45])) ∧ w = w' := by
  go_enter Tryz.func64, Tryz.ntmps64
  go_wp2
  go_ret
  exact ⟨rfl, rfl⟩
theorem word_fn (x : EI) (h : GoodE x) : ∃ (j G F : Nat), Instr.findNow .string (.string x.m) marksE.toList 0 = some (some (j, mkV G F)) ∧ Enters Tryz.prog F ∧ ∀ w, Calls Tryz.prog F #[.int .i64 x.s] w fun e w' => e = .returned (.string (wB (wE x))) ∧ w = w' := by
  obtain ⟨s, m⟩ := x
  rcases h with ⟨hm | hm, h1, h2⟩ | ⟨hm | hm, hs⟩
  · change m = be at hm
    subst hm
    obtain ⟨k, rfl⟩ : ∃ k : Nat, s = k := ⟨s.toNat, by dsimp only at h1; omega⟩
    have e : wE ⟨(k : Int), be⟩ = dgL k := by unfold wE; rw [if_neg (by show be ≠ bx; decide), if_neg (by show be ≠ bd; decide), if_neg (by show be ≠ bc; decide)]; rfl
    rw [e]
    exact ⟨0, 60, 29, by kernel_rfl, enters Tryz.func29 (by kernel_rfl) rfl, itoa_any k (by dsimp only at h2; omega)⟩
  · change m = bc at hm
    subst hm
    obtain ⟨k, rfl⟩ : ∃ k : Nat, s = k := ⟨s.toNat, by dsimp only at h1; omega⟩
    have e : wE ⟨(k : Int), bc⟩ = dgL k ++ [99] := by unfold wE; rw [if_neg (by show bc ≠ bx; decide), if_neg (by show bc ≠ bd; decide), if_pos rfl]; rfl
    rw [e]
    exact ⟨1, 60, 62, by kernel_rfl, enters Tryz.func62 (by kernel_rfl) rfl, word3 k (by dsimp only at h2; omega)⟩
  · change m = bx at hm
    subst hm
    have e : wE ⟨s, bx⟩ = [120] := if_pos rfl
    rw [e]
    exact ⟨2, 61, 63, by kernel_rfl, enters Tryz.func63 (by kernel_rfl) rfl, word4 s⟩
  · change m = bd at hm
    subst hm
    have e : wE ⟨s, bd⟩ = [45] := by unfold wE; rw [if_neg (by show bd ≠ bx; decide), if_pos rfl]
    rw [e]
    exact ⟨3, 61, 64, by kernel_rfl, enters Tryz.func64 (by kernel_rfl) rfl, word5 s⟩
end Go.Proofs.YtbakoldmfpbnaaaGreatDoor
