/- Part 12 of the walks of the golf union's program: DE2. -/
import Derived.Test.YtkkkfjinflepmaaGreatDoorB05
import Derived.Test.YtkkkfjinflepmaaGreatDoorB11
set_option linter.unusedVariables false
set_option linter.unusedSimpArgs false
set_option linter.unusedSectionVars false
set_option linter.constructorNameAsVariable false
/- Chapter 7: names without an error. -/
namespace Go.Proofs.YtkkkfjinflepmaaGreatDoor
open Go.RowKit Go.Mem Go.Sheet Go.Adj
set_option maxRecDepth 100000 in
set_option maxHeartbeats 4000000 in
theorem namesCheck_ok (W w : World) (L : List Asr) (i b k : Nat) (f : Nat → ByteArray) (s : ByteArray) (S : St W w L) (hi : L[i]? = some (mapS b (seenE f k) k)) (hs : nameB s = true) (hsz : s.size ≤ 9223372036854775807) (hf : f k = s) (hne : ∀ j, j < k → f j ≠ s) :
    Calls Tryz.prog 51 #[.map (some b), .string s] w fun e w' => e = .returned (.int .i64 0) ∧ St W w' (L.set i (mapS b (seenE f (k + 1)) (k + 1))) := by
  have HNO := Lib.hid (seenE_none (f := f) (key := s) (k := k) hne)
  have HPU : Hid ((seenE f k).push { key := .string s, val := .bool true, born := k } = seenE f (k + 1)) := by
    show _ = _
    rw [← hf]; exact seenE_push f k
  have HIS : Hid (∀ w, Calls Tryz.prog 97 #[.string s] w fun e w' => e = .returned (.bool true) ∧ Below w.heap.size w w') := fun w => by
    have := cardIsName_any s w hsz
    rwa [hs] at this
  have HI := Lib.hid hi
  have S1 := S.drew
  clear S hi hs hf hne
  generalize seenE f k = es at *
  go_enter Tryz.func51, Tryz.ntmps51
  go_wp2_with fail
  refine wp_cls 8 (fun w' => St W w' L) (by kernel_rfl) (by kernel_rfl) S1 ?_
  simp only [List.take_succ_cons, List.take_zero, List.drop_succ_cons, List.drop_zero]
  generalize hK : (fun w' => St W w' L) = K
  intro hne
  have kS : ∀ y : Wd K, St W y.w L := by subst hK; exact fun y => y.h
  have hK3 : ∀ w w' : World, K w → Below w.heap.size w w' → K w' := by subst hK; exact fun w w' h h' => h.ext h'
  have k3 : ∀ y : Wd K, (Instr.lookup 110 (.map (some b)) (.string s) false).run Tryz.prog y.w = .ok (.bool false) y.w := fun y =>
    run_lookupS_none 110 9 4 Tryz.underlying9 Tryz.underlying110 zeroB ((kS y).mapS_at HI.out) s HNO.out
  have KS := Lib.hid kS
  clear hK kS S1
  go_big_quiet_step ((fail))
  go_big_quiet_step ((go_at_call 97; exact cls_below hK3 (HIS.out _)))
  go_big_quiet_step ((fail))
  go_big_quiet_step ((go_at_call 52; exact cls_same (eventNo _ _)))
  iterate 3 (go_big_quiet_step ((fail)))
  go_big_quiet_step ((go_at_call 52; exact cls_same (eventNo _ _)))
  refine wpQuiet_nil ?_
  intro y
  have HSY := Lib.hid ((KS.out y).alloc (.cells #[.int .i64 0, .int .i64 0] 48))
  clear k3 KS hK3 hne
  generalize y.w = w3 at *
  go_wp2_with (first
    | (go_at_call 37; refine (eventOk2 _ _ (by simp) (by simp) (by simp)).mono ?_; rintro e w' ⟨rfl, rfl⟩)
    | (at_mapUpdate; refine wpList_mapUpdate_new rfl _ _ _ 110 rfl 9 4 Tryz.underlying9 Tryz.underlying110 HSY.out HI.out rfl s rfl HNO.out (.bool true) rfl ?_; intro w6 S6))
  rw [HPU.out] at S6
  have HS6 := Lib.hid S6
  clear S6
  go_ret
  exact ⟨rfl, HS6.out⟩
end Go.Proofs.YtkkkfjinflepmaaGreatDoor
