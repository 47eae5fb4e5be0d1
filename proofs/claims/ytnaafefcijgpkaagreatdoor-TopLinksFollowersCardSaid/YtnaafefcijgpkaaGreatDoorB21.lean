/- Part 21 of the walks of the golf union's program: UF7. -/
import Derived.Test.YtnaafefcijgpkaaGreatDoorB20
import Derived.Test.YtnaafefcijgpkaaGreatDoorB18
import Derived.Shelf.Spec.SlicesInsert
set_option linter.unusedVariables false
set_option linter.unusedSimpArgs false
set_option linter.unusedSectionVars false
set_option linter.constructorNameAsVariable false
/- Messages: the library's Insert, where there is room. -/
namespace Go.Proofs.YtnaafefcijgpkaaGreatDoor
open Go.RowKit Go.Mem Go.Sheet Go.Adj
theorem ovl_any (w : World) (gv g o lb cb : Nat) (t tg : TypeId) (av ag : Array Value) (hne : gv ≠ g) (hv : w.heap[gv]? = some (.cells av t (0, 0))) (hg : w.heap[g]? = some (.cells ag tg (0, 0))) (hk : ag.size ≠ 0) :
    (callFunc 118 #[.slice (some ⟨gv, 0, none⟩) 1 1, .slice (some ⟨g, o, none⟩) lb cb]).run Tryz.prog w = .ok (.value (.bool false)) w := by
  rw [run_callFunc_extern Tryz.func118 (by kernel_rfl) (by kernel_rfl) (by kernel_rfl) (e := Extern.SlicesOverlaps.overlaps #[63, 63] #[4]) (by kernel_rfl)]
  rw [Lib.run_overlaps_apart w 63 4 69 Tryz.underlying63 6 (by intro w; kernel_rfl) ⟨gv, 0, none⟩ ⟨g, o, none⟩ 1 1 lb cb hne t tg av.size ag.size (by simp [World.shape?, hv]) (by simp [World.shape?, hg]) hk (by simp [World.frozen?, hv]) (by simp [World.frozen?, hv])]
  rfl
set_option maxRecDepth 100000 in
set_option maxHeartbeats 8000000 in
theorem insertAt_any (W w : World) (L : List Asr) (k0 g n at_ gv : Nat) (Y : Nat → MsI) (x : MsI) (cs : Array Value) (hn : n ≤ 1000) (hat : at_ < n) (S : St W w L) (hL : L[k0]? = some (blk g 69 cs)) (hcs : cs.size = (n + 1) * 6) (hc : cs.toList.take (n * 6) = pcM Y n)
    (hne : gv ≠ g) (hv : w.heap[gv]? = some (.cells x.cells.toArray 69 (0, 0))) :
    Calls Tryz.prog 99 #[.slice (some ⟨g, 0, none⟩) n (n + 1 : Nat), .int .i64 at_, .slice (some ⟨gv, 0, none⟩) 1 1] w fun e w' =>
      e = .returned (.slice (some ⟨g, 0, none⟩) (n + 1) (n + 1)) ∧ St W w' (L.set k0 (blk g 69 (pcM (insY Y at_ x) (n + 1)).toArray)) := by
  have HS := Lib.hid S
  have HV := Lib.hid hv
  have HOV := Lib.hid (fun o lb cb => ovl_any w gv g o lb cb _ _ _ cs hne hv (S.blk_at hL).2.2 (by omega))
  have t1 : ((at_ : Int) == (n : Int)) = false := by simp; omega
  have t1' : (at_ == n) = false := by simp; omega
  have t2 : decide ((n : Int) + 1 > ((n + 1 : Nat) : Int)) = false := by simp
  obtain ⟨_, _, hgw⟩ := S.blk_at hL
  obtain ⟨cA, hcA⟩ : ∃ cA : Array Value, cA = (cs.toList.take ((at_ + 1) * 6) ++ (pcM Y n).drop (at_ * 6) ++ cs.toList.drop ((at_ + 1) * 6 + ((pcM Y n).drop (at_ * 6)).length)).toArray := ⟨_, rfl⟩
  obtain ⟨cB, hcB⟩ : ∃ cB : Array Value, cB = (cA.toList.take (at_ * 6) ++ x.cells ++ cA.toList.drop (at_ * 6 + x.cells.length)).toArray := ⟨_, rfl⟩
  have hdl : ((pcM Y n).drop (at_ * 6)).length = (n - at_) * 6 := by rw [List.length_drop, pcM_len]; omega
  have hAs : cA.size = (n + 1) * 6 := by
    rw [hcA]
    simp only [List.size_toArray, List.length_append, List.length_take, List.length_drop, hdl, Array.length_toList, hcs]
    omega
  have hA1 : cA.toList.take (at_ * 6) = (pcM Y n).take (at_ * 6) := by
    rw [hcA]
    simp only [List.append_assoc]
    rw [List.take_append_of_le_length (by rw [List.length_take, Array.length_toList, hcs]; omega), List.take_take, ← hc, List.take_take]
    congr 1; omega
  have hA2 : cA.toList.drop (at_ * 6 + x.cells.length) = (pcM Y n).drop (at_ * 6) := by
    rw [hcA, cells_len]
    simp only [List.append_assoc]
    rw [List.drop_append_of_le_length (by rw [List.length_take, Array.length_toList, hcs]; omega), List.drop_of_length_le (by rw [List.length_take]; omega), List.nil_append]
    rw [List.drop_of_length_le (i := (at_ + 1) * 6 + _) (by rw [hdl, Array.length_toList, hcs]; omega), List.append_nil]
  have hBe : cB = (pcM (insY Y at_ x) (n + 1)).toArray := by rw [hcB, hA1, hA2, pcM_ins Y (Nat.le_of_lt hat)]
  have HC1 : Hid (∀ ty dc sc, (Builtin.copy_ #[63, 63] ty #[.slice (some ⟨g, (at_ + 1) * 6, none⟩) (n - at_) dc, .slice (some ⟨g, at_ * 6, none⟩) (n + 1 - at_) sc]).run Tryz.prog w.drew = .ok (goInt (Nat.min (n + 1 - at_) (n - at_))) (w.drew.setRow g cA)) := Lib.hid (fun ty dc sc => by
    rw [hcA]
    exact run_copy_sz w.drew 63 63 ty 69 g ((at_ + 1) * 6) (n - at_) dc ⟨g, at_ * 6, none⟩ (n + 1 - at_) sc 6 cs 69 ((pcM Y n).drop (at_ * 6)) Tryz.underlying63 (by kernel_rfl) hgw
      (by rw [hdl, show Nat.min (n + 1 - at_) (n - at_) = n - at_ from (Nat.min_eq_right (by omega)).trans (by omega)])
      (fun j v hj => by
        rw [Addr.add_lit, List.getElem?_drop, ← hc, List.getElem?_take] at *
        split at hj
        · exact (cell_of_row w.drew g _ cs 69 (0, 0) hgw).trans (by rw [← Array.getElem?_toList]; exact hj)
        · cases hj)
      (by rw [hdl, hcs]; omega) (fun v hv => one_pcM Y n v (List.mem_of_mem_drop hv)))
  have HC2 : Hid (∀ w3, w3.heap = (w.drew.setRow g cA).heap → ∀ ty dc, (Builtin.copy_ #[63, 63] ty #[.slice (some ⟨g, at_ * 6, none⟩) (n + 1 - at_) dc, .slice (some ⟨gv, 0, none⟩) 1 1]).run Tryz.prog w3 = .ok (goInt (Nat.min 1 (n + 1 - at_))) (w3.setRow g cB)) := Lib.hid (fun w3 h3 ty dc => by
    rw [hcB]
    have hg3 : w3.heap[g]? = some (.cells cA 69 (0, 0)) := by rw [h3]; exact setRow_heap w.drew g cs cA 69 (0, 0) hgw
    have hv3 : w3.heap[gv]? = some (.cells x.cells.toArray 69 (0, 0)) := by rw [h3, setRow_other _ _ _ _ hne]; exact HV.out
    exact run_copy_sz w3 63 63 ty 69 g (at_ * 6) (n + 1 - at_) dc ⟨gv, 0, none⟩ 1 1 6 cA 69 x.cells Tryz.underlying63 (by kernel_rfl) hg3
      (by rw [cells_len, show Nat.min 1 (n + 1 - at_) = 1 from Nat.min_eq_left (by omega)])
      (fun j v hj => by
        rw [Addr.add_lit, Nat.zero_add]
        exact (cell_of_row w3 gv j _ 69 (0, 0) hv3).trans (by simpa using hj))
      (by rw [cells_len, hAs]; omega) (one_ms x))
  have HBE := Lib.hid hBe
  clear S hv hgw hBe hcB hcA hA1 hA2 hAs hdl
  have mixed : Tryz.prog.follows Departure.mixedOrders = true := by kernel_rfl
  have hw1 : IntKind.i64.wrap ((at_ : Int) + 1) = (at_ : Int) + 1 := IntWalk.i64_in _ (by omega)
  have hb1 : (0 : Int) ≤ (at_ : Int) + 1 := by omega
  have htn : ((at_ : Int) + 1).toNat = at_ + 1 := by omega
  have hb2 : ¬ (n + 1 = at_ + 1) := by omega
  have hb6 : ¬ (n = at_) := by omega
  have hb3 : (at_ : Int) + 1 ≤ (n : Int) + 1 := by omega
  have hb5 : (at_ : Int) ≤ (n : Int) + 1 := by omega
  have hb4 : ¬ (n + 1 = at_) := by omega
  go_enter Tryz.func99, Tryz.ntmps99
  go_wp2_with (simp only [HOV.out])
  go_region_law_o (refine step_copy_runI rfl _ _ 63 63 rfl _ _ (by simp [Act.eval, Act.put]) (by simp [Act.eval, Act.put]) (HC1.out _ (n - at_) (n + 1 - at_)) ?_)
  go_wp2_with (refine wpList_copy_runI _ rfl _ _ 63 63 rfl _ _ rfl rfl (HC2.out (w.drew.setRow g cA) rfl _ (n + 1 - at_)) ?_)
  have SF := (HS.out.drew.blk_row hL cA).blk_row (by rw [List.getElem?_set, if_pos rfl, if_pos (List.getElem?_eq_some_iff.1 hL).1]) cB
  rw [List.set_set] at SF
  have HSF := Lib.hid SF
  clear SF
  go_ret
  refine ⟨rfl, ?_⟩
  rw [← HBE.out]
  exact HSF.out
set_option maxRecDepth 100000 in
set_option maxHeartbeats 8000000 in
theorem insertEnd_any (W w : World) (L : List Asr) (k0 g n gv : Nat) (Y : Nat → MsI) (x : MsI) (cs : Array Value) (hn : n ≤ 1000) (S : St W w L) (hL : L[k0]? = some (blk g 69 cs)) (hcs : cs.size = (n + 1) * 6) (hc : cs.toList.take (n * 6) = pcM Y n)
    (hv : w.heap[gv]? = some (.cells x.cells.toArray 69 (0, 0))) :
    Calls Tryz.prog 99 #[.slice (some ⟨g, 0, none⟩) n (n + 1 : Nat), .int .i64 n, .slice (some ⟨gv, 0, none⟩) 1 1] w fun e w' =>
      ∃ v', e = .returned v' ∧ St W w' (L.set k0 (row 69 6 v' (n + 1) (pcM (insY Y n x) (n + 1)))) := by
  have SR := S.blk_to_row hL hcs (Nat.le_succ n) (by unfold maxLen; omega) hc (pcM_len Y n)
  have HRX : Hid (Rd w (fun _ => True) 6 (.slice (some ⟨gv, 0, none⟩) 1 1) 1 x.cells) := Lib.hid (by
    refine ⟨_, 1, rfl, Nat.le_refl _, by unfold maxLen; omega, by rw [cells_len], (fun h => by cases h), fun _ => ⟨gv, 0, rfl, trivial, (Array.getElem?_eq_some_iff.1 hv).1, fun j u hj => ?_⟩⟩
    rw [Nat.zero_add]
    exact (cell_of_row w gv j _ 69 (0, 0) hv).trans (by simpa using hj))
  have HIX : Hid ((L.set k0 (row 69 6 (.slice (some ⟨g, 0, none⟩) n (n + 1)) n (pcM Y n)))[k0]? = some (row 69 6 (.slice (some ⟨g, 0, none⟩) n (n + 1)) n (pcM Y n))) := Lib.hid (by rw [List.getElem?_set, if_pos rfl, if_pos (List.getElem?_eq_some_iff.1 hL).1])
  have HS := Lib.hid SR
  clear S SR hv
  have t1 : ((n : Int) == (n : Int)) = true := by simp
  go_enter Tryz.func99, Tryz.ntmps99
  go_wp2_with (at_builtin; refine wpList_append_st eltM rfl _ _ rfl rfl HS.out (k := k0) HIX.out rfl HRX.out (one_ms x) (by omega) (by omega) ?_; intro v' w4 S4 _; rw [List.set_set, pcM_end] at S4; have HS4 := Lib.hid S4; clear S4)
  go_ret
  exact ⟨v', rfl, HS4.out⟩
theorem insert_any (W w : World) (L : List Asr) (k0 g n at_ gv : Nat) (Y : Nat → MsI) (x : MsI) (cs : Array Value) (hn : n ≤ 1000) (hat : at_ ≤ n) (S : St W w L) (hL : L[k0]? = some (blk g 69 cs)) (hcs : cs.size = (n + 1) * 6) (hc : cs.toList.take (n * 6) = pcM Y n)
    (hne : gv ≠ g) (hv : w.heap[gv]? = some (.cells x.cells.toArray 69 (0, 0))) :
    Calls Tryz.prog 99 #[.slice (some ⟨g, 0, none⟩) n (n + 1 : Nat), .int .i64 at_, .slice (some ⟨gv, 0, none⟩) 1 1] w fun e w' =>
      ∃ v', e = .returned v' ∧ St W w' (L.set k0 (row 69 6 v' (n + 1) (pcM (insY Y at_ x) (n + 1)))) := by
  rcases Nat.lt_or_ge at_ n with h | h
  · refine (insertAt_any W w L k0 g n at_ gv Y x cs hn h S hL hcs hc hne hv).mono ?_
    rintro e w' ⟨rfl, S'⟩
    refine ⟨_, rfl, ?_⟩
    have S2 := S'.blk_to_row (n := n + 1) (cap := n + 1) (size := 6) (by rw [List.getElem?_set, if_pos rfl, if_pos (List.getElem?_eq_some_iff.1 hL).1]) (by simp [pcM_len]) (Nat.le_refl _) (by unfold maxLen; omega) (List.take_of_length_le (by simp [pcM_len])) (by simp [pcM_len])
    rw [List.set_set] at S2
    exact S2
  · obtain rfl : at_ = n := by omega
    exact insertEnd_any W w L k0 g at_ gv Y x cs hn S hL hcs hc hv
end Go.Proofs.YtnaafefcijgpkaaGreatDoor
