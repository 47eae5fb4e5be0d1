/- Part 30 of the walks of the golf union's program: LM2. -/
import Derived.Test.YtkkkfjinflepmaaGreatDoorB25
import Derived.Test.YtkkkfjinflepmaaGreatDoorB26
import Derived.Test.YtkkkfjinflepmaaGreatDoorB27
import Derived.Test.YtkkkfjinflepmaaGreatDoorB29
import Derived.Shelf.Abstract
import Derived.WalkKit
import Derived.OwnWalkIn
import Derived.TacticsInMore
import Derived.LoopNIn
import Derived.LoopIn
import Derived.Maps.OwnIn
set_option linter.unusedVariables false
set_option linter.unusedSimpArgs false
set_option linter.unusedSectionVars false
set_option linter.constructorNameAsVariable false
/- Chapter 5: the iterator over the states of a match. -/
namespace Go.Proofs.YtkkkfjinflepmaaGreatDoor
open Go.RowKit Go.Mem Go.Sheet Go.Adj Go.Shelf Go.MemQ
attribute [local go_sem] Oper.semAt_some
/-- how many states come, d holes being left -/
def alF (A B : Nat → NI) : Nat → Nat → Nat
  | 0, _ => 0
  | d + 1, k => if deadF A B k then 0 else alF A B d (k + 1) + 1
def stL (A B : Nat → NI) (n k : Nat) : List StI := (List.range k).map (stF A B n)
theorem stL_snoc (A B : Nat → NI) (n k : Nat) : stL A B n (k + 1) = stL A B n k ++ [stF A B n k] := by unfold stL; rw [List.range_succ, List.map_append]; rfl
theorem stL_len (A B : Nat → NI) (n k : Nat) : (stL A B n k).length = k := by simp [stL]
def encSt (x : StI) : Array Value := #[x.val]
/-- what lay below n₀ is kept, and so are the blocks bs -/
def KpL (n₀ : Nat) (bs : List Nat) (X Y : World) : Prop := Below n₀ X Y ∧ X.heap.size ≤ Y.heap.size ∧ ∀ b ∈ bs, Y.heap[b]? = X.heap[b]?
theorem KpL.refl (n₀ : Nat) (bs : List Nat) (X : World) : KpL n₀ bs X X := ⟨Below.refl _ _, Nat.le_refl _, fun _ _ => rfl⟩
theorem KpL.trans {n₀ : Nat} {bs : List Nat} {X Y Z : World} (h : KpL n₀ bs X Y) (k : KpL n₀ bs Y Z) : KpL n₀ bs X Z := ⟨h.1.trans k.1, Nat.le_trans h.2.1 k.2.1, fun b hb => (k.2.2 b hb).trans (h.2.2 b hb)⟩
theorem KpL.of_below {n₀ : Nat} {bs : List Nat} {X Y : World} (h : Below X.heap.size X Y) (hn : n₀ ≤ X.heap.size) (hB : ∀ b ∈ bs, b < X.heap.size) : KpL n₀ bs X Y := ⟨h.mono hn, h.size, fun b hb => h.block b (hB b hb)⟩
theorem KpL.of_grown {n₀ : Nat} {bs : List Nat} {X Y : World} {row : Option Nat} (h : X.grownBy Y row) (hr : ∀ r, row = some r → n₀ ≤ r ∧ r ∉ bs) (hB : ∀ b ∈ bs, b < X.heap.size) (hn : n₀ ≤ X.heap.size) : KpL n₀ bs X Y :=
  ⟨(Below.refl _ _).grown h hn fun k hk => (hr k hk).1, h.size, fun b hb => h.block b (hB b hb) fun e => (hr b e.symm).2 hb⟩
theorem KpL.sub {n₀ : Nat} {bs bs' : List Nat} {X Y : World} (h : KpL n₀ bs X Y) (hs : ∀ b ∈ bs', b ∈ bs) : KpL n₀ bs' X Y := ⟨h.1, h.2.1, fun b hb => h.2.2 b (hs b hb)⟩
theorem grown_of_below {X Y : World} (h : Below X.heap.size X Y) (row : Option Nat) : X.grownBy Y row := ⟨h.os, h.tape, h.output, h.size, fun k hk _ => h.block k hk⟩
theorem grown_set (X : World) (B j : Nat) (u : Value) : X.grownBy (X.setCell ⟨B, j, none⟩ u) (some B) :=
  ⟨rfl, rfl, rfl, by simp [World.setCell], fun k _ hk => Below.heap_setCell _ _ _ _ (fun e => hk (by subst e; rfl))⟩
theorem mkN_dash (m : MK) : ((mkN m).toList == [45]) = isD m := by cases m <;> kernel_rfl
theorem states_any (w : World) (A B : Option Addr) (n c m d : Nat) : Calls Tryz.prog 113 #[.slice A n c, .slice B m d] w fun e w' => e = .returned (.func (.func 135) #[] #[.pointer (some ⟨w.heap.size, 0, none⟩), .pointer (some ⟨w.heap.size + 1, 0, none⟩)]) ∧
    w' = (w.alloc (.cells #[.slice A n c] 139)).alloc (.cells #[.slice B m d] 139) := by
  go_enter Tryz.func113, Tryz.ntmps113
  go_wp2
  go_ret
  exact ⟨rfl, rfl⟩
theorem st_bd (A B : Nat → NI) {n k : Nat} (hn : n ≤ 36) (hk : k ≤ n) : -100 ≤ upF A B k ∧ upF A B k ≤ 100 := by
  have := upF_bd A B k
  omega
set_option maxRecDepth 100000 in
set_option maxHeartbeats 4000000 in
theorem states1_stops (m : Nat) (hm : 1 ≤ m) (w : World) (Ba Bb n₀ n c d : Nat) (P Q : Option Addr) (A B : Nat → NI) (hn : n ≤ 36) (hBa : w.cell? ⟨Ba, 0, none⟩ = some (.slice P n c)) (hBb : w.cell? ⟨Bb, 0, none⟩ = some (.slice Q n d))
    (ha : Rd w (· < n₀) 2 (.slice P n c) n ((nl A n).flatMap NI.cells)) (hb : Rd w (· < n₀) 2 (.slice Q n d) n ((nl B n).flatMap NI.cells)) (hn₀ : n₀ ≤ w.heap.size) :
    SeqStopsC True Fence.wide m Tryz.prog 135 #[.pointer (some ⟨Ba, 0, none⟩), .pointer (some ⟨Bb, 0, none⟩)] encSt (KpL n₀ [Ba, Bb, w.heap.size + 2])
      (fun xs => xs = stL A B n (alF A B n 0)) (fun pre => ∃ k, k ≤ alF A B n 0 ∧ pre = stL A B n k) (fun pre => pre.length ≤ n) w := by
  intro l J Jx V hV hVs hJ hJi hY h0
  have hJi := hJi trivial
  have hBa' : Ba < w.heap.size := World.block_lt_of_cell? w _ hBa
  have hBb' : Bb < w.heap.size := World.block_lt_of_cell? w _ hBb
  have ca := (hV.cell (p := ⟨Ba, 0, none⟩) hBa').trans hBa
  have cb := (hV.cell (p := ⟨Bb, 0, none⟩) hBb').trans hBb
  have hra : Rd V (· < n₀) 2 (.slice P n c) n ((nl A n).flatMap NI.cells) := ha.below (hV.mono hn₀)
  have hrb : Rd V (· < n₀) 2 (.slice Q n d) n ((nl B n).flatMap NI.cells) := hb.below (hV.mono hn₀)
  have hne1 : Ba ≠ V.heap.size := by omega
  have hne2 : Bb ≠ V.heap.size := by omega
  have hnV : n₀ ≤ V.heap.size := by omega
  have hJ0 : J [] (V.alloc (.cells #[.int .i64 0, .int .i64 n, .bool false] 95)) := hJ _ _ _ none h0 (World.grownBy_alloc _ _ _) (fun r e => by cases e)
  have hK0 : KpL n₀ [Ba, Bb] V (V.alloc (.cells #[.int .i64 0, .int .i64 n, .bool false] 95)) := KpL.of_below ((Below.refl _ _).alloc (Nat.le_refl _) _) hnV (by intro b hb; simp at hb; omega)
  have hO0 : (V.alloc (.cells #[.int .i64 0, .int .i64 n, .bool false] 95)).heap[V.heap.size]? = some (.cells #[.int .i64 0, .int .i64 n, .bool false] 95 (0, 0)) := heap_alloc_new V _
  have fa : (V.alloc (.cells #[.int .i64 0, .int .i64 n, .bool false] 95)).cell? ⟨Ba, 0, none⟩ = some (.slice P n c) := (((Below.refl _ V).alloc (Nat.le_refl _) _).cell (p := ⟨Ba, 0, none⟩) (by show Ba < V.heap.size; omega)).trans ca
  rw [← hVs] at hY
  have HVs := Lib.hid hVs
  clear ha hb hBa hBb hV hBa' hBb' h0 hVs
  refine callsIn_of_wp Tryz.func135 rfl trivial ?_ rfl
  simp only [Tryz.ntmps135, List.size_toArray, List.length_cons, List.length_nil, Nat.reduceAdd, Nat.reduceSub, Array.replicate_succ, Array.replicate_zero, List.push_toArray, List.append_toArray, List.nil_append, List.cons_append]
  gi_wp2
  generalize hV1 : V.alloc (.cells #[.int .i64 0, .int .i64 n, .bool false] 95) = V1 at *
  generalize hS : V.heap.size = Bs at *
  gi_loopw [11] (fun i wr => ∃ (k : Nat) (ov : Bool), k ≤ n ∧ i = .int .i64 k ∧ J (stL A B n k) wr ∧ KpL n₀ [Ba, Bb] V wr ∧ wr.heap[Bs]? = some (.cells #[.int .i64 (upF A B k), .int .i64 ((n : Int) - k), .bool ov] 95 (0, 0)) ∧ Hid (alF A B n 0 = k + alF A B (n - k) k)) (fun i _ => n - (intOf i).toNat)
  case atStart => exact ⟨0, false, Nat.zero_le _, rfl, hJ0, hK0, by simpa [upF, sumTo] using hO0, by show _ = _; simp⟩
  case round =>
    obtain ⟨k, ov, hk, rfl, hJs, hkp, hO, hal⟩ := hrel
    clear hJ0 hK0 hO0 fa
    have HK := Lib.hid hkp
    have HO := Lib.hid hO
    by_cases hlt : k < n
    · have e1 := (World.cell?_of_block (a := ⟨Ba, 0, none⟩) (hkp.2.2 Ba (by simp))).trans ca
      have e2 := (World.cell?_of_block (a := ⟨Bb, 0, none⟩) (hkp.2.2 Bb (by simp))).trans cb
      obtain ⟨b, o, x, hA, hx, c0, c1⟩ := net_elem (hra.below hkp.1) hlt
      subst hA
      cases Option.some.inj ((nl_at A hlt).symm.trans hx)
      obtain ⟨b', o', y, hA, hy, d0, d1⟩ := net_elem (hrb.below hkp.1) hlt
      subst hA
      cases Option.some.inj ((nl_at B hlt).symm.trans hy)
      have hz : alF A B (n - k) k = if deadF A B k then 0 else alF A B (n - (k + 1)) (k + 1) + 1 := by
        obtain ⟨z, hz⟩ : ∃ z, n - k = z + 1 := ⟨n - k - 1, by omega⟩
        rw [hz, show n - (k + 1) = z by omega]
        rfl
      have HZ := Lib.hid hz
      clear hx hy hkp hO hz
      have ta := mkN_dash (A k).x
      have tb := mkN_dash (B k).x
      by_cases hd : isD (A k).x = true
      · rw [hd] at ta
        have HD : Hid (deadF A B k = true) := by show _ = _; unfold deadF; rw [hd]; rfl
        gi_wp2
        refine bodyPost_ret (results_none rfl _ _ _) rfl ?_
        exact ⟨⟨_, rfl⟩, .inl ⟨_, by rw [hal.out, HZ.out, if_pos HD.out]; rfl, hJs⟩⟩
      by_cases hd2 : isD (B k).x = true
      · have hd' : isD (A k).x = false := by simpa using hd
        rw [hd'] at ta
        rw [hd2] at tb
        have HD : Hid (deadF A B k = true) := by show _ = _; unfold deadF; rw [hd2]; simp
        gi_wp2
        refine bodyPost_ret (results_none rfl _ _ _) rfl ?_
        exact ⟨⟨_, rfl⟩, .inl ⟨_, by rw [hal.out, HZ.out, if_pos HD.out]; rfl, hJs⟩⟩
      have hd1' : isD (A k).x = false := by simpa using hd
      have hd2' : isD (B k).x = false := by simpa using hd2
      have HD : Hid (deadF A B k = false) := by show _ = _; unfold deadF; rw [hd1', hd2']; rfl
      rw [hd1'] at ta
      rw [hd2'] at tb
      clear hd hd2 hd1' hd2'
      have HCM : Hid (∀ w, Calls Tryz.prog 136 #[(A k).val, (B k).val] w fun e w' => e = .returned (.int .i64 (cmpN (A k) (B k))) ∧ Below w.heap.size w w') := fun w => compareN_any (A k) (B k) w
      have hu1 := st_bd A B hn hk
      have hu2 := st_bd A B hn (show k + 1 ≤ n by omega)
      have huS : upF A B (k + 1) = upF A B k + cmpN (A k) (B k) := rfl
      have hST : Hid (stF A B n k = ⟨upF A B (k + 1), (n : Int) - k - 1, overF (upF A B (k + 1)) ((n : Int) - k - 1)⟩) := rfl
      have HSN := Lib.hid (stL_snoc A B n k)
      have hcb := cmpN_bd (A k) (B k)
      rw [huS] at hu2
      have HUS := Lib.hid huS
      have HOV := Lib.hid (over_any (upF A B k + cmpN (A k) (B k)) ((n : Int) - k - 1))
      rw [HUS.out] at hST
      unfold NI.val at HCM
      obtain ⟨g0, hg0⟩ : ∃ g, g = overF (upF A B k + cmpN (A k) (B k)) ((n : Int) - k - 1) := ⟨_, rfl⟩
      have HG0 := Lib.hid hg0
      rw [← hg0] at HOV hST
      clear hg0 huS
      generalize hNA : A k = NA at *
      generalize hNB : B k = NB at *
      generalize cmpN NA NB = cc at *
      generalize hUK : upF A B k = uk at *
      clear hNA hNB hUK
      have hBl : Bs < wr.heap.size := (Array.getElem?_eq_some_iff.1 HO.out).1
      have HAB : Hid (∀ b ∈ [Ba, Bb], b < wr.heap.size) := fun b hb => by
        simp at hb
        rcases hb with rfl | rfl
        · exact World.block_lt_of_cell? _ _ e1
        · exact World.block_lt_of_cell? _ _ e2
      have s0 : wr.cell? ⟨Bs, 0, none⟩ = some (.int .i64 uk) := by rw [cell_of_row wr Bs 0 _ _ _ HO.out]; rfl
      have hla := World.block_lt_of_cell? _ _ e1
      have hlb := World.block_lt_of_cell? _ _ e2
      have hlc := World.block_lt_of_cell? _ _ c0
      have hld := World.block_lt_of_cell? _ _ d0
      gi_wp2
      refine wpIn_clsW 11 (fun w' => Below wr.heap.size wr w') (by kernel_rfl) (by kernel_rfl) (by kernel_rfl) (Below.refl _ _).drew ?_
      simp only [List.take_succ_cons, List.take_zero, List.drop_succ_cons, List.drop_zero]
      have hK2 : ∀ w w' : World, Below wr.heap.size wr w → Below w.heap.size w w' → Below wr.heap.size wr w' := fun w w' h h' => h.trans (h'.mono h.size)
      generalize hK : (fun w' => Below wr.heap.size wr w') = K
      intro hne
      have kb : ∀ y : Wd K, Below wr.heap.size wr y.w := by subst hK; exact fun y => y.h
      have hK3 : ∀ w w' : World, K w → Below w.heap.size w w' → K w' := by subst hK; exact hK2
      have k0 : ∀ y : Wd K, y.w.cell? ⟨Bs, 0, none⟩ = some (.int .i64 uk) := fun y => ((kb y).cell (p := ⟨Bs, 0, none⟩) hBl).trans s0
      have k1 : ∀ y : Wd K, y.w.cell? ⟨Ba, 0, none⟩ = some (.slice (some ⟨b, o, none⟩) n c) := fun y => ((kb y).cell (p := ⟨Ba, 0, none⟩) hla).trans e1
      have k2 : ∀ y : Wd K, y.w.cell? ⟨Bb, 0, none⟩ = some (.slice (some ⟨b', o', none⟩) n d) := fun y => ((kb y).cell (p := ⟨Bb, 0, none⟩) hlb).trans e2
      have k3 : ∀ y : Wd K, y.w.cell? ⟨b, o + k * 2, none⟩ = some (.int .i64 NA.s) := fun y => ((kb y).cell (p := ⟨b, o + k * 2, none⟩) hlc).trans c0
      have k4 : ∀ y : Wd K, y.w.cell? ⟨b, o + k * 2 + 1, none⟩ = some (.string (mkN NA.x)) := fun y => ((kb y).cell (p := ⟨b, o + k * 2 + 1, none⟩) hlc).trans c1
      have k5 : ∀ y : Wd K, y.w.cell? ⟨b', o' + k * 2, none⟩ = some (.int .i64 NB.s) := fun y => ((kb y).cell (p := ⟨b', o' + k * 2, none⟩) hld).trans d0
      have k6 : ∀ y : Wd K, y.w.cell? ⟨b', o' + k * 2 + 1, none⟩ = some (.string (mkN NB.x)) := fun y => ((kb y).cell (p := ⟨b', o' + k * 2 + 1, none⟩) hld).trans d1
      clear hK hK2
      iterate 10 (go_big_quiet_step ((fail)))
      go_big_quiet_step ((go_at_call 136; exact cls_below hK3 (HCM.out _)))
      refine wpQuiet_nil ?_
      intro y
      have hby := kb y
      clear k0 k1 k2 k3 k4 k5 k6 kb hK3 hne s0 c0 c1 d0 d1 e1 e2 hla hlb hlc hld ta tb
      generalize y.w = w5 at *
      have hO5 := (hby.block Bs hBl).trans HO.out
      have s0 : w5.cell? ⟨Bs, 0, none⟩ = some (.int .i64 uk) := by rw [cell_of_row w5 Bs 0 _ _ _ hO5]; rfl
      have s1 : w5.cell? ⟨Bs, 1, none⟩ = some (.int .i64 ((n : Int) - k)) := by rw [cell_of_row w5 Bs 1 _ _ _ hO5]; rfl
      have s2 : w5.cell? ⟨Bs, 2, none⟩ = some (.bool ov) := by rw [cell_of_row w5 Bs 2 _ _ _ hO5]; rfl
      have z0 : w5.frozen? ⟨Bs, 0, none⟩ = false := by simp [World.frozen?, hO5]
      have z1 : w5.frozen? ⟨Bs, 1, none⟩ = false := by simp [World.frozen?, hO5]
      have z2 : w5.frozen? ⟨Bs, 2, none⟩ = false := by simp [World.frozen?, hO5]
      have HO5 := Lib.hid hO5
      have HBY := Lib.hid hby
      clear hO5 hby
      have hsz5 : wr.heap.size ≤ w5.heap.size := HBY.out.size
      have hJ5 : J (stL A B n k) w5 := hJ _ _ _ none hJs (grown_of_below HBY.out none) (fun r e => by cases e)
      have hJ6 : J (stL A B n k) (((w5.setCell ⟨Bs, 0, none⟩ (.int .i64 (uk + cc))).setCell ⟨Bs, 1, none⟩ (.int .i64 ((n : Int) - k - 1))).setCell ⟨Bs, 2, none⟩ (.bool g0)) :=
        hJi _ _ _ (hJi _ _ _ (hJi _ _ _ hJ5 (grown_set _ _ _ _)) (grown_set _ _ _ _)) (grown_set _ _ _ _)
      have hO6 := heap_setCell_same _ Bs 2 _ _ (.bool g0) (heap_setCell_same _ Bs 1 _ _ (.int .i64 ((n : Int) - k - 1)) (heap_setCell_same _ Bs 0 _ _ (.int .i64 (uk + cc)) HO5.out))
      have hK6 : KpL n₀ [Ba, Bb] wr (((w5.setCell ⟨Bs, 0, none⟩ (.int .i64 (uk + cc))).setCell ⟨Bs, 1, none⟩ (.int .i64 ((n : Int) - k - 1))).setCell ⟨Bs, 2, none⟩ (.bool g0)) := by
        have hab : ∀ b ∈ [Ba, Bb], b < wr.heap.size := HAB.out
        refine (KpL.of_below HBY.out (by omega) hab).trans (((KpL.of_grown (grown_set _ _ _ _) ?_ ?_ ?_).trans (KpL.of_grown (grown_set _ _ _ _) ?_ ?_ ?_)).trans (KpL.of_grown (grown_set _ _ _ _) ?_ ?_ ?_))
        all_goals first
          | (intro r e; cases e; exact ⟨hnV, by simp; omega⟩)
          | (intro b hb; have := hab b hb; first | omega | (simp; omega))
          | omega
          | (simp; omega)
      have hs6 : Bs < (((w5.setCell ⟨Bs, 0, none⟩ (.int .i64 (uk + cc))).setCell ⟨Bs, 1, none⟩ (.int .i64 ((n : Int) - k - 1))).setCell ⟨Bs, 2, none⟩ (.bool g0)).heap.size := by simp; omega
      obtain ⟨fn, tmps, assign, body, hyy, hR⟩ := hY _ (stF A B n k) _ hJ6 hs6 (by rw [List.length_append, stL_len]; exact hlt)
      have henc : encSt (stF A B n k) = #[.agg #[.int .i64 (uk + cc), .int .i64 ((n : Int) - k - 1), .bool g0]] := by rw [hST.out]; rfl
      rw [henc] at hyy
      have HO6 := Lib.hid hO6
      have HK6 := Lib.hid (HK.out.trans hK6)
      clear hJ5 hJ6 hO6 hK6 hs6 henc hJs
      gi_wp2_with (refine ⟨trivial, ?_⟩; gi_at_call 137; refine (callsIn_wide.2 (HOV.out _ hu2)).mono ?_; rintro e w' ⟨rfl, rfl⟩)
      refine hR.mono ?_
      rintro e W3 (⟨rfl, hJ4, hk3⟩ | ⟨rfl, hJx4⟩)
      · have HK3 := Lib.hid (HK6.out.trans (hk3.sub (by intro b hb; simp at hb ⊢; omega)))
        have HO3 : Hid (W3.heap[Bs]? = some (.cells #[.int .i64 (upF A B (k + 1)), .int .i64 ((n : Int) - (k + 1 : Nat)), .bool g0] 95 (0, 0))) := by
          show _ = _
          rw [HUS.out, show ((n : Int) - (k + 1 : Nat)) = (n : Int) - k - 1 by omega]
          exact (hk3.2.2 Bs (by simp)).trans HO6.out
        gi_wp2
        go_roundw
        case rel => exact ⟨k + 1, g0, by omega, by go_num, by rw [HSN.out]; exact hJ4, HK3.out, HO3.out, by show _ = _; rw [hal.out, HZ.out, if_neg (by rw [HD.out]; simp)]; omega⟩
        case measure => simp [intOf]; omega
      · gi_wp2
        refine bodyPost_ret (results_none rfl _ _ _) rfl ?_
        exact ⟨⟨_, rfl⟩, .inr ⟨_, ⟨k + 1, by rw [hal.out, HZ.out, if_neg (by rw [HD.out]; simp)]; omega, HSN.out.symm⟩, hJx4⟩⟩
    · obtain rfl : k = n := by omega
      gi_wp2
      go_end0
      exact ⟨⟨_, rfl⟩, .inl ⟨_, by rw [hal.out]; simp [alF], hJs⟩⟩
end Go.Proofs.YtkkkfjinflepmaaGreatDoor
