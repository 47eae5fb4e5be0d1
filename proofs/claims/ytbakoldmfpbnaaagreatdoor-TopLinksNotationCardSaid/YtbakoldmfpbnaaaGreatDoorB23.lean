/- Part 23 of the walks of the golf union's program: LN8. -/
import Derived.Test.YtbakoldmfpbnaaaGreatDoorB21
import Derived.Test.YtbakoldmfpbnaaaGreatDoorB22
import Derived.Test.YtbakoldmfpbnaaaGreatDoorB06
set_option linter.unusedVariables false
set_option linter.unusedSimpArgs false
set_option linter.unusedSectionVars false
set_option linter.constructorNameAsVariable false
/- slices.Chunk of entries, by nine. -/
namespace Go.Adj
open Go.RowKit Go.Mem
/-- how many entries the k-th part of nine has -/
def chN (n k : Nat) : Nat := Nat.min 9 (n - 9 * k)
def chV (b o n k : Nat) : Value := .slice (some ⟨b, o + 9 * k * 2, none⟩) (chN n k) (chN n k)
def seqC (b o n k : Nat) : List Value := (List.range k).map fun i => chV b o n i
theorem seqC_snoc (b o n k : Nat) : seqC b o n (k + 1) = seqC b o n k ++ [chV b o n k] := by unfold seqC; rw [List.range_succ, List.map_append]; rfl
theorem seqC_len (b o n k : Nat) : (seqC b o n k).length = k := by simp [seqC]
def encC (x : Value) : Array Value := #[x]
end Go.Adj
namespace Go.Proofs.YtbakoldmfpbnaaaGreatDoor
open Go.RowKit Go.Mem Go.Sheet Go.Adj Go.Shelf Go.MemQ
attribute [local go_sem] Oper.semAt_some
theorem chunk_any (w : World) (A : Option Addr) (n c : Nat) : Calls Tryz.prog 27 #[.slice A n c, .int .i64 9] w fun e w' => e = .returned (.func (.func 65) #[] #[.pointer (some ⟨w.heap.size, 0, none⟩), .pointer (some ⟨w.heap.size + 1, 0, none⟩)]) ∧ w' = (w.alloc (.cells #[.slice A n c] 29)).alloc (.cells #[.int .i64 9] 3) := by
  go_enter Tryz.func27, Tryz.ntmps27
  go_wp2
  go_ret
  exact ⟨rfl, rfl⟩
set_option maxRecDepth 100000 in
set_option maxHeartbeats 4000000 in
theorem chunk1_stops (m : Nat) (hm : 1 ≤ m) (w : World) (Bs Bn n₀ b o n c : Nat) (hn : n ≤ 36) (hnc : n ≤ c ∧ c ≤ maxLen) (hBs : w.cell? ⟨Bs, 0, none⟩ = some (.slice (some ⟨b, o, none⟩) n c)) (hBn : w.cell? ⟨Bn, 0, none⟩ = some (.int .i64 9)) (hn₀ : n₀ ≤ w.heap.size) :
    SeqStopsD False Fence.wide m Tryz.prog 65 #[.pointer (some ⟨Bs, 0, none⟩), .pointer (some ⟨Bn, 0, none⟩)] encC (KpL n₀ [Bs, Bn])
      (fun xs => xs = seqC b o n ((n + 8) / 9)) (fun _ => True) (fun l => ∃ k, k ≤ (n + 8) / 9 ∧ l = seqC b o n k) w := by
  intro l J Jx V hV hVs hJ hJi hY h0
  have hBs' : Bs < w.heap.size := World.block_lt_of_cell? w _ hBs
  have hBn' : Bn < w.heap.size := World.block_lt_of_cell? w _ hBn
  have ca := (hV.cell (p := ⟨Bs, 0, none⟩) hBs').trans hBs
  have cb := (hV.cell (p := ⟨Bn, 0, none⟩) hBn').trans hBn
  have hJD : Hid (∀ s X q, J s X → J s (X.drewN q)) := fun s X q h => hJ s X _ none h ⟨rfl, rfl, rfl, Nat.le_refl _, fun _ _ _ => rfl⟩ (fun r e => by cases e)
  have HB1 := Lib.hid hBs'
  have HB2 := Lib.hid hBn'
  have HVs := Lib.hid hVs
  clear hBs hV hBs' hBn hBn' hJ hVs
  refine callsIn_of_wp Tryz.func65 rfl trivial ?_ rfl
  simp only [Tryz.ntmps65, List.size_toArray, List.length_cons, List.length_nil, Nat.reduceAdd, Nat.reduceSub, Array.replicate_succ, Array.replicate_zero, List.push_toArray, List.append_toArray, List.nil_append, List.cons_append]
  gi_wp2
  gi_loopw [4] (fun i wr => ∃ k t : Nat, Hid (t = 9 * k) ∧ Hid (k ≤ (n + 8) / 9) ∧ i = .int .i64 t ∧ J (seqC b o n k) wr ∧ V.heap.size ≤ wr.heap.size ∧ wr.cell? ⟨Bs, 0, none⟩ = some (.slice (some ⟨b, o, none⟩) n c) ∧ wr.cell? ⟨Bn, 0, none⟩ = some (.int .i64 9)) (fun i _ => n + 9 - (intOf i).toNat)
  case atStart => exact ⟨0, 0, rfl, Nat.zero_le _, rfl, h0, Nat.le_refl _, ca, cb⟩
  case round =>
    obtain ⟨k, t, HT, HK, rfl, hJs, hsz, ca, cb⟩ := hrel
    clear h0
    by_cases hlt : t < n
    · gi_wp2_with fail
      refine wpIn_wide.2 ?_
      refine wp_pre_tail 0 5 (fun w' => ∃ q, w' = wr.drewN q) (by kernel_rfl) (by kernel_rfl) ⟨1, rfl⟩ ?_
      simp only [List.take_succ_cons, List.take_zero, List.drop_succ_cons, List.drop_zero, Nat.reduceSub]
      generalize hK : (fun w' => ∃ q, w' = wr.drewN q) = K
      intro hne
      have kw : ∀ y : Wd K, ∃ q, y.w = wr.drewN q := by subst hK; exact fun y => y.h
      clear hK
      have k0 : ∀ y : Wd K, y.w.cell? ⟨Bs, 0, none⟩ = some (.slice (some ⟨b, o, none⟩) n c) := fun y => by obtain ⟨q, hq⟩ := kw y; rw [hq]; exact ca
      have k1 : ∀ y : Wd K, y.w.cell? ⟨Bn, 0, none⟩ = some (.int .i64 9) := fun y => by obtain ⟨q, hq⟩ := kw y; rw [hq]; exact cb
      refine wpQuiet_nil ?_
      repeat (go_big_quiet_step ((fail)))
      refine wpQuiet_nil ?_
      intro y
      obtain ⟨q, hq⟩ := kw y
      have hJ2 : Hid (J (seqC b o n k) y.w) := by show J _ _; rw [hq]; exact hJD.out _ _ _ hJs
      have ca2 := k0 y
      have cb2 := k1 y
      have hsz2 : V.heap.size ≤ y.w.heap.size := by rw [hq]; exact hsz
      clear kw k0 k1 hq ca cb hJs hsz
      generalize y.w = w3 at *
      clear hne
      go_wp2_with fail
      refine NoPanic.normal ?_
      have hE : (min 9 ((n - t : Nat) : Int)) = ((chN n k : Nat) : Int) := by
        have := HT.out
        subst this
        show min 9 ((n - 9 * k : Nat) : Int) = ((min 9 (n - 9 * k) : Nat) : Int)
        omega
      have hE2 : chN n k ≤ 9 ∧ t + chN n k ≤ n ∧ 0 < chN n k := by
        have := HT.out
        subst this
        show min 9 (n - 9 * k) ≤ 9 ∧ 9 * k + min 9 (n - 9 * k) ≤ n ∧ 0 < min 9 (n - 9 * k)
        omega
      obtain ⟨fn, tmps, assign, body, hyy, hR⟩ := hY _ (chV b o n k) w3 hJ2.out hsz2 ⟨k + 1, by have := HT.out; omega, (seqC_snoc b o n k).symm⟩
      unfold encC chV at hyy
      rw [← HT.out] at hyy
      have HSN := Lib.hid (seqC_snoc b o n k)
      rw [hE]
      clear hJ2 hE
      generalize chN n k = e at *
      obtain ⟨e1, e2, e3⟩ := hE2
      gi_wp2
      refine hR.mono ?_
      rintro e' W3 (⟨rfl, hJ4, hk3⟩ | ⟨rfl, hJx4⟩)
      · have f0 : W3.cell? ⟨Bs, 0, none⟩ = some (.slice (some ⟨b, o, none⟩) n c) := (World.cell?_of_block (hk3.2.2 Bs (by simp))).trans ca2
        have f1 : W3.cell? ⟨Bn, 0, none⟩ = some (.int .i64 9) := (World.cell?_of_block (hk3.2.2 Bn (by simp))).trans cb2
        have hs3 := hk3.2.1
        gi_wp2
        go_roundw
        case rel => exact ⟨k + 1, t + 9, by show _ = _; rw [HT.out]; omega, by show _ ≤ _; have := HT.out; omega, by go_num, by rw [HSN.out]; exact hJ4, by omega, f0, f1⟩
        case measure => simp [intOf]; omega
      · gi_wp2
        refine bodyPost_ret (results_none rfl _ _ _) rfl ?_
        exact ⟨⟨_, rfl⟩, .inr ⟨_, trivial, hJx4⟩⟩
    · have hkn : k = (n + 8) / 9 := by have := HT.out; have := HK.out; omega
      have hkb : decide ((t : Int) < n) = false := by simp; omega
      have HJ := Lib.hid hJs
      have HKN := Lib.hid hkn
      clear hJs hkn
      gi_wp2
      go_end0
      exact ⟨⟨_, rfl⟩, .inl ⟨_, by rw [HKN.out], HJ.out⟩⟩
end Go.Proofs.YtbakoldmfpbnaaaGreatDoor
