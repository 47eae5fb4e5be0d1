/- Part 35 of the walks of the golf union's program: DR1. -/
import Derived.Test.YtkkkfjinflepmaaGreatDoorB34
set_option linter.unusedVariables false
set_option linter.unusedSimpArgs false
set_option linter.unusedSectionVars false
set_option linter.constructorNameAsVariable false
/- Chapter 7: Run. -/
namespace Go.Proofs.YtkkkfjinflepmaaGreatDoor
open Go.RowKit Go.Mem Go.Sheet Go.Adj
/-- rounds of a bracket: the slots and those who lose -/
structure RunOk (np t : Nat) (S : Nat → List (Option Nat)) (l : Nat → List Nat) : Prop where
  len : ∀ i, i < t → ∃ m, (S i).length = 2 * m ∧ ((S i).length = 2 ∨ (S i).length = 4 ∨ (S i).length = 8 ∨ (S i).length = 16) ∧ S (i + 1) = advL (l i) (S i) m ∧ ∀ j, j < m → (stayO (l i) ((S i).getD (2 * j) none) && stayO (l i) ((S i).getD (2 * j + 1) none)) = false
  nd : ∀ i, i < t → (pres (S i)).Nodup
  bd : ∀ i, i < t → ∀ p ∈ pres (S i), p < np
  ln : ∀ i, i < t → (l i).Nodup
  lp : ∀ i, i < t → ∀ p ∈ l i, p ∈ pres (S i)
def RS (f : Nat → ByteArray) (S : Nat → List (Option Nat)) (r : Nat) : List (List Value) := (List.range r).map fun i => strsO f (S i)
theorem RS_snoc (f : Nat → ByteArray) (S : Nat → List (Option Nat)) (r : Nat) : RS f S (r + 1) = RS f S r ++ [strsO f (S r)] := by unfold RS; rw [List.range_succ, List.map_append]; rfl
theorem RS_len (f : Nat → ByteArray) (S : Nat → List (Option Nat)) (r : Nat) : (RS f S r).length = r := by unfold RS; simp
set_option maxRecDepth 100000 in
set_option maxHeartbeats 4000000 in
theorem run_ok (W : World) (v vl : Value) (n t : Nat) (f : Nat → ByteArray) (S : Nat → List (Option Nat)) (l : Nat → List Nat) (hn : 1 ≤ n ∧ n ≤ 200) (ht : t ≤ 8) (h : Rd W (· < W.heap.size) 1 v n (strsV f n)) (hg : GoodNs f n) (h0 : S 0 = slotL n) (hr : RunOk n t S l)
    (hsh : (slotL n).length / 2 ^ t = 1)
    (hl : ∃ vs, Rd W (· < W.heap.size) 1 vl t vs ∧ ∀ i, i < t → ∃ u, vs[i]? = some u ∧ Rd W (· < W.heap.size) 1 u (l i).length (strsL f (l i))) :
    Calls Tryz.prog 22 #[v, vl] W fun e w' => ∃ va ms, e = .returned (.tuple #[va, .int .i64 0]) ∧ ms.map Prod.snd = RS f S (t + 1) ∧ St W w' [row 32 1 va (t + 1) (ms.map Prod.fst), rdAll ms] := by
  have HD := Lib.hid (draw_ok W n v f h hg hn)
  obtain ⟨A, c, rfl, _, _, _⟩ := h.open_
  obtain ⟨vs, hl1, hl2⟩ := hl
  obtain ⟨Al, cl, rfl, _, _, _⟩ := hl1.open_
  have HL : Hid (∀ i, i < t → ∀ w, Below W.heap.size W w → ∃ b o u, Al = some ⟨b, o, none⟩ ∧ w.cell? ⟨b, o + i, none⟩ = some u ∧ Rd w (· < w.heap.size) 1 u (l i).length (strsL f (l i))) := fun i hi w hw => by
    obtain ⟨b, o, u, hA, _, hu, hc⟩ := (hl1.later hw).at_ hi
    obtain ⟨u', hu', hru⟩ := hl2 i hi
    rw [hu] at hu'
    cases hu'
    exact ⟨b, o, u, hA, hc, hru.later hw⟩
  have HG := Lib.hid hg
  have HR := Lib.hid hr
  rw [← h0] at HD hsh
  obtain ⟨N, hN⟩ : ∃ N, N = (S 0).length := ⟨_, rfl⟩
  rw [← hN] at HD hsh
  have hsh2 : ((N : Int) / 2 ^ t == 0) = false := by
    have e : ((N / 2 ^ t : Nat) : Int) = (N : Int) / 2 ^ t := by push_cast; rfl
    rw [← e, hsh]; rfl
  have HN := Lib.hid hN
  clear h hl1 hl2 hg hr h0 hN hsh
  go_enter Tryz.func22, Tryz.ntmps22
  go_wp2_with fail
  go_at_call 20
  refine HD.out.mono ?_
  rintro e w2 ⟨v1, rfl, S1⟩
  obtain ⟨As, cs, rfl, _, _, _⟩ := (S1.row_rd (i := 0) rfl).open_
  have S3 := S1.row_new (e := 32) (size := 1) (n := 1) #[.slice As N cs] (by unfold maxLen; omega) rfl
  have S4 := S3.rdAll_new
  simp only [List.cons_append, List.nil_append] at S4
  have S5 := S4.perm5 (L' := [_, _, _]) (List.perm_append_comm (l₁ := [_]) (l₂ := [_, _]))
  have S6 := S5.freeze5 (L := [_]) (by rw [strsO_len, ← HN.out])
  simp only [List.cons_append, List.nil_append] at S6
  have HS6 := Lib.hid S6
  clear S1 S3 S4 S5 S6 HD
  go_wp2_with fail
  clear hsh2
  go_loopw [29, 6, 8] (fun i sv av w' => ∃ (r : Nat) (ms : List (Value × List Value)), r ≤ t ∧ i = .int .i64 (r : Int) ∧ Hid (ms.map Prod.snd = RS f S (r + 1)) ∧ (∃ u, ms[r]? = some (sv, u)) ∧ St W w' [row 32 1 av (r + 1) (ms.map Prod.fst), rdAll ms]) (fun i _ _ _ => t - (intOf i).toNat)
  case atStart => exact ⟨0, [(.slice As N cs, strsO f (S 0))], Nat.zero_le _, rfl, rfl, ⟨_, rfl⟩, HS6.out⟩
  case round =>
    obtain ⟨r, ms, hr, rfl, hms, ⟨u, hu⟩, SS⟩ := hrel
    clear HS6
    by_cases hlt : r < t
    · have hu2 : u = strsO f (S r) := by
        have e : (ms.map Prod.snd)[r]? = some u := by rw [List.getElem?_map, hu]; rfl
        rw [hms.out, RS_snoc, List.getElem?_append_right (by rw [RS_len]; exact Nat.le_refl _), RS_len, Nat.sub_self] at e
        exact (Option.some.inj e).symm
      subst hu2
      have hrd := SS.rdAll_at (i := 1) rfl hu
      obtain ⟨m, hm1, hm2, hm3, hm4⟩ := HR.out.len r hlt
      obtain ⟨q, hq⟩ : ∃ q, q = (S r).length := ⟨_, rfl⟩
      rw [strsO_len, ← hq] at hrd
      obtain ⟨b, o, ul, hA, c0, hul⟩ := HL.out r hlt _ SS.bel
      subst hA
      have HADV := Lib.hid (advance_ok wr q m _ ul f n (S r) (l r) hrd hul HG.out hq (by rw [hq]; exact hm1) (by rw [hq]; exact hm2) (HR.out.nd r hlt) (HR.out.bd r hlt) (HR.out.ln r hlt) (HR.out.lp r hlt) hm4)
      obtain ⟨Aq, cq, rfl, _, _, _⟩ := hrd.open_
      obtain ⟨Au, cu, rfl, _, _, _⟩ := hul.open_
      have hmq : m ≤ 8 := by omega
      have HM3 := Lib.hid hm3
      have HS := Lib.hid SS
      clear hrd hul hu SS hm1 hm2 hm3 hm4 hq
      go_wp2_with fail
      go_at_call 21
      refine HADV.out.mono ?_
      rintro e w4 ⟨vn, rfl, S9⟩
      rw [← HM3.out] at S9
      have S10 := HS.out.call S9
      simp only [List.cons_append, List.nil_append] at S10
      obtain ⟨An2, cn2, rfl, _, _, _⟩ := (S10.row_rd (i := 2) rfl).open_
      have hml : m = (strsO f (S (r + 1))).length := by
        rw [strsO_len, HM3.out]; unfold advL; rw [List.length_map, List.length_range]
      have S12 := S10.freeze5 (L := [_]) hml
      clear hml
      simp only [List.cons_append, List.nil_append] at S12
      have HSF := Lib.hid S12
      have HSG := Lib.hid (S12.alloc (.cells #[.slice An2 m cn2] 32))
      clear S9 S10 S12 HS HADV
      go_wp2_with (at_builtin; refine wpList_append_st eltTS rfl _ _ rfl rfl HSG.out (k := 0) rfl rfl (rd_one (by simp)) (one_sl5 _ _ _) (by omega) (by omega) ?_; intro v' w' S' _)
      go_roundw
      case rel =>
        refine ⟨r + 1, ms ++ [(.slice An2 m cn2, strsO f (S (r + 1)))], by omega, by go_num, ?_, ⟨strsO f (S (r + 1)), ?_⟩, ?_⟩
        · show _ = _
          rw [List.map_append, hms.out, RS_snoc f S (r + 1)]; rfl
        · have hml : ms.length = r + 1 := by
            have := congrArg List.length hms.out
            rw [List.length_map, RS_len] at this
            exact this
          rw [List.getElem?_append_right (by omega), hml, Nat.sub_self]; rfl
        · rw [List.map_append]
          exact S'
      case measure => simp [intOf]; omega
    · obtain rfl : t = r := by omega
      have HS := Lib.hid SS
      clear SS hu
      go_wp2_with fail
      go_ret2
      exact ⟨_, ms, rfl, hms.out, HS.out⟩
end Go.Proofs.YtkkkfjinflepmaaGreatDoor
