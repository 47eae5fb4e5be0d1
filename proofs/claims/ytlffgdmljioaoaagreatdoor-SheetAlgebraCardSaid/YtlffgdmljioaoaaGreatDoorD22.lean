/- Part 22 of the walks of the golf union's program: WV3, WV4, WN1. -/
import Derived.Test.YtlffgdmljioaoaaGreatDoorD21
import Derived.Test.YtlffgdmljioaoaaGreatDoorD01
import Derived.Test.YtlffgdmljioaoaaGreatDoorD11
import Derived.Test.YtlffgdmljioaoaaGreatDoorD20
import Derived.Laws.EntriesVeiled
import Derived.Test.YtlffgdmljioaoaaGreatDoorD17
import Derived.WalkSpells
set_option linter.unusedVariables false
set_option linter.unusedSimpArgs false
set_option linter.unusedSectionVars false
set_option linter.constructorNameAsVariable false
/- Walks: tight: the search. -/
namespace Go.Mem
open Go Go.RowKit
/-- a row made shorter -/
theorem St.row_cut {W w : World} {L : List Asr} {i n m : Nat} {e : TypeId} {g cap : Nat} {xs : List Value} (h : St W w L) (hi : L[i]? = some (row e 1 (.slice (some ⟨g, 0, none⟩) n cap) n xs)) (hm : m ≤ n) :
    St W w (L.set i (row e 1 (.slice (some ⟨g, 0, none⟩) m cap) m (xs.take m))) := by
  have ho := h.row_own hi
  refine h.row_grown (v' := .slice (some ⟨g, 0, none⟩) m cap) (n' := m) (xs' := xs.take m) hi ⟨?_, ?_⟩ (World.grownBy.refl w _) (fun g' hg' => .inl hg')
  · have := ho.1
    rw [List.length_take]; omega
  · rcases ho.2 with ⟨h1, _⟩ | ⟨g', cap', cur, h1, h2, h3, h4, h5, h6, h7⟩
    · cases h1
    · cases h1
      refine .inr ⟨g, cap, cur, rfl, h2, h3, by omega, h5, h6, ?_⟩
      rw [← h7, List.take_take]
      congr 1; omega
end Go.Mem
namespace Go.Sheet
/-- the blocks of the search -/
structure TB where
  m : Nat
  t : Nat
  s : Nat
  w : Nat
  o : Nat
  f : Nat
open Go.RowKit Go.Mem
theorem tLoop_skip {rec : Nat → TS → TS × Bool} {top row : List Int} {i k : Nat} {x : Int} {s : TS} {R : TS × Bool} (hx : row[k]? = some x) (h : x = noth ∨ top.getD k 0 + x ≠ top.getD i 0) (e : tLoop rec top i k (row.drop k) s = R) : tLoop rec top i (k + 1) (row.drop (k + 1)) s = R := by
  rw [← e, drop_at hx, tLoop, if_pos h]
theorem tLoop_hit {rec : Nat → TS → TS × Bool} {top row : List Int} {i k : Nat} {x : Int} {s : TS} {R : TS × Bool} (hx : row[k]? = some x) (h : ¬ (x = noth ∨ top.getD k 0 + x ≠ top.getD i 0)) (h1 : s.st.getD k 0 = 1) (e : tLoop rec top i k (row.drop k) s = R) : R = (⟨s.st, s.way, s.way.drop (idxF (fun y => (k : Int) == y) 0 s.way).toNat⟩, true) := by
  rw [← e, drop_at hx, tLoop, if_neg h, if_pos h1]
theorem tLoop_rec {rec : Nat → TS → TS × Bool} {top row : List Int} {i k : Nat} {x : Int} {s : TS} {R : TS × Bool} (hx : row[k]? = some x) (h : ¬ (x = noth ∨ top.getD k 0 + x ≠ top.getD i 0)) (h0 : s.st.getD k 0 = 0) (e : tLoop rec top i k (row.drop k) s = R) :
    R = if (rec k s).2 then rec k s else tLoop rec top i (k + 1) (row.drop (k + 1)) (rec k s).1 := by
  rw [← e, drop_at hx, tLoop, if_neg h, if_neg (by rw [h0]; decide), if_pos h0]
theorem tLoop_old {rec : Nat → TS → TS × Bool} {top row : List Int} {i k : Nat} {x : Int} {s : TS} {R : TS × Bool} (hx : row[k]? = some x) (h1 : s.st.getD k 0 ≠ 1) (h0 : s.st.getD k 0 ≠ 0) (e : tLoop rec top i k (row.drop k) s = R) : tLoop rec top i (k + 1) (row.drop (k + 1)) s = R := by
  rw [← e, drop_at hx, tLoop]
  split
  · rfl
  · simp only [if_neg h1, if_neg h0]
theorem tLoop_end {rec : Nat → TS → TS × Bool} {top row : List Int} {i k : Nat} {s : TS} {R : TS × Bool} (h : row.length ≤ k) (e : tLoop rec top i k (row.drop k) s = R) : R = (⟨s.st.set i 2, s.way.dropLast, s.out⟩, false) := by
  rw [← e, List.drop_of_length_le h, tLoop]
theorem idxF_mem {l : List Int} {y : Int} (h : y ∈ l) : ∃ j : Nat, idxF (fun x => y == x) 0 l = j ∧ j < l.length := by
  cases hf : l.find? (fun x => y == x) with
  | none =>
    rw [List.find?_eq_none] at hf
    exact absurd (beq_self_eq_true y) (hf y h)
  | some z =>
    obtain ⟨j, h1, h2⟩ := idxF_some _ _ _ hf 0
    exact ⟨j, by simpa using h1, (List.getElem?_eq_some_iff.1 h2).1⟩
end Go.Sheet
namespace Go.Proofs.YtlffgdmljioaoaaGreatDoor
open Go.RowKit Go.Mem Go.Sheet
abbrev capT (b : TB) : Array Value := #[.pointer (some ⟨b.s, 0, none⟩), .pointer (some ⟨b.w, 0, none⟩), .pointer (some ⟨b.m, 0, none⟩), .pointer (some ⟨b.t, 0, none⟩), .pointer (some ⟨b.o, 0, none⟩), .pointer (some ⟨b.f, 0, none⟩)]
/-- the memory of the search -/
abbrev TL (b : TB) (vm vt : Value) (s : TS) (vw vo : Value) : List Asr :=
  [blk b.s 158 (ints s.st).toArray, blk b.w 23 #[vw], row 3 1 vw s.way.length (ints s.way), blk b.o 23 #[vo], row 3 1 vo s.out.length (ints s.out),
    blk b.m 22 #[vm], blk b.t 23 #[vt], blk b.f 83 #[.func (.func 103) #[] (capT b)]]
theorem perm9 {α : Type} (a0 a1 a2 a3 a4 a5 a6 a7 a8 : α) : [a0, a1, a2, a3, a4, a5, a6, a7, a8].Perm ([a0, a1, a2, a3, a8, a5, a6, a7] ++ [a4]) :=
  .cons _ (.cons _ (.cons _ (.cons _ (List.Perm.trans (List.perm_append_comm (l₁ := [a4]) (l₂ := [a5, a6, a7, a8])) (List.Perm.append_right [a4] (List.perm_append_comm (l₁ := [a5, a6, a7]) (l₂ := [a8])))))))
/-- how the search ends -/
def RetT (W : World) (b : TB) (vm vt : Value) (R : TS × Bool) (e : Ending) (w' : World) : Prop :=
  ∃ vw vo, e = .returned (.bool R.2) ∧ St W w' (TL b vm vt R.1 vw vo)
set_option maxRecDepth 100000 in
set_option maxHeartbeats 4000000 in
theorem tight1_any (W : World) (b : TB) (vm vt : Value) (m : IMat) (top : List Int) (n : Nat) (hm : RdRows W (· < W.heap.size) vm m) (ht : Rd W (· < W.heap.size) 1 vt n (ints top)) (hmn : SqOk n 100000000000 m) (htn : top.length = n) (hn : n ≤ 24)
    (htb : ∀ x ∈ top, -100000000000000 ≤ x ∧ x ≤ 100000000000000) :
    ∀ (f i : Nat) (s : TS) (vw vo : Value) (w : World), i < n → TInv s → zeros s.st ≤ f → s.st.getD i 0 = 0 → St W w (TL b vm vt s vw vo) →
      Calls Tryz.prog 103 #[.int .i64 i, .pointer (some ⟨b.s, 0, none⟩), .pointer (some ⟨b.w, 0, none⟩), .pointer (some ⟨b.m, 0, none⟩), .pointer (some ⟨b.t, 0, none⟩), .pointer (some ⟨b.o, 0, none⟩), .pointer (some ⟨b.f, 0, none⟩)] w (RetT W b vm vt (tWalk m top f i s)) := by
  have HT := Lib.hid ht
  have HMM := Lib.hid hm
  have HMN := Lib.hid hmn
  have HTN := Lib.hid htn
  have HTB := Lib.hid htb
  obtain ⟨vs0, h1, h2⟩ := hm
  rw [hmn.n_eq] at h1
  obtain ⟨Am, cm, rfl, _, _, _⟩ := h1.open_
  obtain ⟨At, ct, rfl, _, _, _⟩ := ht.open_
  have H1 := Lib.hid h1
  have H2 : Hid (∀ (i : Nat) (x : Value) (r : List Int), vs0[i]? = some x → m[i]? = some r → Rd W (· < W.heap.size) 1 x r.length (ints r)) := h2
  clear h1 h2 ht hmn htn htb
  intro f
  induction f with
  | zero =>
    intro i s vw vo w hi hI hz h0 _
    have := zeros_set (l := s.st) (x := 1) (by rw [hI.len]; omega) h0 (by decide)
    omega
  | succ f ih =>
    intro i s vw vo w hi hI hz h0 S
    have HIH := Lib.hid ih
    clear ih
    have hz1 := zeros_set (l := s.st) (x := 1) (by rw [hI.len]; omega) h0 (by decide)
    have hI1 := hI.push (by omega) h0
    have hcnt := hI.cnt
    have hst24 := hI.len
    have HR : Hid (tWalk m top (f + 1) i s = tLoop (tWalk m top f) top i 0 (m.getD i []) ⟨s.st.set i 1, s.way ++ [(i : Int)], s.out⟩) := rfl
    have hlen := (S.row_rd (i := 2) rfl).le
    obtain ⟨Aw, cw, rfl, _, _, _⟩ := (S.row_rd (i := 2) rfl).open_
    have e0 := S.blk_cell (i := 0) rfl i
    have hil : i < (ints s.st).length := by rw [ints, List.length_map, hst24]; omega
    rw [List.getElem?_toArray, List.getElem?_eq_getElem hil] at e0
    have e1 := S.blk_frozen (i := 0) rfl i
    have S1 := S.blk_set (i := 0) rfl i (.int .i64 1)
    have hi24 : i < 24 := by omega
    have hwl : s.way.length ≤ 24 := by omega
    have HS1 := Lib.hid S1
    have HI1 := Lib.hid hI1
    have HZ1 : Hid (zeros (s.st.set i 1) ≤ f) := by show _ ≤ _; omega
    clear hz hz1 hI1 hI h0 S S1
    obtain ⟨bm, om, xm, hA, hxm, cm0⟩ := H1.out.val (k := i) hi
    subst hA
    have him : i < m.length := by rw [HMN.out.n_eq]; exact hi
    have hmr : m[i]? = some m[i] := List.getElem?_eq_getElem him
    have hrow := H2.out i xm _ hxm hmr
    have hrl := HMN.out.len _ (List.getElem_mem him)
    have hrb := HMN.out.bd _ (List.getElem_mem him)
    have hRR := HR.out
    rw [show m.getD i [] = m[i] by rw [List.getD_eq_getElem?_getD, hmr, Option.getD_some]] at hRR
    have HRR := Lib.hid hRR
    generalize m[i] = r at *
    rw [hrl] at hrow
    obtain ⟨Ar, cr, rfl, _, _, _⟩ := hrow.open_
    have hbmW : bm < W.heap.size := World.block_lt_of_cell? W _ cm0
    have HMC : Hid (∀ w', Below W.heap.size W w' → w'.cell? ⟨bm, om + i, none⟩ = some (.slice Ar n cr)) := fun w' h => (h.cell (p := ⟨bm, om + i, none⟩) hbmW).trans cm0
    have HROW := Lib.hid hrow
    have HRL := Lib.hid hrl
    have HRB := Lib.hid hrb
    clear HR hxm hmr hrow hrl hrb hRR him cm0
    have hin : (i : Int) < n := by omega
    have hE181 := enters Tryz.func103 (by kernel_rfl) rfl
    unfold Enters at hE181
    go_enter Tryz.func103, Tryz.ntmps103
    have d1 := HS1.out.blk_cell (i := 1) rfl 0
    have d2 := HS1.out.blk_frozen (i := 1) rfl 0
    go_wp2_with (at_builtin; refine wpList_append_st eltI rfl _ _ rfl rfl (HS1.out.alloc _) (k := 2) rfl rfl (rd_one (by simp)) (one_int _ _) (by omega) (by omega) ?_; intro v' w' S2 _; obtain ⟨Av, cv, rfl, _, _, _⟩ := (S2.row_rd (i := 2) rfl).open_; have f1 := S2.blk_cell (i := 1) rfl 0; have f2 := S2.blk_frozen (i := 1) rfl 0; have HS3 := Lib.hid (S2.blk_set (i := 1) rfl 0 (.slice Av (s.way.length + 1) cv)); have f3 := HS3.out.blk_cell (i := 5) rfl 0; have f4 := HMC.out _ HS3.out.bel; clear d1 d2 S2)
    have HS4 : Hid (St W (w'.setCell ⟨b.w, 0, none⟩ (.slice Av (s.way.length + 1) cv)) (TL b (.slice (some ⟨bm, om, none⟩) n cm) (.slice At n ct) ⟨s.st.set i 1, s.way ++ [(i : Int)], s.out⟩ (.slice Av (s.way.length + 1) cv) vo)) := by
      show St _ _ _
      have := HS3.out
      simpa [TL, ints, List.map_set] using this
    clear HS3 HS1 f1 f2 f3 f4
    generalize w'.setCell ⟨b.w, 0, none⟩ (.slice Av (s.way.length + 1) cv) = w3 at *
    generalize hR : tWalk m top (f + 1) i s = R at *
    have HRE := Lib.hid hR
    clear hR
    go_loopw [22] (fun idx w' => ∃ (k : Nat) (s' : TS) (vw' vo' : Value), k ≤ n ∧ idx = .int .i64 k ∧ St W w' (TL b (.slice (some ⟨bm, om, none⟩) n cm) (.slice At n ct) s' vw' vo') ∧ TInv s' ∧ zeros s'.st ≤ f ∧ Hid (s'.way = s.way ++ [(i : Int)]) ∧ Hid (tLoop (tWalk m top f) top i k (r.drop k) s' = R)) (fun idx _ => n - (intOf idx).toNat)
    case atStart => exact ⟨0, _, _, _, Nat.zero_le _, rfl, HS4.out, HI1.out, HZ1.out, rfl, HRR.out.symm⟩
    case round =>
      obtain ⟨k, s', vw', vo', hk, rfl, S, hI', hz', HW', hE⟩ := hrel
      clear HS4
      by_cases hlt : k < n
      · obtain ⟨br, or_, x, hA, hx, k1⟩ := (HROW.out.below S.bel).int (k := k) hlt
        subst hA
        have hxb := HRB.out x (List.mem_of_getElem? hx)
        have HX := Lib.hid hx
        have HI' := Lib.hid hI'
        have HZ' := Lib.hid hz'
        have HS := Lib.hid S
        have hkn : (k : Int) < n := by omega
        clear hx hI' hz' S
        by_cases h1 : x = noth
        · have h1b : (x == -1125899906842624) = true := by rw [h1]; rfl
          have HN := Lib.hid (tLoop_skip HX.out (.inl h1) hE.out)
          clear h1 hxb
          go_wp2_with fail
          go_quiet (fail)
          go_wp2
          go_roundw
          case rel => exact ⟨k + 1, s', vw', vo', by omega, by go_num, HS.out.drewN _, HI'.out, HZ'.out, HW'.out, HN.out⟩
          case measure => simp [intOf]; omega
        · have h1b : (x == -1125899906842624) = false := by simp only [beq_eq_false_iff_ne, ne_eq]; exact h1
          have hxb2 : -100000000000 ≤ x ∧ x ≤ 100000000000 := by
            rcases hxb with h | h
            · exact absurd h h1
            · exact h
          obtain ⟨bt, ot, tk, hA, htk, k2⟩ := Rd.int (q := .i64) (l := top) (HT.out.below HS.out.bel) (k := k) hlt
          subst hA
          obtain ⟨bt', ot', ti, hA, hti, k3⟩ := Rd.int (q := .i64) (l := top) (HT.out.below HS.out.bel) (k := i) hi
          cases hA
          have htkb := HTB.out tk (List.mem_of_getElem? htk)
          have htib := HTB.out ti (List.mem_of_getElem? hti)
          have k4 := HS.out.blk_cell (i := 6) rfl 0
          have hw1 : IntKind.i64.wrap (tk + x) = tk + x := IntWalk.i64_in _ (by omega)
          have htk' : top.getD k 0 = tk := by rw [List.getD_eq_getElem?_getD, htk, Option.getD_some]
          have hti' : top.getD i 0 = ti := by rw [List.getD_eq_getElem?_getD, hti, Option.getD_some]
          have HK' := Lib.hid htk'
          have HI2 := Lib.hid hti'
          have HN1 := Lib.hid h1
          clear hxb htk hti htk' hti' h1
          generalize hsm : tk + x = sm at *
          by_cases h2 : sm = ti
          · have h2b : (sm != ti) = false := by simpa using h2
            have HCND : Hid (¬ (x = noth ∨ top.getD k 0 + x ≠ top.getD i 0)) := fun h => h.elim HN1.out (fun h => h (by rw [HK'.out, HI2.out, hsm]; exact h2))
            have hk24 : k < 24 := by omega
            have hkl : k < s'.st.length := by rw [HI'.out.len]; exact hk24
            obtain ⟨sk, hsk⟩ : ∃ y, s'.st[k]? = some y := ⟨_, List.getElem?_eq_getElem hkl⟩
            have hskD : s'.st.getD k 0 = sk := by rw [List.getD_eq_getElem?_getD, hsk, Option.getD_some]
            have HSKD := Lib.hid hskD
            have c0 := HS.out.blk_cell (i := 0) rfl k
            rw [List.getElem?_toArray, ints, List.getElem?_map, hsk] at c0
            simp only [Option.map_some] at c0
            clear h2 hkl hsk hskD
            go_wp2_with fail
            go_quiet (fail)
            have HS4 := Lib.hid (HS.out.drewN nq)
            have e1 : (wr.drewN nq).cell? ⟨b.s, k, none⟩ = some (.int .i64 sk) := c0
            clear c0 k1 k2 k3 k4
            generalize wr.drewN nq = w4 at *
            by_cases s1 : sk = 1
            · have s1b : (sk == 1) = true := by simpa using s1
              have hmem := HI'.out.one k (by rw [HSKD.out]; exact s1)
              obtain ⟨j, hj1, hj2⟩ := idxF_mem hmem
              have HRES := Lib.hid (tLoop_hit HX.out HCND.out (by rw [HSKD.out]; exact s1) hE.out)
              have hwn : 0 < s'.way.length := by omega
              obtain ⟨gw, capw, hv, hcw, _, _, _, _⟩ := HS4.out.row_form (i := 2) rfl hwn
              subst hv
              have hrdw := HS4.out.row_rd (i := 2) rfl
              have HIX := Lib.hid (fun q => index_any (w4.drewN q) _ (.slice (some ⟨gw, 0, none⟩) s'.way.length capw) s'.way k (HS4.out.drewN q |>.row_rd (i := 2) rfl))
              rw [hj1] at HIX
              have HJ1 := Lib.hid hj1
              have k1 := HS4.out.blk_cell (i := 1) rfl 0
              have hwl' : s'.way.length ≤ 24 := by have := HI'.out.cnt; omega
              clear s1 hmem hj1 hrdw hE181 HIH
              go_wp2_with fail
              refine wp_cls 5 (fun w' => ∃ q, w' = w4.drewN q) (by kernel_rfl) (by kernel_rfl) ⟨1, rfl⟩ ?_
              simp only [List.take_succ_cons, List.take_zero, List.drop_succ_cons, List.drop_zero]
              generalize hK : (fun w' => ∃ q, w' = w4.drewN q) = K
              intro hne
              have kw : ∀ y : Wd K, ∃ q, y.w = w4.drewN q := by subst hK; exact fun y => y.h
              have y1 : ∀ y : Wd K, y.w.cell? ⟨b.w, 0, none⟩ = some (.slice (some ⟨gw, 0, none⟩) s'.way.length capw) := fun y => by obtain ⟨q, e⟩ := kw y; rw [e]; exact k1
              have HIX2 : Hid (∀ y : Wd K, Calls Tryz.prog 90 #[.slice (some ⟨gw, 0, none⟩) s'.way.length capw, .int .i64 k] y.w fun e w' => e = .returned (.int .i64 j) ∧ y.w = w') := fun y => by obtain ⟨q, e⟩ := kw y; rw [e]; exact HIX.out q
              clear hK k1 HIX
              repeat (go_big_quiet_step ((go_at_call 90; exact cls_same (HIX2.out _))))
              refine wpQuiet_nil ?_
              intro y
              obtain ⟨q, hq⟩ := kw y
              have S5 := HS4.out.drewN q
              rw [← hq] at S5
              have HS5 := Lib.hid S5
              clear y1 kw hq HIX2 hne S5 e1
              generalize y.w = w5 at *
              have hrd := (HS5.out.row_rd (i := 2) rfl).mono (S' := (· < w5.heap.size)) fun _ hb _ => hb
              have hsub := Rd.sub hrd (k := j) (j := s'.way.length) (by omega) (Nat.le_refl _)
              rw [List.take_of_length_le (by simp [ints]), Nat.zero_add] at hsub
              have hdl : (ints s'.way).drop j = (s'.way.drop j).map (Value.int .i64) := by rw [ints, List.map_drop]
              rw [hdl] at hsub
              have HCP := Lib.hid (copied_any w5 _ _ _ hsub (by omega))
              clear hrd hsub hdl
              go_wp2_with fail
              refine HCP.out.mono ?_
              rintro e w6 ⟨v6, rfl, S6⟩
              obtain ⟨A6, c6, rfl, _, _, _⟩ := (S6.row_rd (i := 0) rfl).open_
              have S7 := HS5.out.call S6
              have f0 := S7.blk_cell (i := 3) rfl 0
              have f1 := S7.blk_frozen (i := 3) rfl 0
              have S8 := S7.blk_set (i := 3) rfl 0 (.slice A6 (s'.way.length - j) c6)
              have S9 : St W (w6.setCell ⟨b.o, 0, none⟩ (.slice A6 (s'.way.length - j) c6)) (TL b (.slice (some ⟨bm, om, none⟩) n cm) (.slice (some ⟨bt, ot, none⟩) n ct) ⟨s'.st, s'.way, s'.way.drop j⟩ (.slice (some ⟨gw, 0, none⟩) s'.way.length capw) (.slice A6 (s'.way.length - j) c6)) := by
                have h9 := (S8.perm (perm9 _ _ _ _ _ _ _ _ _)).sub (List.sublist_append_left _ _)
                have hl9 : (s'.way.drop j).length = s'.way.length - j := List.length_drop
                show St W _ [_, _, _, _, row 3 1 (.slice A6 (s'.way.length - j) c6) (s'.way.drop j).length (ints (s'.way.drop j)), _, _, _]
                rw [hl9]
                exact h9
              have HS9 := Lib.hid S9
              clear S6 S7 S8 S9 HCP
              go_wp2
              go_ret
              rw [HRES.out, HJ1.out, Int.toNat_natCast]
              exact ⟨_, _, rfl, HS9.out⟩
            · have s1b : (sk == 1) = false := by simpa using s1
              have HS1N := Lib.hid s1
              clear s1
              by_cases s0 : sk = 0
              · have s0b : (sk == 0) = true := by simpa using s0
                have h0' : s'.st.getD k 0 = 0 := by rw [HSKD.out]; exact s0
                have HRC := Lib.hid (tLoop_rec HX.out HCND.out h0' hE.out)
                have HLV := Lib.hid (tWalk_inv (m := m) (top := top) (fun r hr => by rw [HMN.out.len r hr]; omega) f k s' hk24 HI'.out HZ'.out h0')
                have HCALL := Lib.hid (HIH.out k s' vw' vo' w4 hlt HI'.out HZ'.out h0' HS4.out)
                have k1 := HS4.out.blk_cell (i := 7) rfl 0
                generalize tWalk m top f k s' = Q at *
                clear s0 h0' HIH
                go_wp2_with fail
                refine HCALL.out.mono ?_
                rintro e w5 ⟨vw5, vo5, rfl, S5⟩
                have HS5 := Lib.hid S5
                clear S5 HCALL
                cases hq : Q.2
                · have HLV2 := HLV.out hq
                  have HRC2 := HRC.out
                  rw [hq, if_neg (by decide)] at HRC2
                  have HN := Lib.hid HRC2.symm
                  have HL2 := Lib.hid HLV2
                  clear HLV2 HRC2 HLV HRC hq
                  go_wp2
                  go_roundw
                  case rel => exact ⟨k + 1, Q.1, vw5, vo5, by omega, by go_num, HS5.out, HL2.out.1, by have := HL2.out.2.2.1; have := HZ'.out; omega, by show _ = _; rw [HL2.out.2.1, HW'.out], HN.out⟩
                  case measure => simp [intOf]; omega
                · have HRC2 := HRC.out
                  rw [hq, if_pos rfl] at HRC2
                  have HN := Lib.hid HRC2
                  have HQ := Lib.hid hq
                  clear HRC2 HLV HRC hq
                  go_wp2
                  go_ret
                  rw [HN.out]
                  exact ⟨_, _, by rw [HQ.out]; rfl, HS5.out⟩
              · have s0b : (sk == 0) = false := by simpa using s0
                have HN := Lib.hid (tLoop_old HX.out (by rw [HSKD.out]; exact HS1N.out) (by rw [HSKD.out]; exact s0) hE.out)
                clear s0
                go_wp2
                go_roundw
                case rel => exact ⟨k + 1, s', vw', vo', by omega, by go_num, HS4.out, HI'.out, HZ'.out, HW'.out, HN.out⟩
                case measure => simp [intOf]; omega
          · have h2b : (sm != ti) = true := by simpa using h2
            have HN := Lib.hid (tLoop_skip HX.out (.inr (by rw [HK'.out, HI2.out, hsm]; exact h2)) hE.out)
            clear h2
            go_wp2_with fail
            go_quiet (fail)
            go_wp2
            go_roundw
            case rel => exact ⟨k + 1, s', vw', vo', by omega, by go_num, HS.out.drewN _, HI'.out, HZ'.out, HW'.out, HN.out⟩
            case measure => simp [intOf]; omega
      · have hkb : decide ((k : Int) < n) = false := by simp; omega
        have HRES := Lib.hid (tLoop_end (k := k) (by rw [HRL.out]; omega) hE.out)
        have hwe := HW'.out
        have hwl : s'.way.length = s.way.length + 1 := by rw [hwe]; simp
        have hl1 : (s'.way.length : Int) - 1 = s.way.length := by omega
        obtain ⟨gw, capw, hv, hcw, _, _, _, _⟩ := S.row_form (i := 2) rfl (by omega)
        subst hv
        have hil2 : i < (ints s'.st).length := by rw [ints, List.length_map, hI'.len]; omega
        have c0 := S.blk_cell (i := 0) rfl i
        rw [List.getElem?_toArray, List.getElem?_eq_getElem hil2] at c0
        have c1 := S.blk_frozen (i := 0) rfl i
        have S1 := S.blk_set (i := 0) rfl i (.int .i64 2)
        have d0 := S1.blk_cell (i := 1) rfl 0
        have d1 := S1.blk_frozen (i := 1) rfl 0
        have S2 := S1.row_cut (i := 2) (m := s.way.length) rfl (by omega)
        have S3 := S2.blk_set (i := 1) rfl 0 (.slice (some ⟨gw, 0, none⟩) s.way.length capw)
        have HS3 : Hid (St W ((wr.setCell ⟨b.s, i, none⟩ (.int .i64 2)).setCell ⟨b.w, 0, none⟩ (.slice (some ⟨gw, 0, none⟩) s.way.length capw)) (TL b (.slice (some ⟨bm, om, none⟩) n cm) (.slice At n ct) ⟨s'.st.set i 2, s'.way.dropLast, s'.out⟩ (.slice (some ⟨gw, 0, none⟩) s.way.length capw) vo')) := by
          have hdl : s'.way.dropLast = s.way := by rw [hwe, List.dropLast_concat]
          have htk : (ints s'.way).take s.way.length = ints s.way := by rw [hwe]; simp [ints]
          show St _ _ _
          rw [htk] at S3
          rw [hdl]
          simpa [TL, ints, List.map_set] using S3
        have hsw : (s.way.length : Int) < capw := by omega
        have hwl0 : 0 < s'.way.length := by omega
        have hwl9 : s'.way.length ≤ 24 := by have := hI'.cnt; omega
        clear S S1 S2 S3 hwe hwl hI' hz' hE181 HIH
        go_wp2
        go_ret
        rw [HRES.out]
        exact ⟨_, _, rfl, HS3.out⟩
end Go.Proofs.YtlffgdmljioaoaaGreatDoor
/- Walks: tight. -/
namespace Go.Mem
open Go Go.RowKit
def setL : List Value → Nat → List Value → List Value
  | xs, _, [] => xs
  | xs, k, v :: vs => setL (xs.set k v) (k + 1) vs
theorem setL_at : ∀ (vs xs : List Value) (k j : Nat), k + vs.length ≤ xs.length → (setL xs k vs)[j]? = if j < k ∨ k + vs.length ≤ j then xs[j]? else vs[j - k]?
  | [], xs, k, j, _ => by rw [setL, if_pos (by simp; omega)]
  | v :: vs, xs, k, j, h => by
    simp only [List.length_cons] at h ⊢
    rw [setL, setL_at vs _ _ _ (by simp; omega)]
    by_cases h1 : j < k
    · rw [if_pos (.inl (by omega)), if_pos (.inl h1), List.getElem?_set_ne (by omega)]
    · by_cases h2 : j = k
      · subst h2
        rw [if_pos (.inl (by omega)), if_neg (by omega), List.getElem?_set_self (by omega), Nat.sub_self]; rfl
      · by_cases h3 : k + 1 + vs.length ≤ j
        · rw [if_pos (.inr h3), if_pos (.inr (by omega)), List.getElem?_set_ne (by omega)]
        · rw [if_neg (by omega), if_neg (by omega), show j - k = (j - (k + 1)) + 1 by omega]; rfl
theorem setL_all {vs xs : List Value} (h : vs.length = xs.length) : setL xs 0 vs = vs := by
  refine List.ext_getElem? fun j => ?_
  rw [setL_at _ _ _ _ (by omega)]
  by_cases hj : j < vs.length
  · rw [if_neg (by omega), Nat.sub_zero]
  · rw [if_pos (.inr (by omega)), List.getElem?_eq_none (by omega), List.getElem?_eq_none (by omega)]
theorem St.row_sets {W : World} {e : TypeId} {g cap n : Nat} : ∀ (vs xs : List Value) (k : Nat) (w : World) (L : List Asr) (i : Nat), St W w L → L[i]? = some (row e 1 (.slice (some ⟨g, 0, none⟩) n cap) n xs) →
    St W (w.setCells g k vs) (L.set i (row e 1 (.slice (some ⟨g, 0, none⟩) n cap) n (setL xs k vs)))
  | [], xs, k, w, L, i, h, hi => by
    rw [setL, World.setCells]
    have : L.set i (row e 1 (.slice (some ⟨g, 0, none⟩) n cap) n xs) = L := by
      refine List.ext_getElem? fun j => ?_
      by_cases e : i = j
      · subst e; rw [List.getElem?_set_self (List.getElem?_eq_some_iff.1 hi).1, hi]
      · rw [List.getElem?_set_ne e]
    rw [this]; exact h
  | v :: vs, xs, k, w, L, i, h, hi => by
    have h1 := h.row_set hi k v
    have hil := (List.getElem?_eq_some_iff.1 hi).1
    have h2 := St.row_sets vs (xs.set k v) (k + 1) _ _ i h1 (by rw [List.getElem?_set_self hil])
    rw [List.set_set] at h2
    exact h2
end Go.Mem
namespace Go.Sheet
theorem tOuter_new {m : IMat} {top : List Int} {k n : Nat} {s T : TS} (hk : k < n) (h0 : s.st.getD k 0 = 0) (h : tOuter m top (List.range' k (n - k)) s = T) :
    T = if (tWalk m top 24 k s).2 then (tWalk m top 24 k s).1 else tOuter m top (List.range' (k + 1) (n - (k + 1))) (tWalk m top 24 k s).1 := by
  rw [← h, show n - k = (n - (k + 1)) + 1 by omega, List.range'_succ, tOuter, if_pos h0]
theorem tOuter_old {m : IMat} {top : List Int} {k n : Nat} {s T : TS} (hk : k < n) (h0 : s.st.getD k 0 ≠ 0) (h : tOuter m top (List.range' k (n - k)) s = T) :
    tOuter m top (List.range' (k + 1) (n - (k + 1))) s = T := by
  rw [← h, show n - k = (n - (k + 1)) + 1 by omega, List.range'_succ, tOuter, if_neg h0]
theorem tOuter_end {m : IMat} {top : List Int} {k n : Nat} {s T : TS} (hk : n ≤ k) (h : tOuter m top (List.range' k (n - k)) s = T) : T = s := by
  rw [← h, show n - k = 0 by omega, List.range'_zero, tOuter]
end Go.Sheet
namespace Go.Proofs.YtlffgdmljioaoaaGreatDoor
open Go.RowKit Go.Mem Go.Sheet
theorem reverse_st {W w : World} {L : List Asr} {i n c : Nat} {A : Option Addr} {zs : List Int} (S : St W w L) (hi : L[i]? = some (row 3 1 (.slice A n c) n (ints zs))) :
    Calls Tryz.prog 104 #[.slice A n c] w fun e w' => e = .returned (.tuple #[]) ∧ St W w' (L.set i (row 3 1 (.slice A n c) n (ints zs.reverse))) := by
  have hl : zs.length = n := by have := (S.row_rd hi).len; simpa [ints] using this
  have hn := (S.row_rd hi).le
  rcases Nat.eq_zero_or_pos n with h0 | h0
  · subst h0
    obtain rfl := List.eq_nil_of_length_eq_zero hl
    refine (Tryz.slices_Reverse_int_empty A c w).mono ?_
    rintro e w' ⟨rfl, rfl⟩
    refine ⟨rfl, ?_⟩
    rw [List.reverse_nil, set_same hi]
    exact S
  · obtain ⟨g, cap, hv, hcap, _, _, hcell, hfz⟩ := S.row_form hi h0
    cases hv
    refine (Tryz.slices_Reverse_int_cells g 0 n c zs w (Nat.le_of_eq hl.symm) hn (fun j hj => ?_) (fun j _ => hfz _)).mono ?_
    · rw [Nat.zero_add, hcell j (by omega), ints, List.getElem?_map, List.getElem?_eq_getElem hj, List.getD_eq_getElem?_getD, List.getElem?_eq_getElem hj]; rfl
    · rintro e w' ⟨rfl, q, rfl⟩
      refine ⟨rfl, ?_⟩
      have h1 := St.row_sets ((zs.take n).reverse.map (Value.int .i64)) (ints zs) 0 _ L i (S.drewN q) hi
      rw [List.take_of_length_le (by omega), setL_all (by simp [ints])] at h1
      rw [List.take_of_length_le (by omega)]
      exact h1
set_option maxRecDepth 100000 in
set_option maxHeartbeats 4000000 in
theorem tight_any (W : World) (vm vt : Value) (m : IMat) (top : List Int) (n : Nat) (hm : RdRows W (· < W.heap.size) vm m) (ht : Rd W (· < W.heap.size) 1 vt n (ints top)) (hmn : SqOk n 100000000000 m) (htn : top.length = n) (hn : n ≤ 24)
    (htb : ∀ x ∈ top, -100000000000000 ≤ x ∧ x ≤ 100000000000000) :
    Calls Tryz.prog 49 #[vm, vt] W fun e w' => ∃ v', e = .returned v' ∧ Below W.heap.size W w' ∧ Rd w' (· < w'.heap.size) 1 v' (tightF m top).length (ints (tightF m top)) := by
  have HC := Lib.hid (tight1_any W ⟨W.heap.size, W.heap.size + 1, W.heap.size + 1 + 1, W.heap.size + 1 + 1 + 1, W.heap.size + 1 + 1 + 1 + 1, W.heap.size + 1 + 1 + 1 + 1 + 1⟩ vm vt m top n hm ht hmn htn hn htb)
  have HI := Lib.hid (tWalk_inv (m := m) (top := top) (fun r hr => by rw [hmn.len r hr]; omega) 24)
  have HMN := Lib.hid hmn.n_eq
  obtain ⟨vs0, h1, h2⟩ := hm
  rw [hmn.n_eq] at h1
  obtain ⟨Am, cm, rfl, _, _, _⟩ := h1.open_
  obtain ⟨At, ct, rfl, _, _, _⟩ := ht.open_
  clear h1 h2 ht hmn htn htb
  have hE181 := enters Tryz.func103 (by kernel_rfl) rfl
  unfold Enters at hE181
  go_enter Tryz.func49, Tryz.ntmps49
  go_wp2_with fail
  have S0 : St W ((((((W.alloc (.cells #[.slice Am n cm] 22)).alloc (.cells #[.slice At n ct] 23)).alloc (.cells (ints tight0.st).toArray 158)).alloc (.cells #[.slice none 0 0] 23)).alloc (.cells #[.slice none 0 0] 23)).alloc (.cells #[.func (.func 103) #[] (capT ⟨W.heap.size, W.heap.size + 1, W.heap.size + 1 + 1, W.heap.size + 1 + 1 + 1, W.heap.size + 1 + 1 + 1 + 1, W.heap.size + 1 + 1 + 1 + 1 + 1⟩)] 83))
      (TL ⟨W.heap.size, W.heap.size + 1, W.heap.size + 1 + 1, W.heap.size + 1 + 1 + 1, W.heap.size + 1 + 1 + 1 + 1, W.heap.size + 1 + 1 + 1 + 1 + 1⟩ (.slice Am n cm) (.slice At n ct) tight0 (.slice none 0 0) (.slice none 0 0)) := by
    have h := (((((((((St.refl W).blk_new #[.slice Am n cm] 22).blk_new #[.slice At n ct] 23).blk_new (ints tight0.st).toArray 158).blk_new #[.slice none 0 0] 23).blk_new #[.slice none 0 0] 23).blk_new #[.func (.func 103) #[] (capT ⟨W.heap.size, W.heap.size + 1, W.heap.size + 1 + 1, W.heap.size + 1 + 1 + 1, W.heap.size + 1 + 1 + 1 + 1, W.heap.size + 1 + 1 + 1 + 1 + 1⟩)] 83).row_nil 3 1).row_nil 3 1)
    simp only [World.size_alloc, List.nil_append, List.cons_append] at h
    exact h.perm ((show [0, 1, 2, 3, 4, 5, 6, 7].Perm [2, 3, 6, 4, 7, 0, 1, 5] by decide).map (fun i => [_, _, _, _, _, _, _, _].getD i emp))
  have HS0 := Lib.hid S0
  clear S0
  have HTF : Hid (tightF m top = (tOuter m top (List.range' 0 (n - 0)) tight0).out.reverse) := by
    show _ = _
    rw [tightF, HMN.out, Nat.sub_zero, List.range_eq_range']
  generalize hT0 : tOuter m top (List.range' 0 (n - 0)) tight0 = T0 at *
  have HT0 := Lib.hid hT0
  clear hT0
  go_loopw [13] (fun idx w' => ∃ (k : Nat) (s : TS) (vw vo : Value), k ≤ n ∧ idx = .int .i64 k ∧ St W w' (TL ⟨W.heap.size, W.heap.size + 1, W.heap.size + 1 + 1, W.heap.size + 1 + 1 + 1, W.heap.size + 1 + 1 + 1 + 1, W.heap.size + 1 + 1 + 1 + 1 + 1⟩ (.slice Am n cm) (.slice At n ct) s vw vo) ∧ TInv s ∧ Hid (tOuter m top (List.range' k (n - k)) s = T0)) (fun idx _ => n - (intOf idx).toNat)
  case atStart => exact ⟨0, tight0, _, _, Nat.zero_le _, rfl, HS0.out, tight0_inv, HT0.out⟩
  case round =>
    obtain ⟨k, s, vw, vo, hk, rfl, S, hI, hE⟩ := hrel
    clear HS0 HT0
    have HF : Hid (∀ (s' : TS) (vw' vo' : Value) (w' : World), St W w' (TL ⟨W.heap.size, W.heap.size + 1, W.heap.size + 1 + 1, W.heap.size + 1 + 1 + 1, W.heap.size + 1 + 1 + 1 + 1, W.heap.size + 1 + 1 + 1 + 1 + 1⟩ (.slice Am n cm) (.slice At n ct) s' vw' vo') → True) := fun _ _ _ _ _ => trivial
    clear HF
    by_cases hlt : k < n
    · have hk24 : k < 24 := by omega
      have hkl : k < s.st.length := by rw [hI.len]; exact hk24
      obtain ⟨sk, hsk⟩ : ∃ y, s.st[k]? = some y := ⟨_, List.getElem?_eq_getElem hkl⟩
      have hskD : s.st.getD k 0 = sk := by rw [List.getD_eq_getElem?_getD, hsk, Option.getD_some]
      have HSKD := Lib.hid hskD
      have c0 := S.blk_cell (i := 0) rfl k
      rw [List.getElem?_toArray, ints, List.getElem?_map, hsk] at c0
      simp only [Option.map_some] at c0
      have c1 := S.blk_cell (i := 7) rfl 0
      have HII := Lib.hid hI
      have HS := Lib.hid S
      clear hkl hsk hskD hI S
      by_cases s0 : sk = 0
      · have s0b : (sk == 0) = true := by simpa using s0
        have h0' : s.st.getD k 0 = 0 := by rw [HSKD.out]; exact s0
        have hz : zeros s.st ≤ 24 := by have := HII.out.cnt; omega
        have HNW := Lib.hid (tOuter_new hlt h0' hE.out)
        have HLV := Lib.hid (HI.out k s hk24 HII.out hz h0')
        have HCALL := Lib.hid (HC.out 24 k s vw vo wr hlt HII.out hz h0' HS.out)
        generalize tWalk m top 24 k s = Q at *
        clear s0 h0' hz
        go_wp2_with fail
        refine HCALL.out.mono ?_
        rintro e w5 ⟨vw5, vo5, rfl, S5⟩
        have HS5 := Lib.hid S5
        clear S5 HCALL
        cases hq : Q.2
        · have HN2 := HNW.out
          rw [hq, if_neg (by decide)] at HN2
          have HN := Lib.hid HN2.symm
          have HL2 := Lib.hid (HLV.out hq)
          clear HN2 HNW HLV hq
          go_wp2
          go_roundw
          case rel => exact ⟨k + 1, Q.1, vw5, vo5, by omega, by go_num, HS5.out, HL2.out.1, HN.out⟩
          case measure => simp [intOf]; omega
        · have HN2 := HNW.out
          rw [hq, if_pos rfl] at HN2
          have HRT : Hid (T0 = Q.1) := HN2
          clear HN2 HNW HLV hq
          have c3 := HS5.out.blk_cell (i := 3) rfl 0
          obtain ⟨Ao, co, rfl, _, _, _⟩ := (HS5.out.row_rd (i := 4) rfl).open_
          go_wp2_with fail
          refine (reverse_st HS5.out (i := 4) rfl).mono ?_
          rintro e w6 ⟨rfl, S6⟩
          have c4 := S6.blk_cell (i := 3) rfl 0
          have HRD := Lib.hid (S6.row_rd (i := 4) rfl)
          have HBF := Lib.hid S6.bel
          clear S6 c3
          go_wp2
          go_ret
          rw [HTF.out, HRT.out]
          exact ⟨_, rfl, HBF.out, by rw [List.length_reverse]; exact HRD.out.mono fun b hb _ => hb⟩
      · have s0b : (sk == 0) = false := by simpa using s0
        have HN := Lib.hid (tOuter_old hlt (by rw [HSKD.out]; exact s0) hE.out)
        clear s0
        go_wp2
        go_roundw
        case rel => exact ⟨k + 1, s, vw, vo, by omega, by go_num, HS.out, HII.out, HN.out⟩
        case measure => simp [intOf]; omega
    · have hkb : decide ((k : Int) < n) = false := by simp; omega
      have HRT := Lib.hid (tOuter_end (by omega) hE.out)
      have HS5 := Lib.hid S
      have c3 := S.blk_cell (i := 3) rfl 0
      obtain ⟨Ao, co, rfl, _, _, _⟩ := (S.row_rd (i := 4) rfl).open_
      clear S hI
      go_wp2_with fail
      refine (reverse_st HS5.out (i := 4) rfl).mono ?_
      rintro e w6 ⟨rfl, S6⟩
      have c4 := S6.blk_cell (i := 3) rfl 0
      have HRD := Lib.hid (S6.row_rd (i := 4) rfl)
      have HBF := Lib.hid S6.bel
      clear S6 c3
      go_wp2
      go_ret
      rw [HTF.out, HRT.out]
      exact ⟨_, rfl, HBF.out, by rw [List.length_reverse]; exact HRD.out.mono fun b hb _ => hb⟩
end Go.Proofs.YtlffgdmljioaoaaGreatDoor
/- Walks: small integers of package num. -/
namespace Go.Proofs.YtlffgdmljioaoaaGreatDoor
open Go.RowKit Go.Mem Go.Sheet
@[reducible] def intV (s : Int) : Value := .agg #[.int .i64 s, .slice none 0 0]
@[reducible] def fracV (p q : Int) : Value := .agg #[.int .i64 p, .slice none 0 0, .int .i64 q, .slice none 0 0]
theorem numOf_any (W : World) (n : Int) : Calls Tryz.prog 102 #[.int .i64 n] W fun e w' => e = .returned (intV n) ∧ Below W.heap.size W w' := by
  go_enter Tryz.func102, Tryz.ntmps102
  go_wp2
  refine bodyPost_ret (v := intV n) ?_ rfl ⟨rfl, (Below.refl _ _).alloc (Nat.le_refl _) _⟩
  simp [results, Tryz.results102, go_sem]
theorem sign_any (W : World) (s : Int) : Calls Tryz.prog 140 #[intV s] W fun e w' => e = .returned (.int .i64 (max (-1) (min 1 s))) ∧ Below W.heap.size W w' := by
  go_enter Tryz.func140, Tryz.ntmps140
  have hb := (Below.refl W.heap.size W).alloc (Nat.le_refl _) (.cells #[.int .i64 s, .slice none 0 0] 153)
  rcases Int.lt_trichotomy s 0 with h | h | h
  · have H : Hid (max (-1) (min 1 s) = -1) := by show _ = _; omega
    have h1 : s < 1 := by omega
    go_wp2
    go_ret
    rw [H.out]
    exact ⟨rfl, hb⟩
  · subst h
    go_wp2
    go_ret
    exact ⟨rfl, hb⟩
  · have H : Hid (max (-1) (min 1 s) = 1) := by show _ = _; omega
    go_wp2
    go_ret
    rw [H.out]
    exact ⟨rfl, hb⟩
theorem ret_u64 {a b : Int} (h : a = b) : Ending.returned (.int .u64 a) = .returned (.int .u64 b) := by rw [h]
theorem size_any (W : World) (s : Int) (h0 : -9223372036854775807 ≤ s) (h1 : s ≤ 9223372036854775807) : Calls Tryz.prog 175 #[.int .i64 s] W fun e w' => e = .returned (.int .u64 (s.natAbs : Int)) ∧ W = w' := by
  go_enter Tryz.func175, Tryz.ntmps175
  by_cases h : s < 0
  · have H : Hid ((s.natAbs : Int) = -s) := by show _ = _; omega
    go_wp2
    go_ret
    exact ⟨ret_u64 H.out.symm, rfl⟩
  · have H : Hid ((s.natAbs : Int) = s) := by show _ = _; omega
    go_wp2
    go_ret
    exact ⟨ret_u64 H.out.symm, rfl⟩
theorem neqU_nil (w : World) : (binOp .neq 151 (.slice none 0 0) (.slice none 0 0)).run Tryz.prog w = .ok (.bool false) w := Go.run_neq_slice_nil_any w _ _ none 0 0 0 0 Tryz.underlying151
theorem eqlU_nil (w : World) : (binOp .eql 151 (.slice none 0 0) (.slice none 0 0)).run Tryz.prog w = .ok (.bool true) w := Lib.run_eql_slice_nil w _ _ none 0 0 0 0 Tryz.underlying151
/-- what parts hands back -/
def RetParts (W : World) (s : Int) (e : Ending) (w' : World) : Prop :=
  Below W.heap.size W w' ∧ ((s = 0 ∧ e = .returned (.tuple #[.bool false, .slice none 0 0])) ∨
    (s ≠ 0 ∧ ∃ g, e = .returned (.tuple #[.bool (decide (s < 0)), .slice (some ⟨g, 0, none⟩) 1 1]) ∧ w'.cell? ⟨g, 0, none⟩ = some (.int .u64 (s.natAbs : Int))))
set_option maxRecDepth 100000 in
set_option maxHeartbeats 400000 in
theorem parts_any (W : World) (s : Int) (h0 : -9223372036854775807 ≤ s) (h1 : s ≤ 9223372036854775807) : Calls Tryz.prog 161 #[intV s] W (RetParts W s) := by
  have hn := neqU_nil
  have hb := (Below.refl W.heap.size W).alloc (Nat.le_refl _) (.cells #[.int .i64 s, .slice none 0 0] 153)
  go_enter Tryz.func161, Tryz.ntmps161
  by_cases h : s = 0
  · subst h
    go_wp2
    go_ret2
    exact ⟨hb, .inl ⟨rfl, rfl⟩⟩
  · have hsb : (s == 0) = false := by simpa using h
    have HNE := Lib.hid h
    have HSZ := Lib.hid (fun w => size_any w s h0 h1)
    have d0 : (W.alloc (.cells #[.int .i64 s, .slice none 0 0] 153)).cell? ⟨W.heap.size, 0, none⟩ = some (.int .i64 s) := by simp
    generalize hsz : (s.natAbs : Int) = sz at *
    have HSZE := Lib.hid hsz
    clear hsz
    clear h
    go_wp2_with fail
    go_region_held3 (fun w' => w'.cell? ⟨W.heap.size, 0, none⟩ = some (.int .i64 s)) (first | simp) (first | (go_at_call 175; refine (HSZ.out _).mono ?_; rintro e w' ⟨rfl, rfl⟩))
    all_goals
      go_wp2
      go_ret2
      exact ⟨(hb.alloc hb.size _).drew, .inr ⟨HNE.out, _, rfl, by rw [HSZE.out]; simp⟩⟩
theorem bitLen_le64 {x : Nat} (h : x < 18446744073709551616) : Lib.bitLen x ≤ 64 := Lib.bitLenAux_le 64 x 64 (by simpa using h)
/-- what Bits hands back -/
def RetBits (W : World) (e : Ending) (w' : World) : Prop := Below W.heap.size W w' ∧ ∃ n : Int, 0 ≤ n ∧ n ≤ 64 ∧ e = .returned (.int .i64 n)
set_option maxRecDepth 100000 in
set_option maxHeartbeats 400000 in
theorem bits_any (W : World) (s : Int) (h0 : -9223372036854775807 ≤ s) (h1 : s ≤ 9223372036854775807) : Calls Tryz.prog 167 #[intV s] W (RetBits W) := by
  have HP := Lib.hid (fun w => parts_any w s h0 h1)
  have hb := (Below.refl W.heap.size W).alloc (Nat.le_refl _) (.cells #[.int .i64 s, .slice none 0 0] 153)
  have HSB : Hid (s.natAbs < 18446744073709551616) := by show _ < _; omega
  generalize hsn : s.natAbs = sn at *
  clear h0 h1
  go_enter Tryz.func167, Tryz.ntmps167
  go_wp2_with fail
  refine (HP.out _).mono ?_
  rintro e w2 ⟨hb2, ⟨_, rfl⟩ | ⟨_, g, rfl, hc⟩⟩
  · clear hsn
    go_wp2
    go_ret
    exact ⟨hb.trans (hb2.mono hb.size), 0, by omega, by omega, rfl⟩
  · rw [hsn] at hc
    clear hsn
    have HBL := Lib.hid (bitLen_le64 HSB.out)
    have HL := Lib.hid (fun w => Tryz.bits_Len64 sn w (by omega) (by have := HSB.out; omega))
    rw [Int.toNat_natCast] at HL
    generalize Lib.bitLen sn = bl at *
    have hbl := HBL.out
    go_wp2_with (go_at_call 179; refine (HL.out _).mono ?_; rintro e w' ⟨rfl, rfl⟩)
    go_ret
    exact ⟨hb.trans (hb2.mono hb.size), bl, by omega, by omega, rfl⟩
set_option maxRecDepth 100000 in
set_option maxHeartbeats 400000 in
theorem long_any (W : World) (s : Int) (h0 : -9223372036854775807 ≤ s) (h1 : s ≤ 9223372036854775807) : Calls Tryz.prog 158 #[intV s] W fun e w' => e = .returned (.bool false) ∧ Below W.heap.size W w' := by
  have HP := Lib.hid (fun w => bits_any w s h0 h1)
  have hb := (Below.refl W.heap.size W).alloc (Nat.le_refl _) (.cells #[.int .i64 s, .slice none 0 0] 153)
  go_enter Tryz.func158, Tryz.ntmps158
  go_wp2_with fail
  refine (HP.out _).mono ?_
  rintro e w2 ⟨hb2, n, n0, n1, rfl⟩
  have hn : decide ((1800 : Int) < n) = false := by simp; omega
  go_wp2
  go_ret
  exact ⟨rfl, hb.trans (hb2.mono hb.size)⟩
set_option maxRecDepth 100000 in
set_option maxHeartbeats 400000 in
theorem large_any (W : World) (p q : Int) (h0 : -9223372036854775807 ≤ p) (h1 : p ≤ 9223372036854775807) (h2 : -9223372036854775807 ≤ q) (h3 : q ≤ 9223372036854775807) : Calls Tryz.prog 138 #[fracV p q] W fun e w' => e = .returned (.bool false) ∧ Below W.heap.size W w' := by
  have HP := Lib.hid (fun w => long_any w p h0 h1)
  have HQ := Lib.hid (fun w => long_any w q h2 h3)
  have hb := (Below.refl W.heap.size W).alloc (Nat.le_refl _) (.cells #[.int .i64 p, .slice none 0 0, .int .i64 q, .slice none 0 0] 155)
  have d2 : (W.alloc (.cells #[.int .i64 p, .slice none 0 0, .int .i64 q, .slice none 0 0] 155)).cell? ⟨W.heap.size, 2, none⟩ = some (.int .i64 q) := by simp
  have d3 : (W.alloc (.cells #[.int .i64 p, .slice none 0 0, .int .i64 q, .slice none 0 0] 155)).cell? ⟨W.heap.size, 3, none⟩ = some (.slice none 0 0) := by simp
  go_enter Tryz.func138, Tryz.ntmps138
  go_wp2_with fail
  generalize hW1 : W.alloc (.cells #[.int .i64 p, .slice none 0 0, .int .i64 q, .slice none 0 0] 155) = W1 at *
  have hg : W.heap.size < W1.heap.size := World.block_lt_of_cell? W1 _ d2
  clear hW1
  refine (HP.out _).mono ?_
  rintro e w2 ⟨rfl, hb2⟩
  have e2 := (hb2.cell (p := ⟨W.heap.size, 2, none⟩) hg).trans d2
  have e3 := (hb2.cell (p := ⟨W.heap.size, 3, none⟩) hg).trans d3
  go_wp2_with fail
  refine (HQ.out _).mono ?_
  rintro e w3 ⟨rfl, hb3⟩
  go_wp2
  go_ret
  exact ⟨rfl, hb.trans ((hb2.trans (hb3.mono hb2.size)).mono hb.size)⟩
set_option maxRecDepth 100000 in
set_option maxHeartbeats 400000 in
theorem isWhole_any (W : World) (p q : Int) : Calls Tryz.prog 159 #[fracV p q] W fun e w' => e = .returned (.bool (q == 1)) ∧ Below W.heap.size W w' := by
  have hn := eqlU_nil
  have hb := (Below.refl W.heap.size W).alloc (Nat.le_refl _) (.cells #[.int .i64 p, .slice none 0 0, .int .i64 q, .slice none 0 0] 155)
  go_enter Tryz.func159, Tryz.ntmps159
  go_wp2
  go_ret
  exact ⟨rfl, hb⟩
/-- Itoa, as far as it is known -/
def ItoaAt (s : Int) (t : ByteArray) (W : World) : Prop := ∀ w, Below W.heap.size W w → Calls Tryz.prog 169 #[.int .i64 s] w fun e w' => e = .returned (.string t) ∧ Below w.heap.size w w'
set_option maxRecDepth 100000 in
set_option maxHeartbeats 400000 in
theorem string_any (W : World) (s : Int) (t : ByteArray) (h : ItoaAt s t W) : Calls Tryz.prog 160 #[intV s] W fun e w' => e = .returned (.string t) ∧ Below W.heap.size W w' := by
  have hn := eqlU_nil
  have hb := (Below.refl W.heap.size W).alloc (Nat.le_refl _) (.cells #[.int .i64 s, .slice none 0 0] 153)
  have HT := Lib.hid (h _ hb)
  clear h
  go_enter Tryz.func160, Tryz.ntmps160
  go_wp2_with fail
  refine HT.out.mono ?_
  rintro e w2 ⟨rfl, hb2⟩
  go_wp2
  go_ret
  exact ⟨rfl, hb.trans (hb2.mono hb.size)⟩
set_option maxRecDepth 100000 in
set_option maxHeartbeats 400000 in
theorem text1_any (W : World) (p : Int) (t : ByteArray) (h : ItoaAt p t W) : Calls Tryz.prog 139 #[fracV p 1] W fun e w' => e = .returned (.string t) ∧ Below W.heap.size W w' := by
  have hb := (Below.refl W.heap.size W).alloc (Nat.le_refl _) (.cells #[.int .i64 p, .slice none 0 0, .int .i64 1, .slice none 0 0] 155)
  have d0 : (W.alloc (.cells #[.int .i64 p, .slice none 0 0, .int .i64 1, .slice none 0 0] 155)).cell? ⟨W.heap.size, 0, none⟩ = some (.int .i64 p) := by simp
  have d1 : (W.alloc (.cells #[.int .i64 p, .slice none 0 0, .int .i64 1, .slice none 0 0] 155)).cell? ⟨W.heap.size, 1, none⟩ = some (.slice none 0 0) := by simp
  have HT := Lib.hid h
  clear h
  go_enter Tryz.func139, Tryz.ntmps139
  go_wp2_with fail
  generalize hW1 : W.alloc (.cells #[.int .i64 p, .slice none 0 0, .int .i64 1, .slice none 0 0] 155) = W1 at *
  have hg : W.heap.size < W1.heap.size := World.block_lt_of_cell? W1 _ d0
  clear hW1
  refine (isWhole_any _ p 1).mono ?_
  rintro e w2 ⟨rfl, hb2⟩
  have e0 := (hb2.cell (p := ⟨W.heap.size, 0, none⟩) hg).trans d0
  have e1 := (hb2.cell (p := ⟨W.heap.size, 1, none⟩) hg).trans d1
  have hb3 := hb.trans (hb2.mono hb.size)
  have HS := Lib.hid (string_any w2 p t (fun w hw => HT.out w (hb3.trans (hw.mono hb3.size))))
  go_wp2_with fail
  refine HS.out.mono ?_
  rintro e w3 ⟨rfl, hb4⟩
  go_wp2
  go_ret
  exact ⟨rfl, hb3.trans (hb4.mono hb3.size)⟩
set_option maxRecDepth 100000 in
set_option maxHeartbeats 400000 in
theorem make1_any (W : World) (p : Int) : Calls Tryz.prog 101 #[intV p, intV 1] W fun e w' => e = .returned (fracV p 1) ∧ Below W.heap.size W w' := by
  have hn := eqlU_nil
  have S0 : St W (((W.alloc (.cells #[.int .i64 p, .slice none 0 0] 153)).alloc (.cells #[.int .i64 1, .slice none 0 0] 153)).alloc (.cells #[.int .i64 0, .slice none 0 0, .int .i64 0, .slice none 0 0] 155))
      [blk W.heap.size 153 #[.int .i64 p, .slice none 0 0], blk (W.heap.size + 1) 153 #[.int .i64 1, .slice none 0 0], blk (W.heap.size + 1 + 1) 155 #[.int .i64 0, .slice none 0 0, .int .i64 0, .slice none 0 0]] := by
    have := (((St.refl W).blk_new #[.int .i64 p, .slice none 0 0] 153).blk_new #[.int .i64 1, .slice none 0 0] 153).blk_new #[.int .i64 0, .slice none 0 0, .int .i64 0, .slice none 0 0] 155
    simpa using this
  go_enter Tryz.func101, Tryz.ntmps101
  go_wp2_with fail
  refine (sign_any _ 1).mono ?_
  rintro e w2 ⟨rfl, hb2⟩
  have S2 := S0.ext hb2
  have e0 := S2.blk_cell (i := 0) rfl 0
  have e1 := S2.blk_cell (i := 0) rfl 1
  have e2 := S2.blk_cell (i := 1) rfl 0
  have e3 := S2.blk_cell (i := 1) rfl 1
  have f0 := S2.blk_cell (i := 2) rfl 0
  have f1 := S2.blk_cell (i := 2) rfl 1
  have f2 := S2.blk_cell (i := 2) rfl 2
  have f3 := S2.blk_cell (i := 2) rfl 3
  have z0 := S2.blk_frozen (i := 2) rfl 0
  have z1 := S2.blk_frozen (i := 2) rfl 1
  have z2 := S2.blk_frozen (i := 2) rfl 2
  have z3 := S2.blk_frozen (i := 2) rfl 3
  have hsg : max (-1 : Int) (min 1 1) = 1 := by decide
  have HS2 := Lib.hid S2
  clear S0 S2 hb2
  have S3 := (((HS2.out.blk_set (i := 2) rfl 0 (.int .i64 p)).blk_set (i := 2) rfl 1 (.slice none 0 0)).blk_set (i := 2) rfl 2 (.int .i64 1)).blk_set (i := 2) rfl 3 (.slice none 0 0)
  have g0 := S3.blk_cell (i := 2) rfl 0
  have g1 := S3.blk_cell (i := 2) rfl 1
  have g2 := S3.blk_cell (i := 2) rfl 2
  have g3 := S3.blk_cell (i := 2) rfl 3
  have HS3 := Lib.hid S3
  clear S3
  go_wp2
  refine bodyPost_ret (v := fracV p 1) ?_ rfl ⟨rfl, HS3.out.bel⟩
  generalize (((w2.setCell ⟨W.heap.size + 1 + 1, 0, none⟩ (.int .i64 p)).setCell ⟨W.heap.size + 1 + 1, 1, none⟩ (.slice none 0 0)).setCell ⟨W.heap.size + 1 + 1, 2, none⟩ (.int .i64 1)).setCell ⟨W.heap.size + 1 + 1, 3, none⟩ (.slice none 0 0) = w9 at *
  simp [results, Tryz.results101, go_sem, g0, g1, g2, g3]
set_option maxRecDepth 100000 in
set_option maxHeartbeats 400000 in
theorem cresult1_any (W : World) (p : Int) (t : ByteArray) (h0 : -9223372036854775807 ≤ p) (h1 : p ≤ 9223372036854775807) (h : ItoaAt p t W) : Calls Tryz.prog 100 #[fracV p 1] W fun e w' => e = .returned (.tuple #[.string t, .int .i64 0]) ∧ Below W.heap.size W w' := by
  have hb := (Below.refl W.heap.size W).alloc (Nat.le_refl _) (.cells #[.int .i64 p, .slice none 0 0, .int .i64 1, .slice none 0 0] 155)
  have S0 := (St.refl W).blk_new #[.int .i64 p, .slice none 0 0, .int .i64 1, .slice none 0 0] 155
  have HT := Lib.hid h
  have HLG := Lib.hid (fun w => large_any w p 1 h0 h1 (by omega) (by omega))
  clear h
  go_enter Tryz.func100, Tryz.ntmps100
  go_wp2_with fail
  refine (HLG.out _).mono ?_
  rintro e w2 ⟨rfl, hb2⟩
  have S2 := S0.ext hb2
  have e0 := S2.blk_cell (i := 0) rfl 0
  have e1 := S2.blk_cell (i := 0) rfl 1
  have e2 := S2.blk_cell (i := 0) rfl 2
  have e3 := S2.blk_cell (i := 0) rfl 3
  have hb3 := S2.bel
  have HX := Lib.hid (text1_any w2 p t (fun w hw => HT.out w (hb3.trans (hw.mono hb3.size))))
  clear S0 S2 hb2
  go_wp2_with fail
  refine HX.out.mono ?_
  rintro e w3 ⟨rfl, hb4⟩
  go_wp2
  go_ret2
  exact ⟨rfl, hb3.trans (hb4.mono hb3.size)⟩
set_option maxRecDepth 100000 in
set_option maxHeartbeats 400000 in
theorem of1_any (W : World) (p : Int) (t : ByteArray) (h0 : -9223372036854775807 ≤ p) (h1 : p ≤ 9223372036854775807) (h : ItoaAt p t W) : Calls Tryz.prog 48 #[.int .i64 p, .int .i64 1] W fun e w' => e = .returned (.tuple #[.string t, .int .i64 0]) ∧ Below W.heap.size W w' := by
  have HT := Lib.hid h
  clear h
  go_enter Tryz.func48, Tryz.ntmps48
  go_wp2_with fail
  refine (numOf_any _ p).mono ?_
  rintro e w2 ⟨rfl, hb2⟩
  go_wp2_with fail
  refine (numOf_any _ 1).mono ?_
  rintro e w3 ⟨rfl, hb3⟩
  go_wp2_with fail
  refine (make1_any _ p).mono ?_
  rintro e w4 ⟨rfl, hb4⟩
  have hb := hb2.trans ((hb3.trans (hb4.mono hb3.size)).mono hb2.size)
  have HX := Lib.hid (cresult1_any w4 p t h0 h1 (fun w hw => HT.out w (hb.trans (hw.mono hb.size))))
  go_wp2_with fail
  refine HX.out.mono ?_
  rintro e w5 ⟨rfl, hb5⟩
  go_wp2
  go_ret2
  exact ⟨rfl, hb.trans (hb5.mono hb.size)⟩
theorem itoa_small (W : World) (i : Nat) (hi : i < 100) : ItoaAt i ⟨(Lib.decDigits i).toArray⟩ W := fun w _ =>
  (Tryz.strconv_Itoa_small i hi w).mono fun _ _ ⟨h1, h2⟩ => ⟨h1, h2 ▸ Below.refl _ _⟩
end Go.Proofs.YtlffgdmljioaoaaGreatDoor
