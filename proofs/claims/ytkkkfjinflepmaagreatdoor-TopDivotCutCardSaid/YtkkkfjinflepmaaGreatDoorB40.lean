/- Part 40 of the walks of the golf union's program: DP8. -/
import Derived.Test.YtkkkfjinflepmaaGreatDoorB39
set_option linter.unusedVariables false
set_option linter.unusedSimpArgs false
set_option linter.unusedSectionVars false
set_option linter.constructorNameAsVariable false
/- Chapter 7: prizes. -/
namespace Go.Mem
open Go.RowKit
theorem Sep.perm6 {L L' : List Asr} (h : L.Perm L') : ∀ {w : World} {F : Nat → Prop}, Sep L w F → Sep L' w F := by
  induction h with
  | nil => intros; trivial
  | cons A _ ih => rintro w F ⟨F1, h1, h2, h3⟩; exact ⟨F1, h1, h2, ih h3⟩
  | swap A B L =>
    rintro w F ⟨F1, h1, h2, F2, g1, g2, g3⟩
    exact ⟨F2, fun b hb => (g1 b hb).1, g2, F1, fun b hb => ⟨h1 b hb, fun h => (g1 b h).2 hb⟩, h2, g3.mono fun b ⟨⟨a, c⟩, d⟩ => ⟨⟨a, d⟩, c⟩⟩
  | trans _ _ ih1 ih2 => intro w F h; exact ih2 (ih1 h)
theorem St.perm6 {W w : World} {L L' : List Asr} (h : St W w L) (hp : L.Perm L') : St W w L' := ⟨h.1, Sep.perm6 hp h.2⟩
end Go.Mem
namespace Go.Proofs.YtkkkfjinflepmaaGreatDoor
open Go.RowKit Go.Mem Go.Sheet Go.Adj Go.Maps
/-- the rows of the groups -/
def grpR (rk : Nat → Nat) (f : Nat → Value) (k : Nat) (rs : List Nat) : List Asr := rs.map fun r => row 3 1 (f r) (memR rk r k).length (natV (memR rk r k))
def upV (f : Nat → Value) (r : Nat) (v : Value) (j : Nat) : Value := if j = r then v else f j
theorem natV_snoc (l : List Nat) (i : Nat) : natV (l ++ [i]) = natV l ++ [.int .i64 (i : Int)] := by unfold natV; rw [List.map_append]; rfl
theorem natV_len (l : List Nat) : (natV l).length = l.length := by unfold natV; rw [List.length_map]
theorem grpR_old {rk : Nat → Nat} {f : Nat → Value} {k p r : Nat} {rs : List Nat} {v : Value} (hn : rs.Nodup) (hp : rs[p]? = some r) (hr : rk k = r) :
    (grpR rk f k rs).set p (row 3 1 v ((memR rk r k).length + 1) (natV (memR rk r k) ++ [.int .i64 (k : Int)])) = grpR rk (upV f r v) (k + 1) rs := by
  unfold grpR
  have hpl := (List.getElem?_eq_some_iff.1 hp).1
  apply List.ext_getElem?
  intro j
  rw [List.getElem?_set]
  split
  · rename_i e
    subst e
    rw [if_pos (by simpa using hpl), List.getElem?_map, hp]
    show _ = some (row 3 1 (upV f r v r) (memR rk r (k + 1)).length (natV (memR rk r (k + 1))))
    rw [memR_snoc, if_pos hr, natV_snoc, List.length_append]
    unfold upV
    rw [if_pos rfl]; rfl
  · rename_i e
    rw [List.getElem?_map, List.getElem?_map]
    cases hj : rs[j]? with
    | none => rfl
    | some r' =>
      have hne : r' ≠ r := fun e2 => by
        subst e2
        have h1 := (List.getElem?_eq_some_iff.1 hj).1
        have e3 := (List.getElem?_eq_some_iff.1 hp).2
        have e4 := (List.getElem?_eq_some_iff.1 hj).2
        exact e ((List.getElem_inj hn).1 (e3.trans e4.symm))
      show some (row 3 1 (f r') _ _) = some (row 3 1 (upV f r v r') (memR rk r' (k + 1)).length (natV (memR rk r' (k + 1))))
      rw [memR_snoc, if_neg (by omega), List.append_nil]
      unfold upV
      rw [if_neg hne]
theorem grpR_new {rk : Nat → Nat} {f : Nat → Value} {k r : Nat} {rs : List Nat} {v : Value} (hn : r ∉ rs) (hr : rk k = r) (hm : memR rk r k = []) :
    grpR rk f k rs ++ [row 3 1 v 1 [.int .i64 (k : Int)]] = grpR rk (upV f r v) (k + 1) (rs ++ [r]) := by
  unfold grpR
  rw [List.map_append]
  congr 1
  · refine List.map_congr_left fun r' hr' => ?_
    have hne : r' ≠ r := fun e => hn (e ▸ hr')
    show row 3 1 (f r') _ _ = row 3 1 (upV f r v r') (memR rk r' (k + 1)).length (natV (memR rk r' (k + 1)))
    rw [memR_snoc, if_neg (by omega), List.append_nil]
    unfold upV
    rw [if_neg hne]
  · show _ = [row 3 1 (upV f r v r) (memR rk r (k + 1)).length (natV (memR rk r (k + 1)))]
    rw [memR_snoc, if_pos hr, hm]
    unfold upV
    rw [if_pos rfl]; rfl
theorem eltIm : Elt Tryz.prog 43 3 (.int .i64 0) 1 8 := eltI
theorem set_two {α : Type} (a b : α) (l : List α) (p : Nat) (x : α) : (a :: b :: l).set (p + 2) x = a :: b :: l.set p x := rfl
theorem grown_set5 (w : World) (g j : Nat) (u : Value) : w.grownBy (w.setCell ⟨g, j, none⟩ u) (some g) :=
  ⟨rfl, rfl, rfl, by simp [World.setCell], fun k _ hk => Below.heap_setCell _ _ _ _ (fun e => hk (by subst e; rfl))⟩
/-- a block that is an iterator's -/
def itA (r : Nat) : Asr where
  holds _ F := F r
  loc := fun h _ _ => h
  mono := fun h hh => hh _ h
set_option maxRecDepth 100000 in
set_option maxHeartbeats 4000000 in
theorem prizes_ok (W : World) (v vg : Value) (m n : Nat) (ls : List LnI) (g : Nat → Int) (hm : m ≤ 100) (hn : n ≤ 200) (h : RdLn W (· < W.heap.size) v m ls) (hg : GoodL ls) (hp : Rd W (· < W.heap.size) 1 vg n (intsI (gl g n))) (hgp : GoodPu g n) :
    Calls Tryz.prog 40 #[v, vg] W fun e w' => ∃ v', e = .returned v' ∧ St W w' [row 3 1 v' m (intsI (gl (prizeF (rkN ls) m g n) m))] := by
  have hlen := h.count
  obtain ⟨A, c, rfl, _, _, _⟩ := h.1.open_
  obtain ⟨Ag, cg, rfl, _, _, _⟩ := hp.open_
  have HRK : Hid (∀ w, Below W.heap.size W w → Calls Tryz.prog 65 #[.slice A m c, .func (.func 90) #[] #[]] w fun e w' => ∃ v', e = .returned v' ∧ St w w' [row 3 1 v' m (intsI (gl (rkL ls) m))]) := fun w hw =>
    rank_ok w _ m ls _ (enters Tryz.func90 (by kernel_rfl) rfl) (by omega) (h.later hw) hg (fun w x => prizes1_ok w x)
  have hrl : gl (rkL ls) m = gl (fun i => (rkN ls i : Int)) m := by
    have : rkL ls = fun i => (rkN ls i : Int) := funext fun i => rkL_N ls i
    rw [this]
  rw [hrl] at HRK
  have HRB : Hid (∀ i, 1 ≤ rkN ls i ∧ rkN ls i ≤ m + 1) := fun i => by
    have := bfL_le ls (lnAt ls i).s
    unfold rkN; omega
  have HP := Lib.hid hp
  have HGP := Lib.hid hgp
  generalize rkN ls = rk at *
  have HZ := Lib.hid (zeros_gl m)
  have hmm := @run_makeMap Tryz.prog
  clear h hg hlen hrl hp hgp
  have HS0 := Lib.hid (St.refl W)
  go_enter Tryz.func40, Tryz.ntmps40
  go_wp2_with (at_make; refine wpList_make_st eltI rfl _ _ rfl (n := m) rfl rfl HS0.out (by omega) (by omega) ?_; intro wc go S1 _ _; rw [HZ.out] at S1; simp only [List.nil_append] at S1; have S2 := S1.mapH_new Tryz.prog 3; simp only [List.cons_append, List.nil_append] at S2; have HGO : Hid (m = 0 ∨ go < wc.heap.size) := (Nat.eq_zero_or_pos m).imp id (fun h0 => World.block_lt_of_cell? _ _ (row_int5 S1 (i := 0) rfl h0).1); have HS2 := Lib.hid S2; clear S1 S2 HS0)
  obtain ⟨bm, hbm⟩ : ∃ b, b = wc.heap.size := ⟨_, rfl⟩
  rw [← hbm] at HS2 HGO ⊢
  clear hbm hmm
  generalize wc.alloc (.map #[] 0) = wd at *
  go_at_call 65
  refine (HRK.out _ HS2.out.bel).mono ?_
  rintro e w1 ⟨vr, rfl, Sr⟩
  have S3 := HS2.out.call Sr
  simp only [List.cons_append, List.nil_append] at S3
  obtain ⟨Ar, cr, rfl, _, _, _⟩ := (S3.row_rd (i := 2) rfl).open_
  have HS3 : Hid (St W w1 (row 3 1 (.slice (some ⟨go, 0, none⟩) m m) m (intsI (gl (fun _ => 0) m)) :: mapH Tryz.prog 3 bm 0 (fun _ => .slice none 0 0) (fun _ => False) :: row 3 1 (.slice Ar m cr) m (intsI (gl (fun i => (rk i : Int)) m)) :: grpR rk (fun _ => .slice none 0 0) 0 [])) := S3
  clear S3 Sr HS2 HRK
  go_wp2_with fail
  go_loopw [23] (fun i w' => ∃ (k : Nat) (f : Nat → Value) (S0 : Nat → Prop) (rs : List Nat), k ≤ m ∧ i = .int .i64 k ∧ Hid (rs.Nodup) ∧ Hid (∀ r, r ∈ rs ↔ ∃ j, j < k ∧ rk j = r) ∧ Hid (∀ r, S0 r ↔ r ∈ rs) ∧ Hid (∀ r, r ∉ rs → f r = .slice none 0 0) ∧
    St W w' (row 3 1 (.slice (some ⟨go, 0, none⟩) m m) m (intsI (gl (fun _ => 0) m)) :: mapH Tryz.prog 3 bm k f S0 :: row 3 1 (.slice Ar m cr) m (intsI (gl (fun i => (rk i : Int)) m)) :: grpR rk f k rs)) (fun i _ => m - (intOf i).toNat)
  case atStart => exact ⟨0, _, _, [], Nat.zero_le _, rfl, List.nodup_nil, Lib.hid (fun r => ⟨fun h => absurd h List.not_mem_nil, fun ⟨j, hj, _⟩ => absurd hj (Nat.not_lt_zero j)⟩), Lib.hid (fun r => ⟨fun h => h.elim, fun h => absurd h List.not_mem_nil⟩), Lib.hid (fun _ _ => rfl), HS3.out⟩
  case round =>
    obtain ⟨k, f, S0, rs, hk, rfl, hnd, hrs, hs0, hnil, S⟩ := hrel
    clear HS3
    by_cases hlt : k < m
    · obtain ⟨b, o, x, hA, hx, c0⟩ := Rd.int (q := .i64) ((S.row_rd (i := 2) rfl)) hlt
      subst hA
      rw [gl_at _ hlt] at hx
      cases hx
      have hrb := HRB.out k
      obtain ⟨r, hr⟩ : ∃ r, r = rk k := ⟨_, rfl⟩
      rw [← hr] at c0 hrb
      have hr0 : decide ((0 : Int) < (r : Int)) = true := decide_eq_true (by omega)
      have hr0' : decide (0 < r) = true := decide_eq_true (by omega)
      have HR := Lib.hid hr
      have hml := memR_len rk r k
      have hz : ∀ w, (zeroValue 43).run Tryz.prog w = .ok (.slice none 0 0) w := fun w => by kernel_rfl
      clear hr
      by_cases hin : r ∈ rs
      · obtain ⟨p, hp⟩ := List.mem_iff_getElem?.1 hin
        have HIX : Hid ((row 3 1 (.slice (some ⟨go, 0, none⟩) m m) m (intsI (gl (fun _ => 0) m)) :: mapH Tryz.prog 3 bm k f S0 :: row 3 1 (.slice (some ⟨b, o, none⟩) m cr) m (intsI (gl (fun i => (rk i : Int)) m)) :: grpR rk f k rs)[p + 3]? = some (row 3 1 (f r) (memR rk r k).length (natV (memR rk r k)))) := by
          show (grpR rk f k rs)[p]? = _
          unfold grpR
          rw [List.getElem?_map, hp]; rfl
        have HST := Lib.hid (fun v' : Value => grpR_old (f := f) (v := v') hnd.out hp HR.out.symm)
        have HS := Lib.hid S
        have HS4 := Lib.hid (S.alloc (.cells #[.int .i64 (k : Int)] 3))
        clear S hp
        go_wp2_with (first
          | (at_lookup; refine wpList_lookup_h rfl _ _ 155 rfl 3 43 Tryz.underlying3 Tryz.underlying155 (hz _) HS.out (i := 1) rfl rfl r rfl (by omega) ?_)
          | (at_builtin; refine wpList_append_st eltIm rfl _ _ rfl rfl HS4.out HIX.out rfl (rd_one (by simp)) (one_int _ _) (by omega) (by omega) ?_; intro v' w' S' _; have S5 : St W w' (_ :: _ :: _ :: (grpR rk f k rs).set p _) := S'; rw [HST.out v'] at S5; have HS5 := Lib.hid S5; clear S' S5)
          | (at_mapUpdate; refine wpList_mapUpdate_h rfl _ _ _ 155 rfl 3 43 Tryz.underlying3 Tryz.underlying155 HS5.out (i := 1) rfl rfl (by omega) r rfl (by omega) v' rfl ?_; intro w6 S6; have HS6 := Lib.hid S6; clear S6))
        have S7 := HS6.out
        simp only [List.set_cons_succ, List.set_cons_zero] at S7
        have HS7 := Lib.hid S7
        clear S7 HS6
        go_roundw
        case rel =>
          refine ⟨k + 1, upV f r v', fun j => S0 j ∨ j = r, rs, by omega, by go_num, hnd, Lib.hid (fun r0 => ?_), Lib.hid (fun r0 => ?_), Lib.hid (fun r0 h0 => ?_), HS7.out⟩
          · rw [hrs.out r0]
            refine ⟨fun ⟨j, hj, e⟩ => ⟨j, by omega, e⟩, fun ⟨j, hj, e⟩ => ?_⟩
            rcases Nat.lt_or_ge j k with h1 | h1
            · exact ⟨j, h1, e⟩
            · obtain rfl : j = k := by omega
              rw [← HR.out] at e
              rw [← e]
              exact (hrs.out r).1 hin
          · show (S0 r0 ∨ r0 = r) ↔ r0 ∈ rs
            rw [hs0.out r0]
            refine ⟨fun h => h.elim id (fun e => by rw [e]; exact hin), fun h => .inl h⟩
          · show (if r0 = r then v' else f r0) = _
            rw [if_neg (fun e : r0 = r => h0 (by rw [e]; exact hin))]
            exact hnil.out r0 h0
        case measure => simp [intOf]; omega
      · have hfr := hnil.out r hin
        have hme : memR rk r k = [] := by
          rw [List.eq_nil_iff_forall_not_mem]
          intro i hi
          obtain ⟨h1, h2⟩ := memR_mem.1 hi
          exact hin ((hrs.out r).2 ⟨i, h1, h2⟩)
        have HST := Lib.hid (fun v' : Value => grpR_new (f := f) (v := v') hin HR.out.symm hme)
        have HS := Lib.hid S
        have S4 := S.row_nil 3 1
        simp only [List.cons_append] at S4
        have HS4 := Lib.hid (S4.alloc (.cells #[.int .i64 (k : Int)] 3))
        have HGL : Hid ((grpR rk f k rs).length = rs.length) := by show _ = _; unfold grpR; rw [List.length_map]
        have HIX : Hid ((row 3 1 (.slice (some ⟨go, 0, none⟩) m m) m (intsI (gl (fun _ => 0) m)) :: mapH Tryz.prog 3 bm k f S0 :: row 3 1 (.slice (some ⟨b, o, none⟩) m cr) m (intsI (gl (fun i => (rk i : Int)) m)) :: (grpR rk f k rs ++ [row 3 1 (.slice none 0 0) 0 []]))[rs.length + 3]? = some (row 3 1 (.slice none 0 0) 0 [])) := by
          show (grpR rk f k rs ++ [_])[rs.length]? = _
          rw [← HGL.out, List.getElem?_append_right (Nat.le_refl _), Nat.sub_self]; rfl
        have HSE : Hid (∀ v' : Value, (grpR rk f k rs ++ [row 3 1 (.slice none 0 0) 0 []]).set rs.length (row 3 1 v' (0 + 1) ([] ++ [.int .i64 (k : Int)])) = grpR rk (upV f r v') (k + 1) (rs ++ [r])) := fun v' => by
          rw [← HST.out v', ← HGL.out, List.set_append_right _ _ (Nat.le_refl _), Nat.sub_self]; rfl
        clear S S4 hme
        go_wp2_with (first
          | (at_lookup; refine wpList_lookup_h rfl _ _ 155 rfl 3 43 Tryz.underlying3 Tryz.underlying155 (hz _) HS.out (i := 1) rfl rfl r rfl (by omega) ?_; rw [hfr])
          | (at_builtin; refine wpList_append_st eltIm rfl _ _ rfl rfl HS4.out HIX.out rfl (rd_one (by simp)) (one_int _ _) (by omega) (by omega) ?_; intro v' w' S' _; have S5 : St W w' (_ :: _ :: _ :: (grpR rk f k rs ++ [row 3 1 (.slice none 0 0) 0 []]).set rs.length (row 3 1 v' (0 + 1) ([] ++ [.int .i64 (k : Int)]))) := S'; rw [HSE.out v'] at S5; have HS5 := Lib.hid S5; clear S' S5)
          | (at_mapUpdate; refine wpList_mapUpdate_h rfl _ _ _ 155 rfl 3 43 Tryz.underlying3 Tryz.underlying155 HS5.out (i := 1) rfl rfl (by omega) r rfl (by omega) v' rfl ?_; intro w6 S6; have HS6 := Lib.hid S6; clear S6))
        have S7 := HS6.out
        simp only [List.set_cons_succ, List.set_cons_zero] at S7
        have HS7 := Lib.hid S7
        clear S7 HS6
        go_roundw
        case rel =>
          refine ⟨k + 1, upV f r v', fun j => S0 j ∨ j = r, rs ++ [r], by omega, by go_num, ?_, Lib.hid (fun r0 => ?_), Lib.hid (fun r0 => ?_), Lib.hid (fun r0 h0 => ?_), HS7.out⟩
          · show (rs ++ [r]).Nodup
            rw [List.nodup_append]
            exact ⟨hnd.out, List.nodup_cons.2 ⟨List.not_mem_nil, List.nodup_nil⟩, fun a ha b hb e => hin (by rw [List.mem_singleton] at hb; rw [← hb, ← e]; exact ha)⟩
          · rw [List.mem_append, List.mem_singleton, hrs.out r0]
            refine ⟨fun h => ?_, fun ⟨j, hj, e⟩ => ?_⟩
            · rcases h with ⟨j, hj, e⟩ | e
              · exact ⟨j, by omega, e⟩
              · exact ⟨k, by omega, by rw [e]; exact HR.out.symm⟩
            · rcases Nat.lt_or_ge j k with h1 | h1
              · exact .inl ⟨j, h1, e⟩
              · obtain rfl : j = k := by omega
                exact .inr (by rw [← e]; exact HR.out.symm)
          · show (S0 r0 ∨ r0 = r) ↔ _
            rw [List.mem_append, List.mem_singleton, hs0.out r0]
          · rw [List.mem_append, List.mem_singleton, not_or] at h0
            show (if r0 = r then v' else f r0) = _
            rw [if_neg h0.2]
            exact hnil.out r0 h0.1
        case measure => simp [intOf]; omega
    · obtain rfl : m = k := by omega
      obtain ⟨F, hF, ⟨D1, hown, hM, hat, hks, hsk⟩, hFb⟩ := S.get (i := 1) rfl
      have HAT := Lib.hid hat
      have HKEY : Hid (∀ kl, has D1 kl = true → ∃ r : Nat, kl = .int .i64 r ∧ r ∈ rs) := fun kl h => by
        obtain ⟨r, h1, h2⟩ := hks kl h
        exact ⟨r, h1, (hs0.out r).1 h2⟩
      have HALL : Hid (∀ i, i < m → has D1 (.int .i64 (rk i)) = true) := fun i hi => hsk _ ((hs0.out _).2 ((hrs.out _).2 ⟨i, hi, rfl⟩))
      have HOWN := Lib.hid hown
      have hbl := hown.lt
      have HS := Lib.hid S
      clear S hown hM hat hks hsk hF hFb
      go_wp2_with (at_range; refine wpList_range_own _ rfl _ 155 rfl 3 43 (int_keyed Tryz.underlying3) Tryz.underlying155 _ bm m D1 rfl HOWN.out ?_; intro w2 hrg hg2 hs2)
      go_frame
      have S2 : St W w2 ((row 3 1 (.slice (some ⟨go, 0, none⟩) m m) m (intsI (gl (fun _ => 0) m)) :: mapH Tryz.prog 3 bm m f S0 :: row 3 1 (.slice Ar m cr) m (intsI (gl (fun i => (rk i : Int)) m)) :: grpR rk f m rs) ++ [itA wr.heap.size]) :=
        HS.out.push (A := itA wr.heap.size) (F := fun b => b = wr.heap.size) ((Below.refl _ _).grown hg2 (Nat.le_refl _) (fun k e => by cases e)) rfl (fun b hb => by subst hb; omega)
      obtain ⟨r1, hr1⟩ : ∃ r, r = wr.heap.size := ⟨_, rfl⟩
      rw [← hr1] at hrg S2 hbl ⊢
      have S3 := S2.sub (L' := row 3 1 (.slice (some ⟨go, 0, none⟩) m m) m (intsI (gl (fun _ => 0) m)) :: (grpR rk f m rs ++ [itA r1])) (.cons_cons _ (.cons _ (.cons _ (List.Sublist.refl _))))
      have S4 : St W w2 (row 3 1 (.slice (some ⟨go, 0, none⟩) m m) m (intsI (gl (fun _ => 0) m)) :: itA r1 :: grpR rk f m rs) := S3.perm6 (.cons _ List.perm_append_comm)
      have HIN : Hid (∃ (left : Lit → Bool) (cnt : Nat), w2.ranges Tryz.prog 3 heldR bm r1 m D1 left cnt ∧ Hid (∀ kl, left kl = true → has D1 kl = true) ∧ St W w2 (row 3 1 (.slice (some ⟨go, 0, none⟩) m m) m (intsI (gl (fun i => if left (.int .i64 (rk i)) then 0 else prizeF rk m g n i) m)) :: itA r1 :: grpR rk f m rs)) := by
        refine ⟨_, _, hrg, Lib.hid (fun kl h => h), ?_⟩
        have e : gl (fun i => if has D1 (.int .i64 (rk i)) then 0 else prizeF rk m g n i) m = gl (fun _ => 0) m := by
          unfold gl
          exact List.map_congr_left fun i hi => by rw [if_pos (HALL.out i (List.mem_range.1 hi))]
        rw [e]; exact S4
      have HGO2 : Hid (m = 0 ∨ (go ≠ bm ∧ go ≠ r1)) := HGO.out.imp id (fun h => ⟨by omega, by omega⟩)
      clear hrg hg2 hs2 S2 S3 S4 HS HOWN hr1 hbl
      go_loopw [9] (fun _ w' => ∃ (left : Lit → Bool) (cnt : Nat), w'.ranges Tryz.prog 3 heldR bm r1 m D1 left cnt ∧ Hid (∀ kl, left kl = true → has D1 kl = true) ∧ St W w' (row 3 1 (.slice (some ⟨go, 0, none⟩) m m) m (intsI (gl (fun i => if left (.int .i64 (rk i)) then 0 else prizeF rk m g n i) m)) :: itA r1 :: grpR rk f m rs)) (fun _ w' => w'.rangeLeft bm r1)
      case atStart => exact HIN.out
      case round =>
        obtain ⟨left, cnt, hrg, hlf, S⟩ := hrel
        clear HIN
        have HS := Lib.hid S
        have HRG := Lib.hid hrg
        clear S
        go_wp2_with (first
          | (at_next; refine wpList_next_ranges _ rfl _ rfl 3 (int_keyed Tryz.underlying3) heldR (Value.int .i64) (id : Value → Value) (fun key kl hkey => by obtain ⟨x, rfl, _⟩ := Maps.keyOf_int_inv Tryz.underlying3 hkey; exact ⟨x, rfl⟩) (fun v y _ => ⟨v, rfl⟩) bm r1 m D1 left cnt rfl HRG.out ?_ ?_)
          | go_in)
        · intro _ hall
          have e : gl (fun i => if left (.int .i64 (rk i)) then 0 else prizeF rk m g n i) m = gl (prizeF rk m g n) m := by
            unfold gl
            exact List.map_congr_left fun i _ => by rw [hall]; rfl
          have S1 := HS.out
          rw [e] at S1
          have HS1 := Lib.hid S1
          clear S1 e hall HS HRG hrg
          go_wp2_with fail
          go_ret
          exact ⟨_, rfl, HS1.out.sub (L' := [_]) (.cons_cons _ (List.nil_sublist _))⟩
        · intro x cv kl y1 y2 w3 cnt3 hkey hlx hRv hat3 hrg3 hlt3 hg3 hs3 hen3
          obtain ⟨x', ex, rfl, hwx⟩ := Maps.keyOf_int_inv Tryz.underlying3 hkey
          cases ex
          obtain ⟨r, hr, hrm⟩ := HKEY.out _ (hlf.out _ hlx)
          obtain rfl : x = (r : Int) := by simpa using hr
          have hcv : cv = f r := by
            have h1 := hat3 (.held (.slice none 0 0))
            rw [HAT.out r] at h1
            have h2 : (DataW.held cv, ([] : List MemPlace)) = (y1, y2) := Option.some.inj hRv
            simp only [Prod.mk.injEq] at h2
            rw [← h2.1] at h1
            simpa using h1.symm
          subst hcv
          obtain ⟨F1, hF1, hA1, h31⟩ := HS.out.upd (i := 1) rfl
          have S3 := h31 w3 (itA r1) F1 (some r1) hA1 hg3 (fun g e => by cases e; exact hA1) (fun b hb => .inl hb)
          simp only [List.set_cons_succ, List.set_cons_zero] at S3
          obtain ⟨p, hp⟩ := List.mem_iff_getElem?.1 hrm
          obtain ⟨i0, hi0, hir⟩ := (hrs.out r).1 hrm
          obtain ⟨M, hMd⟩ : ∃ M, M = memR rk r m := ⟨_, rfl⟩
          have hi0M : i0 ∈ M := by rw [hMd]; exact memR_mem.2 ⟨hi0, hir⟩
          obtain ⟨q, hq⟩ : ∃ q, q = M.length := ⟨_, rfl⟩
          have hq1 : 1 ≤ q := by rw [hq]; exact List.length_pos_of_mem hi0M
          have hqm : q ≤ m := by rw [hq, hMd]; exact memR_len rk r m
          have HIX : Hid (∀ O : Asr, (O :: itA r1 :: grpR rk f m rs)[p + 2]? = some (row 3 1 (f r) q (natV M))) := fun O => by
            show (grpR rk f m rs)[p]? = _
            unfold grpR
            rw [List.getElem?_map, hp, hq, hMd]; rfl
          obtain ⟨gb, cq, hfr⟩ := row_some S3 (HIX.out _) hq1
          have HIX : Hid (∀ O : Asr, (O :: itA r1 :: grpR rk f m rs)[p + 2]? = some (row 3 1 (.slice (some ⟨gb, 0, none⟩) q cq) q (natV M))) := fun O => by rw [← hfr]; exact HIX.out O
          rw [hfr] at hen3 ⊢
          have hrb := HRB.out i0
          rw [hir] at hrb
          have HMJ : Hid (∀ j, j < q → ∃ i, M[j]? = some i ∧ i < m ∧ rk i = r ∧ prizeF rk m g n i = shareF q (sumG g n r q) j) := fun j hj => by
            obtain ⟨i, hi⟩ : ∃ i, M[j]? = some i := ⟨M[j]'(by omega), List.getElem?_eq_getElem _⟩
            have h1 : (memR rk r m)[j]? = some i := by rw [← hMd]; exact hi
            obtain ⟨a1, a2, a3⟩ := memR_at h1
            refine ⟨i, hi, a2, a3, ?_⟩
            unfold prizeF
            rw [a3, a1, hq, hMd]
          have HMM : Hid (∀ i, i < m → (i ∈ M ↔ rk i = r)) := fun i hi => by rw [hMd, memR_mem]; exact ⟨fun h => h.2, fun h => ⟨hi, h⟩⟩
          have HQM := Lib.hid hq
          have HS3 := Lib.hid S3
          have HRG3 := Lib.hid hrg3
          have HLT := Lib.hid hlt3
          have HLF3 : Hid (∀ kl, (left kl && !kl.sameKey (.int .i64 (r : Int))) = true → has D1 kl = true) := fun kl h => hlf.out kl (by simp only [Bool.and_eq_true] at h; exact h.1)
          clear hrg hlf HS hF1 hA1 h31 S3 hp hi0 hir hi0M hMd hq hfr hwx hkey hlx hat3 hrg3 hlt3 hg3 hs3 hr hRv hrm
          obtain ⟨xm, hxm⟩ : ∃ xm, xm = r - 1 := ⟨_, rfl⟩
          have t1 : (r : Int) - 1 = (xm : Int) := by omega
          have HXM := Lib.hid hxm
          obtain ⟨SG, hSG⟩ : ∃ SG, SG = sumG g n r := ⟨_, rfl⟩
          have HSB : Hid (∀ j, 0 ≤ SG j ∧ SG j ≤ j * 999999999) := fun j => by rw [hSG]; exact sumG_bd HGP.out r j
          have HSS : Hid (∀ j, SG (j + 1) = SG j + (if xm + j < n then g (xm + j) else 0)) := fun j => by rw [hSG, hxm]; rfl
          have hS0 : SG 0 = 0 := by rw [hSG]; rfl
          rw [← hSG] at HMJ
          clear hSG hxm
          go_wp2_with fail
          go_loopw [48, 11] (fun i s w' => ∃ j : Nat, j ≤ q ∧ i = .int .i64 j ∧ s = .int .i64 (SG j) ∧ w' = w3) (fun i _ _ => q - (intOf i).toNat)
          case atStart => exact ⟨0, Nat.zero_le _, rfl, by rw [hS0], rfl⟩
          case round =>
            obtain ⟨j, hj, rfl, rfl, rfl⟩ := hrel
            by_cases hltj : j < q
            · have hb := HSB.out j
              have hss := HSS.out j
              obtain ⟨z, hz⟩ : ∃ z : Int, (xm : Int) + (j : Int) = z := ⟨_, rfl⟩
              by_cases hzn : xm + j < n
              · rw [if_pos hzn] at hss
                have hgb := HGP.out.bd _ hzn
                obtain ⟨b', o', y, hA', hy, c1⟩ := Rd.int (q := .i64) (HP.out.later HS3.out.bel) hzn
                rw [gl_at g hzn] at hy
                cases hy
                have z1 : decide (z < (n : Int)) = true := decide_eq_true (by omega)
                have z2 : decide (z < 0) = false := decide_eq_false (by omega)
                have z3 : decide ((n : Int) ≤ z) = false := decide_eq_false (by omega)
                have z4 : 0 ≤ z := by omega
                have z5 : z < (n : Int) := by omega
                have z6 : z.toNat = xm + j := by omega
                have HSS1 := Lib.hid hss
                generalize g (xm + j) = gx at *
                generalize SG j = sj at *
                have hw : IntKind.i64.wrap (sj + gx) = sj + gx := IntWalk.i64_in _ (by omega)
                clear hss hzn
                subst hA'
                go_wp2_with fail
                go_roundw
                case rel => exact ⟨j + 1, by omega, by go_num, by rw [HSS1.out], by first | rfl | trivial⟩
                case measure => simp [intOf]; omega
              · rw [if_neg hzn, Int.add_zero] at hss
                have z1 : decide (z < (n : Int)) = false := decide_eq_false (by omega)
                have HSS1 := Lib.hid hss
                generalize SG j = sj at *
                clear hss hzn
                go_wp2_with fail
                go_roundw
                case rel => exact ⟨j + 1, by omega, by go_num, by rw [HSS1.out], by first | rfl | trivial⟩
                case measure => simp [intOf]; omega
            · obtain rfl : q = j := by omega
              have hb := HSB.out q
              obtain ⟨SM, hSM⟩ : ∃ SM, SM = SG q := ⟨_, rfl⟩
              rw [← hSM] at hb HMJ ⊢
              obtain ⟨Q, hQ⟩ : ∃ Q, Q = SM.tdiv q := ⟨_, rfl⟩
              obtain ⟨Rm, hRm⟩ : ∃ Rm, Rm = SM.tmod q := ⟨_, rfl⟩
              have hq0 : 0 ≤ Q ∧ Q ≤ SM := by
                rw [hQ, Int.tdiv_eq_ediv_of_nonneg hb.1]
                exact ⟨Int.ediv_nonneg hb.1 (by omega), Int.ediv_le_self _ hb.1⟩
              have hr0 : 0 ≤ Rm ∧ Rm < q := by
                rw [hRm, Int.tmod_eq_emod_of_nonneg hb.1]
                exact ⟨Int.emod_nonneg _ (by omega), Int.emod_lt_of_pos _ (by omega)⟩
              have HSH : Hid (∀ j, shareF q SM j = Q + (if (j : Int) < Rm then 1 else 0)) := fun j => by unfold shareF; rw [← hQ, ← hRm]
              have w1 : IntKind.i64.wrap (SM.tdiv (q : Int)) = Q := by rw [← hQ]; exact IntWalk.i64_in _ (by omega)
              have w2 : IntKind.i64.wrap (SM.tmod (q : Int)) = Rm := by rw [← hRm]; exact IntWalk.i64_in _ (by omega)
              have w3' : SM.tdiv (q : Int) = Q := hQ.symm
              have w4' : SM.tmod (q : Int) = Rm := hRm.symm
              have w5 : IntKind.i64.wrap (Q + 1) = Q + 1 := IntWalk.i64_in _ (by omega)
              have tk : ((q : Int) == 0) = false := by simp; omega
              have tk' : (q == 0) = false := by simp; omega
              obtain ⟨PF, hPF⟩ : ∃ PF, PF = prizeF rk m g n := ⟨_, rfl⟩
              obtain ⟨PV, hPV⟩ : ∃ PV : Nat → Int, PV = fun i => if left (.int .i64 (rk i)) then 0 else PF i := ⟨_, rfl⟩
              rw [← hPF] at HMJ
              have HS4 : Hid (St W wr (row 3 1 (.slice (some ⟨go, 0, none⟩) m m) m (intsI (gl (outM PV PF M 0) m)) :: itA r1 :: grpR rk f m rs)) := by
                have e : outM PV PF M 0 = fun i => if left (.int .i64 (rk i)) then 0 else prizeF rk m g n i := by
                  rw [hPV, hPF]; funext i; simp [outM]
                rw [e]; exact HS3.out
              have HPF := Lib.hid hPF
              have HPV := Lib.hid hPV
              clear hSM hQ hRm hPF hPV hS0 HSS HSB HS3
              go_wp2_with fail
              go_loopw [68] (fun i w' => ∃ j : Nat, j ≤ q ∧ i = .int .i64 j ∧ w'.ranges Tryz.prog 3 heldR bm r1 m D1 (fun z => left z && !z.sameKey (.int .i64 (r : Int))) cnt3 ∧ St W w' (row 3 1 (.slice (some ⟨go, 0, none⟩) m m) m (intsI (gl (outM PV PF M j) m)) :: itA r1 :: grpR rk f m rs)) (fun i _ => q - (intOf i).toNat)
              case atStart => exact ⟨0, Nat.zero_le _, rfl, HRG3.out, HS4.out⟩
              case round =>
                obtain ⟨j, hj, rfl, hrg4, S⟩ := hrel
                clear HS4
                by_cases hltj : j < q
                · obtain ⟨i, hi, him, hir, hfin⟩ := HMJ.out j hltj
                  obtain ⟨b', o', y, hA', _, hy, c1⟩ := ((S.row_rd (HIX.out _)).at_ hltj)
                  cases hA'
                  unfold natV at hy
                  rw [List.getElem?_map, hi] at hy
                  cases hy
                  rw [Nat.zero_add] at c1
                  obtain ⟨c2, f2⟩ := row_int5 S (i := 0) rfl him
                  have hos := outM_step (prev := PV) (fin := PF) hi
                  rw [hfin, HSH.out] at hos
                  have S5 := S.row_set (i := 0) rfl i (.int .i64 Q)
                  simp only [List.set_cons_zero] at S5
                  rw [gl_upd] at S5
                  obtain ⟨g1, g2⟩ : go ≠ bm ∧ go ≠ r1 := HGO2.out.resolve_left (by omega)
                  have hrg5 := hrg4.kept (grown_set5 _ go i (.int .i64 Q)) (by simpa using fun e => g1 e.symm) (by simpa using fun e => g2 e.symm)
                  have p1 : decide ((m : Int) ≤ (i : Int)) = false := decide_eq_false (by omega)
                  have p2 : decide (m ≤ i) = false := decide_eq_false (by omega)
                  by_cases hjr : (j : Int) < Rm
                  · have s1 : decide ((j : Int) < Rm) = true := decide_eq_true hjr
                    rw [if_pos hjr] at hos
                    obtain ⟨c3, f3⟩ := row_int5 S5 (i := 0) rfl him
                    rw [show updF (outM PV PF M j) i Q i = Q from if_pos rfl] at c3
                    have S6 := S5.row_set (i := 0) rfl i (.int .i64 (Q + 1))
                    simp only [List.set_cons_zero] at S6
                    rw [gl_upd, upd_upd, hos] at S6
                    have hrg6 := hrg5.kept (grown_set5 _ go i (.int .i64 (Q + 1))) (by simpa using fun e => g1 e.symm) (by simpa using fun e => g2 e.symm)
                    have HS6 := Lib.hid S6
                    have HRG6 := Lib.hid hrg6
                    clear S S5 S6 hrg4 hrg5 hrg6 hos hfin hi hir hjr
                    go_wp2_with fail
                    go_roundw
                    case rel => exact ⟨j + 1, by omega, by go_num, HRG6.out, HS6.out⟩
                    case measure => simp [intOf]; omega
                  · have s1 : decide ((j : Int) < Rm) = false := decide_eq_false hjr
                    rw [if_neg hjr, Int.add_zero] at hos
                    rw [hos] at S5
                    have HS6 := Lib.hid S5
                    have HRG6 := Lib.hid hrg5
                    clear S S5 hrg4 hrg5 hos hfin hi hir hjr
                    go_wp2_with fail
                    go_roundw
                    case rel => exact ⟨j + 1, by omega, by go_num, HRG6.out, HS6.out⟩
                    case measure => simp [intOf]; omega
                · obtain rfl : q = j := by omega
                  have e : gl (outM PV PF M q) m = gl (fun i => if (left (.int .i64 (rk i)) && !(Lit.int .i64 (rk i)).sameKey (.int .i64 (r : Int))) then 0 else prizeF rk m g n i) m := by
                    unfold gl
                    refine List.map_congr_left fun i hi => ?_
                    have him := List.mem_range.1 hi
                    unfold outM
                    rw [List.take_of_length_le (by rw [← HQM.out]; exact Nat.le_refl _), HPV.out, HPF.out]
                    by_cases hir : rk i = r
                    · rw [if_pos ((HMM.out i him).2 hir), hir]
                      simp [Lit.sameKey]
                    · rw [if_neg (fun h => hir ((HMM.out i him).1 h))]
                      have : (Lit.int .i64 (rk i : Int)).sameKey (.int .i64 (r : Int)) = false := by simp [Lit.sameKey]; omega
                      rw [this]; simp
                  rw [e] at S
                  have HS6 := Lib.hid S
                  have HRG6 := Lib.hid hrg4
                  clear S hrg4 e
                  go_wp2_with fail
                  go_roundw
                  case rel => exact ⟨_, cnt3, HRG6.out, HLF3, HS6.out⟩
                  case measure => rw [HRG6.out.left_eq, HRG.out.left_eq]; exact HLT.out
end Go.Proofs.YtkkkfjinflepmaaGreatDoor
