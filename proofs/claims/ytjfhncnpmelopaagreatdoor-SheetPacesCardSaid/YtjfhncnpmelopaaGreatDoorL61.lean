/- Walk of the reference's Times. (printed by wip/gen_times.py) -/
import Derived.Test.YtjfhncnpmelopaaGreatDoorB11
import Derived.Test.YtjfhncnpmelopaaGreatDoorB14
import Derived.Test.YtjfhncnpmelopaaGreatDoorB12
import Derived.Test.YtjfhncnpmelopaaGreatDoorB04
import Derived.RegionTactic
set_option linter.unusedVariables false
set_option linter.unusedSimpArgs false
set_option linter.unusedSectionVars false
set_option linter.constructorNameAsVariable false
namespace Go.Mem
open Go Go.RowKit
theorem Sep.two {L : List Asr} : ∀ {w : World} {F : Nat → Prop} {i j : Nat} {A B : Asr}, Sep L w F → L[i]? = some A → L[j]? = some B → i < j → ∃ F1 F2, A.holds w F1 ∧ B.holds w F2 ∧ ∀ b, F1 b → ¬ F2 b := by
  induction L with
  | nil => intro w F i j A B _ h; simp at h
  | cons C L ih =>
    rintro w F i j A B ⟨F0, h1, h2, h3⟩ hi hj hij
    obtain ⟨j, rfl⟩ : ∃ j', j = j' + 1 := ⟨j - 1, by omega⟩
    simp only [List.getElem?_cons_succ] at hj
    cases i with
    | zero =>
      simp only [List.getElem?_cons_zero, Option.some.injEq] at hi
      subst hi
      obtain ⟨F2, g1, g2, _⟩ := Sep.upd h3 hj
      exact ⟨F0, F2, h2, g2, fun b hb hb2 => (g1 b hb2).2 hb⟩
    | succ i =>
      simp only [List.getElem?_cons_succ] at hi
      exact ih h3 hi hj (by omega)
theorem St.row_ne {W w : World} {L : List Asr} {i j g g' n n' c c' s s' : Nat} {e e' : TypeId} {xs xs' : List Value} (h : St W w L) (hi : L[i]? = some (row e s (.slice (some ⟨g, 0, none⟩) n c) n xs)) (hj : L[j]? = some (row e' s' (.slice (some ⟨g', 0, none⟩) n' c') n' xs')) (hij : i < j) : g ≠ g' := by
  obtain ⟨F1, F2, h1, h2, h3⟩ := Sep.two h.2 hi hj hij
  rintro rfl
  exact h3 g (h1.2 g rfl) (h2.2 g rfl)
theorem St.blk_ne {W w : World} {L : List Asr} {i j g g' n' c' s' : Nat} {t : TypeId} {cs : Array Value} {e' : TypeId} {xs' : List Value} (h : St W w L) (hi : L[i]? = some (blk g t cs)) (hj : L[j]? = some (row e' s' (.slice (some ⟨g', 0, none⟩) n' c') n' xs')) (hij : i < j) : g ≠ g' := by
  obtain ⟨F1, F2, h1, h2, h3⟩ := Sep.two h.2 hi hj hij
  rintro rfl
  exact h3 g h1.2 (h2.2 g rfl)
theorem St.old_ne {W w : World} {L : List Asr} {j b g' n' c' s' : Nat} {e' : TypeId} {xs' : List Value} (h : St W w L) (hj : L[j]? = some (row e' s' (.slice (some ⟨g', 0, none⟩) n' c') n' xs')) (hb : b < W.heap.size) : b ≠ g' := by
  obtain ⟨F, h1, h2⟩ := h.get hj
  have := (h1 g' (h2.2 g' rfl)).1
  omega
theorem put_comm {a : Act} {d d' : Nat} {u u' : Value} (h : d ≠ d') : (a.put (some d) u).put (some d') u' = (a.put (some d') u').put (some d) u := by
  simp only [Act.put]
  rw [Array.setIfInBounds_comm _ _ h]
end Go.Mem
namespace Go.Sheet
/-- a list filled up with zeros -/
def pad (n : Nat) (l : List Int) : List Int := l ++ List.replicate (n - l.length) 0
theorem pad_nil (n : Nat) : pad n [] = List.replicate n 0 := by simp [pad]
theorem pad_full {n : Nat} {l : List Int} (h : l.length = n) : pad n l = l := by simp [pad, h]
theorem pad_len {n : Nat} {l : List Int} (h : l.length ≤ n) : (pad n l).length = n := by simp [pad]; omega
theorem pad_set {n j : Nat} {l : List Int} {v : Int} (hl : l.length = j) (h : j < n) : (pad n l).set j v = pad n (l ++ [v]) := by
  subst hl
  rw [pad, pad, List.set_append, if_neg (by omega), Nat.sub_self, show n - l.length = (n - (l ++ [v]).length) + 1 by simp; omega, List.replicate_succ, List.set_cons_zero, List.append_assoc]; rfl
theorem pad_set2 {n j : Nat} {l : List Int} {u v : Int} (hl : l.length = j) : (pad n (l ++ [u])).set j v = pad n (l ++ [v]) := by
  subst hl
  rw [pad, pad, List.append_assoc, List.append_assoc, List.set_append, if_neg (by omega), Nat.sub_self]
  simp
theorem pad_at {n j : Nat} {l : List Int} (h : j < l.length) : (pad n l).getD j 0 = l.getD j 0 := by
  rw [pad, List.getD_eq_getElem?_getD, List.getElem?_append_left h, ← List.getD_eq_getElem?_getD]
theorem pad_last {n j : Nat} {l : List Int} {v : Int} (hl : l.length = j) : (pad n (l ++ [v])).getD j 0 = v := by
  subst hl
  rw [pad_at (by simp), List.getD_eq_getElem?_getD]; simp
theorem ints_set (l : List Int) (j : Nat) (v : Int) : (ints l).set j (.int .i64 v) = ints (l.set j v) := by rw [ints, ints, List.map_set]
theorem ints_at {l : List Int} {j : Nat} (h : j < l.length) : (ints l)[j]? = some (.int .i64 (l.getD j 0)) := by
  rw [ints, List.getElem?_map, List.getD_eq_getElem?_getD, List.getElem?_eq_getElem h]; rfl
end Go.Sheet
namespace Go.Proofs.YtjfhncnpmelopaaGreatDoor
open Go.RowKit Go.Mem Go.Sheet
theorem eltLL : Elt Tryz.prog 53 33 (.slice none 0 0) 1 24 := ⟨Tryz.underlying53, by kernel_rfl, rfl, by decide⟩
theorem one_sliceL {A : Option Addr} {n c : Nat} : ∀ u ∈ [Value.slice A n c], u.oneCell' = true := by simp [Value.oneCell']
theorem zeros_ints (n : Nat) : (madeCells (Value.int .i64 0).cells (n * 1)).toList = ints (pad n []) := by
  show (madeCells #[.int .i64 0] (n * 1)).toList = _
  rw [toList_madeCells_one, pad_nil, ints]; simp
theorem row_cell {W w : World} {L : List Asr} {i j g n c : Nat} {t : TypeId} {l : List Int} (h : St W w L) (hi : L[i]? = some (row t 1 (.slice (some ⟨g, 0, none⟩) n c) n (ints l))) (hj : j < n) : w.cell? ⟨g, j, none⟩ = some (.int .i64 (l.getD j 0)) ∧ w.frozen? ⟨g, j, none⟩ = false := by
  have ho := h.row_own hi
  have hl : l.length = n := by have := ho.1; simpa [ints] using this
  exact ⟨by rw [ho.cellAt j (by omega), ints_at (by omega)], ho.frozenAt j⟩

theorem play_stepZ {Z : Asr} {w2 w' : World} {hn k : Nat} {p : PC} {A' B' C' Vc Vb Ve : Value} {vc vb ve : List Value} {ms : List (Value × List Value)} {T : Tab} {x : Int} {cl bl el : List Int} (hok : POk p) (hhn : p.ho.length = hn)
    (hx : p.rd[k]? = some x) (HT : PInv p hn k ms vc vb ve T)
    (h1 : cl = (playH k T.b T.e (p.mi.getD k []) 0 p.ho x).map (·.1)) (h2 : bl = (playH k T.b T.e (p.mi.getD k []) 0 p.ho x).map (·.2.1)) (h3 : el = (playH k T.b T.e (p.mi.getD k []) 0 p.ho x).map (·.2.2))
    (S : St w2 w' [Z, row 33 1 A' (k + 1) (vc ++ [Vc]), row 33 1 B' (k + 1) (vb ++ [Vb]), row 33 1 C' (k + 1) (ve ++ [Ve]), rdAll ms, row 3 1 Vc hn (ints cl), row 3 1 Vb hn (ints bl), row 3 1 Ve hn (ints el)]) :
    ∃ (T' : Tab) (ms' : List (Value × List Value)), St w2 w' [Z, row 33 1 A' (k + 1) (vc ++ [Vc]), row 33 1 B' (k + 1) (vb ++ [Vb]), row 33 1 C' (k + 1) (ve ++ [Ve]), rdAll ms'] ∧
      PInv p hn (k + 1) ms' (vc ++ [Vc]) (vb ++ [Vb]) (ve ++ [Ve]) T' := by
  obtain ⟨t1, t2, t3, t4, t5, t6⟩ := HT
  have hlen : (playH k T.b T.e (p.mi.getD k []) 0 p.ho x).length = hn := by rw [playH_len, hhn]
  have lc : (ints cl).length = hn := by rw [h1, ints, List.length_map, List.length_map, hlen]
  have lb : (ints bl).length = hn := by rw [h2, ints, List.length_map, List.length_map, hlen]
  have le : (ints el).length = hn := by rw [h3, ints, List.length_map, List.length_map, hlen]
  have hkr : k < p.rd.length := (List.getElem?_eq_some_iff.1 hx).1
  have hxb := hok.rdb x (List.mem_of_getElem? hx)
  have h36 : hn ≤ 36 := hhn ▸ hok.ho36
  have hmi : ∀ y ∈ p.mi.getD k [], 0 ≤ y ∧ y ≤ 10000 := fun y hy => by
    have hkm : k < p.mi.length := by rw [hok.mil]; exact hkr
    have e : p.mi.getD k [] = p.mi[k] := by rw [List.getD_eq_getElem?_getD, List.getElem?_eq_getElem hkm, Option.getD_some]
    rw [e] at hy
    have := (hok.mib _ (List.getElem_mem hkm)).2 y hy
    omega
  have hbd := playH_bd (g := k) (mi := p.mi.getD k []) t4 t5 (by omega) hmi p.ho 0 x hxb.1 (by omega)
  have S1 : St w2 w' [Z, row 33 1 A' (k + 1) (vc ++ [Vc]), row 33 1 B' (k + 1) (vb ++ [Vb]), row 33 1 C' (k + 1) (ve ++ [Ve]), rdAll ms, row 3 1 Vc (ints cl).length (ints cl), row 3 1 Vb (ints bl).length (ints bl), row 3 1 Ve (ints el).length (ints el)] := by
    rw [lc, lb, le]; exact S
  refine ⟨⟨T.c ++ [cl], T.b ++ [bl], T.e ++ [el]⟩, _, S1.freeze3, ?_, ?_, ?_, ?_, ?_, ?_⟩
  · exact t1.snoc (fun q hq => by simp [hq]) (by simp)
  · exact t2.snoc (fun q hq => by simp [hq]) (by simp)
  · exact t3.snoc (fun q hq => by simp [hq]) (by simp)
  · refine (t4.mono (by omega)).snoc (by rw [h2, List.length_map, hlen]) fun y hy => ?_
    rw [h2] at hy
    obtain ⟨z, hz, rfl⟩ := List.mem_map.1 hy
    have := (hbd z hz).2.1
    omega
  · refine (t5.mono (by omega)).snoc (by rw [h3, List.length_map, hlen]) fun y hy => ?_
    rw [h3] at hy
    obtain ⟨z, hz, rfl⟩ := List.mem_map.1 hy
    have := (hbd z hz).2.2
    omega
  · rw [List.drop_eq_getElem_cons hkr] at t6
    have ex : p.rd[k] = x := by rw [List.getElem?_eq_getElem hkr] at hx; exact Option.some.inj hx
    rw [← t6, playG, ex, h1, h2, h3]

set_option maxRecDepth 100000 in
set_option maxHeartbeats 8000000 in
theorem refTimes_any (W : World) (vr vm vh : Value) (p : PC) (h : RdPace W (· < W.heap.size) vr vm vh p) (ok : POk p) :
    Calls Tryz.prog 34 #[.agg #[vr, vm, vh]] W fun e w' => ∃ v1 v2 v3, e = .returned (.tuple #[v1, v2, v3]) ∧ Below W.heap.size W w' ∧ RdRows w' (· < w'.heap.size) v1 (played p).c ∧ RdRows w' (· < w'.heap.size) v2 (played p).b ∧ RdRows w' (· < w'.heap.size) v3 (played p).e := by
  have HR := Lib.hid h
  have HOK := Lib.hid ok
  obtain ⟨vs, hm1, _⟩ := h.mi
  obtain ⟨Ar, cr, rfl, _, _, _⟩ := h.rd.open_
  obtain ⟨Am, cm, rfl, _, _, _⟩ := hm1.open_
  obtain ⟨Ah, ch, rfl, _, _, _⟩ := h.ho.open_
  have h24 : p.rd.length ≤ 24 := ok.rd24
  have h36 : p.ho.length ≤ 36 := ok.ho36
  have hn0 : 0 < p.ho.length := ok.ho0
  generalize HRN : p.rd.length = rn at *
  generalize HMN : p.mi.length = mn at *
  generalize HHN : p.ho.length = hn at *
  have HRN := Lib.hid HRN
  have HMN := Lib.hid HMN
  have HHN := Lib.hid HHN
  have S0 : St W (W.alloc (.cells #[.slice Ar rn cr, .slice Am mn cm, .slice Ah hn ch] 56)) [blk W.heap.size 56 #[.slice Ar rn cr, .slice Am mn cm, .slice Ah hn ch], row 33 1 (.slice none 0 0) 0 [], row 33 1 (.slice none 0 0) 0 [], row 33 1 (.slice none 0 0) 0 [], rdAll []] :=
    ((((((St.refl W).blk_new #[.slice Ar rn cr, .slice Am mn cm, .slice Ah hn ch] 56).row_nil 33 1).row_nil 33 1).row_nil 33 1).push (A := rdAll []) (F := fun _ => False) (Below.refl _ _) (fun p hp => by cases hp) (fun b hb => hb.elim))
  have HS0 := Lib.hid S0
  clear h ok hm1 S0
  have HG0 : Hid (W.heap.size = W.heap.size) := rfl
  go_enter Tryz.func34, Tryz.ntmps34
  go_wp2
  generalize hgp : W.heap.size = gp at HS0 ⊢
  generalize hw1 : W.alloc (.cells #[.slice Ar rn cr, .slice Am mn cm, .slice Ah hn ch] 56) = w1 at *
  have HGP := Lib.hid hgp
  clear hgp hw1 HG0
  go_loopw [8, 5, 6, 7] (fun i vc vb ve w' => ∃ (k : Nat) (T : Tab) (kc kb ke : List Value) (ms : List (Value × List Value)), k ≤ rn ∧ i = .int .i64 k ∧ St W w' [blk gp 56 #[.slice Ar rn cr, .slice Am mn cm, .slice Ah hn ch], row 33 1 vc k kc, row 33 1 vb k kb, row 33 1 ve k ke, rdAll ms] ∧
      Hid (PInv p hn k ms kc kb ke T)) (fun i _ _ _ _ => rn - (intOf i).toNat)
  case atStart => exact ⟨0, ⟨[], [], []⟩, _, _, _, [], Nat.zero_le _, rfl, HS0.out, Tabs.nil _, Tabs.nil _, Tabs.nil _, TOk.nil _ _, TOk.nil _ _, rfl⟩
  case round =>
    obtain ⟨k, T, kc, kb, ke, ms, hk, rfl, S, HT⟩ := hrel
    clear HS0
    obtain ⟨Bc, cBc, rfl, _, _, _⟩ := (S.row_rd (i := 1) rfl).open_
    obtain ⟨Bb, cBb, rfl, _, _, _⟩ := (S.row_rd (i := 2) rfl).open_
    obtain ⟨Be, cBe, rfl, _, _, _⟩ := (S.row_rd (i := 3) rfl).open_
    by_cases hlt : k < rn
    · have k0 := S.blk_cell (i := 0) rfl 0
      have k2 := S.blk_cell (i := 0) rfl 2
      have HS := Lib.hid S
      clear S
      go_wp2_with fail
      refine wp_head_tail3 0 14 5 [] [0, 1, 2, 4, 5, 6, 8, 9, 10] rfl (fun w' => w'.cell? ⟨gp, 2, none⟩ = some (.slice Ah hn ch))
        (fun a a' w' => ∃ g1 g2 g3 : Nat, St W w' [blk gp 56 #[.slice Ar rn cr, .slice Am mn cm, .slice Ah hn ch], row 33 1 (.slice Bc k cBc) k kc, row 33 1 (.slice Bb k cBb) k kb, row 33 1 (.slice Be k cBe) k ke, rdAll ms,
            row 3 1 (.slice (some ⟨g1, 0, none⟩) hn hn) hn (ints (pad hn [])), row 3 1 (.slice (some ⟨g2, 0, none⟩) hn hn) hn (ints (pad hn [])), row 3 1 (.slice (some ⟨g3, 0, none⟩) hn hn) hn (ints (pad hn []))] ∧
          a' = ((((a.put (some 23) (.slice (some ⟨g1, 0, none⟩) hn hn)).put (some 27) (.slice (some ⟨g2, 0, none⟩) hn hn)).put (some 31) (.slice (some ⟨g3, 0, none⟩) hn hn)).put (some 9) (.slice (some ⟨g1, 0, none⟩) hn hn)).put (some 10) (.slice (some ⟨g2, 0, none⟩) hn hn))
        (by kernel_rfl) (by kernel_rfl) (HS.out.drew.blk_cell (i := 0) rfl 2) ?_
      simp only [pick, List.filterMap_cons, List.filterMap_nil, List.getElem?_toArray, List.getElem?_cons_succ, List.getElem?_cons_zero]
      have SD := Lib.hid HS.out.drew
      generalize hK : (fun w' : World => w'.cell? ⟨gp, 2, none⟩ = some (.slice Ah hn ch)) = K
      have kK : ∀ y : Wd K, y.w.cell? ⟨gp, 2, none⟩ = some (.slice Ah hn ch) := by subst hK; exact fun y => y.h
      have hne : Nonempty (Wd K) := ⟨⟨wr.drew, by subst hK; exact SD.out.blk_cell (i := 0) rfl 2⟩⟩
      have hKd : ∀ (w' : World) (t : TypeId) (L : List Asr), St W w' (blk gp t #[.slice Ar rn cr, .slice Am mn cm, .slice Ah hn ch] :: L) → K w' := by
        intro w' t L h
        subst hK
        exact h.blk_cell (i := 0) rfl 2
      clear hK k0 k2 HS
      generalize wr.drew = w3 at *
      refine wpQuiet_nil ?_
      change wpQuiet _ _ _ _ (_ :: _ :: _ :: _ :: _ :: _ :: _ :: _ :: _ :: []) _
      repeat (go_big_quiet_step ((fail)))
      refine wpQuiet_nil ?_
      have S3 := SD.out
      refine ⟨?_, ?_⟩
      · as_aux_lemma =>
        refine headW_all (rs := [3, 7, 11]) (by kernel_rfl) (by decide) (by decide) (List.forall_mem_cons.2 ⟨?_, List.forall_mem_cons.2 ⟨?_, List.forall_mem_cons.2 ⟨?_, List.forall_mem_nil _⟩⟩⟩)
        · refine wpOp_list (o := _) rfl ?_
          intro Q' hQ'
          refine wpList_make_st eltI rfl _ _ rfl rfl rfl S3 (by omega) (by omega) ?_
          intro w4 g1 T1 _ _
          rw [zeros_ints] at T1
          simp only [List.cons_append, List.nil_append] at T1
          go_wp2_with fail
          refine ⟨hKd _ _ _ T1, ?_⟩
          refine headW_all (rs := [7, 11, 12]) (by kernel_rfl) (by decide) (by decide) (List.forall_mem_cons.2 ⟨?_, List.forall_mem_cons.2 ⟨?_, List.forall_mem_cons.2 ⟨?_, List.forall_mem_nil _⟩⟩⟩)
          · refine wpOp_list (o := _) rfl ?_
            intro Q' hQ'
            refine wpList_make_st eltI rfl _ _ rfl rfl rfl T1 (by omega) (by omega) ?_
            intro w5 g2 T2 _ _
            rw [zeros_ints] at T2
            simp only [List.cons_append, List.nil_append] at T2
            go_wp2_with fail
            refine ⟨hKd _ _ _ T2, ?_⟩
            refine headW_all (rs := [11, 12]) (by kernel_rfl) (by decide) (by decide) (List.forall_mem_cons.2 ⟨?_, List.forall_mem_cons.2 ⟨?_, List.forall_mem_nil _⟩⟩)
            · refine wpOp_list (o := _) rfl ?_
              intro Q' hQ'
              refine wpList_make_st eltI rfl _ _ rfl rfl rfl T2 (by omega) (by omega) ?_
              intro w6 g3 T3 _ _
              rw [zeros_ints] at T3
              simp only [List.cons_append, List.nil_append] at T3
              go_wp2_with fail
              refine ⟨hKd _ _ _ T3, ?_⟩
              refine headW_all (rs := [12]) (by kernel_rfl) (by decide) (by decide) (List.forall_mem_cons.2 ⟨?_, List.forall_mem_nil _⟩)
              · refine wpOp_list (o := _) rfl ?_
                intro Q' hQ'
                go_wp2_with fail
                refine ⟨hKd _ _ _ T3, ?_⟩
                refine headW_all (rs := [13]) (by kernel_rfl) (by decide) (by decide) (List.forall_mem_cons.2 ⟨?_, List.forall_mem_nil _⟩)
                · refine wpOp_list (o := _) rfl ?_
                  intro Q' hQ'
                  go_wp2_with fail
                  refine ⟨hKd _ _ _ T3, ?_⟩
                  exact ⟨by kernel_rfl, g1, g2, g3, T3.perm (List.Perm.append_left [blk gp 56 #[.slice Ar rn cr, .slice Am mn cm, .slice Ah hn ch], row 33 1 (.slice Bc k cBc) k kc, row 33 1 (.slice Bb k cBb) k kb, row 33 1 (.slice Be k cBe) k ke, rdAll ms] (.refl _)), rfl⟩
            · refine wpOp_list (o := _) rfl ?_
              intro Q' hQ'
              go_wp2_with fail
              refine ⟨hKd _ _ _ T2, ?_⟩
              refine headW_all (rs := [11, 13]) (by kernel_rfl) (by decide) (by decide) (List.forall_mem_cons.2 ⟨?_, List.forall_mem_cons.2 ⟨?_, List.forall_mem_nil _⟩⟩)
              · refine wpOp_list (o := _) rfl ?_
                intro Q' hQ'
                refine wpList_make_st eltI rfl _ _ rfl rfl rfl T2 (by omega) (by omega) ?_
                intro w6 g3 T3 _ _
                rw [zeros_ints] at T3
                simp only [List.cons_append, List.nil_append] at T3
                go_wp2_with fail
                refine ⟨hKd _ _ _ T3, ?_⟩
                refine headW_all (rs := [13]) (by kernel_rfl) (by decide) (by decide) (List.forall_mem_cons.2 ⟨?_, List.forall_mem_nil _⟩)
                · refine wpOp_list (o := _) rfl ?_
                  intro Q' hQ'
                  go_wp2_with fail
                  refine ⟨hKd _ _ _ T3, ?_⟩
                  exact ⟨by kernel_rfl, g1, g2, g3, T3.perm (List.Perm.append_left [blk gp 56 #[.slice Ar rn cr, .slice Am mn cm, .slice Ah hn ch], row 33 1 (.slice Bc k cBc) k kc, row 33 1 (.slice Bb k cBb) k kb, row 33 1 (.slice Be k cBe) k ke, rdAll ms] (.refl _)), rfl⟩
              · refine wpOp_list (o := _) rfl ?_
                intro Q' hQ'
                go_wp2_with fail
                refine ⟨hKd _ _ _ T2, ?_⟩
                refine headW_all (rs := [11]) (by kernel_rfl) (by decide) (by decide) (List.forall_mem_cons.2 ⟨?_, List.forall_mem_nil _⟩)
                · refine wpOp_list (o := _) rfl ?_
                  intro Q' hQ'
                  refine wpList_make_st eltI rfl _ _ rfl rfl rfl T2 (by omega) (by omega) ?_
                  intro w6 g3 T3 _ _
                  rw [zeros_ints] at T3
                  simp only [List.cons_append, List.nil_append] at T3
                  go_wp2_with fail
                  refine ⟨hKd _ _ _ T3, ?_⟩
                  exact ⟨by kernel_rfl, g1, g2, g3, T3.perm (List.Perm.append_left [blk gp 56 #[.slice Ar rn cr, .slice Am mn cm, .slice Ah hn ch], row 33 1 (.slice Bc k cBc) k kc, row 33 1 (.slice Bb k cBb) k kb, row 33 1 (.slice Be k cBe) k ke, rdAll ms] (.refl _)), rfl⟩
          · refine wpOp_list (o := _) rfl ?_
            intro Q' hQ'
            refine wpList_make_st eltI rfl _ _ rfl rfl rfl T1 (by omega) (by omega) ?_
            intro w5 g3 T2 _ _
            rw [zeros_ints] at T2
            simp only [List.cons_append, List.nil_append] at T2
            go_wp2_with fail
            refine ⟨hKd _ _ _ T2, ?_⟩
            refine headW_all (rs := [7, 12]) (by kernel_rfl) (by decide) (by decide) (List.forall_mem_cons.2 ⟨?_, List.forall_mem_cons.2 ⟨?_, List.forall_mem_nil _⟩⟩)
            · refine wpOp_list (o := _) rfl ?_
              intro Q' hQ'
              refine wpList_make_st eltI rfl _ _ rfl rfl rfl T2 (by omega) (by omega) ?_
              intro w6 g2 T3 _ _
              rw [zeros_ints] at T3
              simp only [List.cons_append, List.nil_append] at T3
              go_wp2_with fail
              refine ⟨hKd _ _ _ T3, ?_⟩
              refine headW_all (rs := [12]) (by kernel_rfl) (by decide) (by decide) (List.forall_mem_cons.2 ⟨?_, List.forall_mem_nil _⟩)
              · refine wpOp_list (o := _) rfl ?_
                intro Q' hQ'
                go_wp2_with fail
                refine ⟨hKd _ _ _ T3, ?_⟩
                refine headW_all (rs := [13]) (by kernel_rfl) (by decide) (by decide) (List.forall_mem_cons.2 ⟨?_, List.forall_mem_nil _⟩)
                · refine wpOp_list (o := _) rfl ?_
                  intro Q' hQ'
                  go_wp2_with fail
                  refine ⟨hKd _ _ _ T3, ?_⟩
                  exact ⟨by kernel_rfl, g1, g2, g3, T3.perm (List.Perm.append_left [blk gp 56 #[.slice Ar rn cr, .slice Am mn cm, .slice Ah hn ch], row 33 1 (.slice Bc k cBc) k kc, row 33 1 (.slice Bb k cBb) k kb, row 33 1 (.slice Be k cBe) k ke, rdAll ms] (.cons _ (.swap _ _ _))), rfl⟩
            · refine wpOp_list (o := _) rfl ?_
              intro Q' hQ'
              go_wp2_with fail
              refine ⟨hKd _ _ _ T2, ?_⟩
              refine headW_all (rs := [7]) (by kernel_rfl) (by decide) (by decide) (List.forall_mem_cons.2 ⟨?_, List.forall_mem_nil _⟩)
              · refine wpOp_list (o := _) rfl ?_
                intro Q' hQ'
                refine wpList_make_st eltI rfl _ _ rfl rfl rfl T2 (by omega) (by omega) ?_
                intro w6 g2 T3 _ _
                rw [zeros_ints] at T3
                simp only [List.cons_append, List.nil_append] at T3
                go_wp2_with fail
                refine ⟨hKd _ _ _ T3, ?_⟩
                refine headW_all (rs := [13]) (by kernel_rfl) (by decide) (by decide) (List.forall_mem_cons.2 ⟨?_, List.forall_mem_nil _⟩)
                · refine wpOp_list (o := _) rfl ?_
                  intro Q' hQ'
                  go_wp2_with fail
                  refine ⟨hKd _ _ _ T3, ?_⟩
                  exact ⟨by kernel_rfl, g1, g2, g3, T3.perm (List.Perm.append_left [blk gp 56 #[.slice Ar rn cr, .slice Am mn cm, .slice Ah hn ch], row 33 1 (.slice Bc k cBc) k kc, row 33 1 (.slice Bb k cBb) k kb, row 33 1 (.slice Be k cBe) k ke, rdAll ms] (.cons _ (.swap _ _ _))), rfl⟩
          · refine wpOp_list (o := _) rfl ?_
            intro Q' hQ'
            go_wp2_with fail
            refine ⟨hKd _ _ _ T1, ?_⟩
            refine headW_all (rs := [7, 11]) (by kernel_rfl) (by decide) (by decide) (List.forall_mem_cons.2 ⟨?_, List.forall_mem_cons.2 ⟨?_, List.forall_mem_nil _⟩⟩)
            · refine wpOp_list (o := _) rfl ?_
              intro Q' hQ'
              refine wpList_make_st eltI rfl _ _ rfl rfl rfl T1 (by omega) (by omega) ?_
              intro w5 g2 T2 _ _
              rw [zeros_ints] at T2
              simp only [List.cons_append, List.nil_append] at T2
              go_wp2_with fail
              refine ⟨hKd _ _ _ T2, ?_⟩
              refine headW_all (rs := [11, 13]) (by kernel_rfl) (by decide) (by decide) (List.forall_mem_cons.2 ⟨?_, List.forall_mem_cons.2 ⟨?_, List.forall_mem_nil _⟩⟩)
              · refine wpOp_list (o := _) rfl ?_
                intro Q' hQ'
                refine wpList_make_st eltI rfl _ _ rfl rfl rfl T2 (by omega) (by omega) ?_
                intro w6 g3 T3 _ _
                rw [zeros_ints] at T3
                simp only [List.cons_append, List.nil_append] at T3
                go_wp2_with fail
                refine ⟨hKd _ _ _ T3, ?_⟩
                refine headW_all (rs := [13]) (by kernel_rfl) (by decide) (by decide) (List.forall_mem_cons.2 ⟨?_, List.forall_mem_nil _⟩)
                · refine wpOp_list (o := _) rfl ?_
                  intro Q' hQ'
                  go_wp2_with fail
                  refine ⟨hKd _ _ _ T3, ?_⟩
                  exact ⟨by kernel_rfl, g1, g2, g3, T3.perm (List.Perm.append_left [blk gp 56 #[.slice Ar rn cr, .slice Am mn cm, .slice Ah hn ch], row 33 1 (.slice Bc k cBc) k kc, row 33 1 (.slice Bb k cBb) k kb, row 33 1 (.slice Be k cBe) k ke, rdAll ms] (.refl _)), rfl⟩
              · refine wpOp_list (o := _) rfl ?_
                intro Q' hQ'
                go_wp2_with fail
                refine ⟨hKd _ _ _ T2, ?_⟩
                refine headW_all (rs := [11]) (by kernel_rfl) (by decide) (by decide) (List.forall_mem_cons.2 ⟨?_, List.forall_mem_nil _⟩)
                · refine wpOp_list (o := _) rfl ?_
                  intro Q' hQ'
                  refine wpList_make_st eltI rfl _ _ rfl rfl rfl T2 (by omega) (by omega) ?_
                  intro w6 g3 T3 _ _
                  rw [zeros_ints] at T3
                  simp only [List.cons_append, List.nil_append] at T3
                  go_wp2_with fail
                  refine ⟨hKd _ _ _ T3, ?_⟩
                  exact ⟨by kernel_rfl, g1, g2, g3, T3.perm (List.Perm.append_left [blk gp 56 #[.slice Ar rn cr, .slice Am mn cm, .slice Ah hn ch], row 33 1 (.slice Bc k cBc) k kc, row 33 1 (.slice Bb k cBb) k kb, row 33 1 (.slice Be k cBe) k ke, rdAll ms] (.refl _)), rfl⟩
            · refine wpOp_list (o := _) rfl ?_
              intro Q' hQ'
              refine wpList_make_st eltI rfl _ _ rfl rfl rfl T1 (by omega) (by omega) ?_
              intro w5 g3 T2 _ _
              rw [zeros_ints] at T2
              simp only [List.cons_append, List.nil_append] at T2
              go_wp2_with fail
              refine ⟨hKd _ _ _ T2, ?_⟩
              refine headW_all (rs := [7]) (by kernel_rfl) (by decide) (by decide) (List.forall_mem_cons.2 ⟨?_, List.forall_mem_nil _⟩)
              · refine wpOp_list (o := _) rfl ?_
                intro Q' hQ'
                refine wpList_make_st eltI rfl _ _ rfl rfl rfl T2 (by omega) (by omega) ?_
                intro w6 g2 T3 _ _
                rw [zeros_ints] at T3
                simp only [List.cons_append, List.nil_append] at T3
                go_wp2_with fail
                refine ⟨hKd _ _ _ T3, ?_⟩
                refine headW_all (rs := [13]) (by kernel_rfl) (by decide) (by decide) (List.forall_mem_cons.2 ⟨?_, List.forall_mem_nil _⟩)
                · refine wpOp_list (o := _) rfl ?_
                  intro Q' hQ'
                  go_wp2_with fail
                  refine ⟨hKd _ _ _ T3, ?_⟩
                  exact ⟨by kernel_rfl, g1, g2, g3, T3.perm (List.Perm.append_left [blk gp 56 #[.slice Ar rn cr, .slice Am mn cm, .slice Ah hn ch], row 33 1 (.slice Bc k cBc) k kc, row 33 1 (.slice Bb k cBb) k kb, row 33 1 (.slice Be k cBe) k ke, rdAll ms] (.cons _ (.swap _ _ _))), rfl⟩
        · refine wpOp_list (o := _) rfl ?_
          intro Q' hQ'
          refine wpList_make_st eltI rfl _ _ rfl rfl rfl S3 (by omega) (by omega) ?_
          intro w4 g2 T1 _ _
          rw [zeros_ints] at T1
          simp only [List.cons_append, List.nil_append] at T1
          go_wp2_with fail
          refine ⟨hKd _ _ _ T1, ?_⟩
          refine headW_all (rs := [3, 11]) (by kernel_rfl) (by decide) (by decide) (List.forall_mem_cons.2 ⟨?_, List.forall_mem_cons.2 ⟨?_, List.forall_mem_nil _⟩⟩)
          · refine wpOp_list (o := _) rfl ?_
            intro Q' hQ'
            refine wpList_make_st eltI rfl _ _ rfl rfl rfl T1 (by omega) (by omega) ?_
            intro w5 g1 T2 _ _
            rw [zeros_ints] at T2
            simp only [List.cons_append, List.nil_append] at T2
            go_wp2_with fail
            refine ⟨hKd _ _ _ T2, ?_⟩
            refine headW_all (rs := [11, 12]) (by kernel_rfl) (by decide) (by decide) (List.forall_mem_cons.2 ⟨?_, List.forall_mem_cons.2 ⟨?_, List.forall_mem_nil _⟩⟩)
            · refine wpOp_list (o := _) rfl ?_
              intro Q' hQ'
              refine wpList_make_st eltI rfl _ _ rfl rfl rfl T2 (by omega) (by omega) ?_
              intro w6 g3 T3 _ _
              rw [zeros_ints] at T3
              simp only [List.cons_append, List.nil_append] at T3
              go_wp2_with fail
              refine ⟨hKd _ _ _ T3, ?_⟩
              refine headW_all (rs := [12]) (by kernel_rfl) (by decide) (by decide) (List.forall_mem_cons.2 ⟨?_, List.forall_mem_nil _⟩)
              · refine wpOp_list (o := _) rfl ?_
                intro Q' hQ'
                go_wp2_with fail
                refine ⟨hKd _ _ _ T3, ?_⟩
                refine headW_all (rs := [13]) (by kernel_rfl) (by decide) (by decide) (List.forall_mem_cons.2 ⟨?_, List.forall_mem_nil _⟩)
                · refine wpOp_list (o := _) rfl ?_
                  intro Q' hQ'
                  go_wp2_with fail
                  refine ⟨hKd _ _ _ T3, ?_⟩
                  exact ⟨by kernel_rfl, g1, g2, g3, T3.perm (List.Perm.append_left [blk gp 56 #[.slice Ar rn cr, .slice Am mn cm, .slice Ah hn ch], row 33 1 (.slice Bc k cBc) k kc, row 33 1 (.slice Bb k cBb) k kb, row 33 1 (.slice Be k cBe) k ke, rdAll ms] (.swap _ _ _)), rfl⟩
            · refine wpOp_list (o := _) rfl ?_
              intro Q' hQ'
              go_wp2_with fail
              refine ⟨hKd _ _ _ T2, ?_⟩
              refine headW_all (rs := [11, 13]) (by kernel_rfl) (by decide) (by decide) (List.forall_mem_cons.2 ⟨?_, List.forall_mem_cons.2 ⟨?_, List.forall_mem_nil _⟩⟩)
              · refine wpOp_list (o := _) rfl ?_
                intro Q' hQ'
                refine wpList_make_st eltI rfl _ _ rfl rfl rfl T2 (by omega) (by omega) ?_
                intro w6 g3 T3 _ _
                rw [zeros_ints] at T3
                simp only [List.cons_append, List.nil_append] at T3
                go_wp2_with fail
                refine ⟨hKd _ _ _ T3, ?_⟩
                refine headW_all (rs := [13]) (by kernel_rfl) (by decide) (by decide) (List.forall_mem_cons.2 ⟨?_, List.forall_mem_nil _⟩)
                · refine wpOp_list (o := _) rfl ?_
                  intro Q' hQ'
                  go_wp2_with fail
                  refine ⟨hKd _ _ _ T3, ?_⟩
                  exact ⟨by kernel_rfl, g1, g2, g3, T3.perm (List.Perm.append_left [blk gp 56 #[.slice Ar rn cr, .slice Am mn cm, .slice Ah hn ch], row 33 1 (.slice Bc k cBc) k kc, row 33 1 (.slice Bb k cBb) k kb, row 33 1 (.slice Be k cBe) k ke, rdAll ms] (.swap _ _ _)), rfl⟩
              · refine wpOp_list (o := _) rfl ?_
                intro Q' hQ'
                go_wp2_with fail
                refine ⟨hKd _ _ _ T2, ?_⟩
                refine headW_all (rs := [11]) (by kernel_rfl) (by decide) (by decide) (List.forall_mem_cons.2 ⟨?_, List.forall_mem_nil _⟩)
                · refine wpOp_list (o := _) rfl ?_
                  intro Q' hQ'
                  refine wpList_make_st eltI rfl _ _ rfl rfl rfl T2 (by omega) (by omega) ?_
                  intro w6 g3 T3 _ _
                  rw [zeros_ints] at T3
                  simp only [List.cons_append, List.nil_append] at T3
                  go_wp2_with fail
                  refine ⟨hKd _ _ _ T3, ?_⟩
                  exact ⟨by kernel_rfl, g1, g2, g3, T3.perm (List.Perm.append_left [blk gp 56 #[.slice Ar rn cr, .slice Am mn cm, .slice Ah hn ch], row 33 1 (.slice Bc k cBc) k kc, row 33 1 (.slice Bb k cBb) k kb, row 33 1 (.slice Be k cBe) k ke, rdAll ms] (.swap _ _ _)), rfl⟩
          · refine wpOp_list (o := _) rfl ?_
            intro Q' hQ'
            refine wpList_make_st eltI rfl _ _ rfl rfl rfl T1 (by omega) (by omega) ?_
            intro w5 g3 T2 _ _
            rw [zeros_ints] at T2
            simp only [List.cons_append, List.nil_append] at T2
            go_wp2_with fail
            refine ⟨hKd _ _ _ T2, ?_⟩
            refine headW_all (rs := [3]) (by kernel_rfl) (by decide) (by decide) (List.forall_mem_cons.2 ⟨?_, List.forall_mem_nil _⟩)
            · refine wpOp_list (o := _) rfl ?_
              intro Q' hQ'
              refine wpList_make_st eltI rfl _ _ rfl rfl rfl T2 (by omega) (by omega) ?_
              intro w6 g1 T3 _ _
              rw [zeros_ints] at T3
              simp only [List.cons_append, List.nil_append] at T3
              go_wp2_with fail
              refine ⟨hKd _ _ _ T3, ?_⟩
              refine headW_all (rs := [12]) (by kernel_rfl) (by decide) (by decide) (List.forall_mem_cons.2 ⟨?_, List.forall_mem_nil _⟩)
              · refine wpOp_list (o := _) rfl ?_
                intro Q' hQ'
                go_wp2_with fail
                refine ⟨hKd _ _ _ T3, ?_⟩
                refine headW_all (rs := [13]) (by kernel_rfl) (by decide) (by decide) (List.forall_mem_cons.2 ⟨?_, List.forall_mem_nil _⟩)
                · refine wpOp_list (o := _) rfl ?_
                  intro Q' hQ'
                  go_wp2_with fail
                  refine ⟨hKd _ _ _ T3, ?_⟩
                  exact ⟨by kernel_rfl, g1, g2, g3, T3.perm (List.Perm.append_left [blk gp 56 #[.slice Ar rn cr, .slice Am mn cm, .slice Ah hn ch], row 33 1 (.slice Bc k cBc) k kc, row 33 1 (.slice Bb k cBb) k kb, row 33 1 (.slice Be k cBe) k ke, rdAll ms] ((.trans (.cons _ (.swap _ _ _)) (.swap _ _ _)))), rfl⟩
        · refine wpOp_list (o := _) rfl ?_
          intro Q' hQ'
          refine wpList_make_st eltI rfl _ _ rfl rfl rfl S3 (by omega) (by omega) ?_
          intro w4 g3 T1 _ _
          rw [zeros_ints] at T1
          simp only [List.cons_append, List.nil_append] at T1
          go_wp2_with fail
          refine ⟨hKd _ _ _ T1, ?_⟩
          refine headW_all (rs := [3, 7]) (by kernel_rfl) (by decide) (by decide) (List.forall_mem_cons.2 ⟨?_, List.forall_mem_cons.2 ⟨?_, List.forall_mem_nil _⟩⟩)
          · refine wpOp_list (o := _) rfl ?_
            intro Q' hQ'
            refine wpList_make_st eltI rfl _ _ rfl rfl rfl T1 (by omega) (by omega) ?_
            intro w5 g1 T2 _ _
            rw [zeros_ints] at T2
            simp only [List.cons_append, List.nil_append] at T2
            go_wp2_with fail
            refine ⟨hKd _ _ _ T2, ?_⟩
            refine headW_all (rs := [7, 12]) (by kernel_rfl) (by decide) (by decide) (List.forall_mem_cons.2 ⟨?_, List.forall_mem_cons.2 ⟨?_, List.forall_mem_nil _⟩⟩)
            · refine wpOp_list (o := _) rfl ?_
              intro Q' hQ'
              refine wpList_make_st eltI rfl _ _ rfl rfl rfl T2 (by omega) (by omega) ?_
              intro w6 g2 T3 _ _
              rw [zeros_ints] at T3
              simp only [List.cons_append, List.nil_append] at T3
              go_wp2_with fail
              refine ⟨hKd _ _ _ T3, ?_⟩
              refine headW_all (rs := [12]) (by kernel_rfl) (by decide) (by decide) (List.forall_mem_cons.2 ⟨?_, List.forall_mem_nil _⟩)
              · refine wpOp_list (o := _) rfl ?_
                intro Q' hQ'
                go_wp2_with fail
                refine ⟨hKd _ _ _ T3, ?_⟩
                refine headW_all (rs := [13]) (by kernel_rfl) (by decide) (by decide) (List.forall_mem_cons.2 ⟨?_, List.forall_mem_nil _⟩)
                · refine wpOp_list (o := _) rfl ?_
                  intro Q' hQ'
                  go_wp2_with fail
                  refine ⟨hKd _ _ _ T3, ?_⟩
                  exact ⟨by kernel_rfl, g1, g2, g3, T3.perm (List.Perm.append_left [blk gp 56 #[.slice Ar rn cr, .slice Am mn cm, .slice Ah hn ch], row 33 1 (.slice Bc k cBc) k kc, row 33 1 (.slice Bb k cBb) k kb, row 33 1 (.slice Be k cBe) k ke, rdAll ms] ((.trans (.swap _ _ _) (.cons _ (.swap _ _ _))))), rfl⟩
            · refine wpOp_list (o := _) rfl ?_
              intro Q' hQ'
              go_wp2_with fail
              refine ⟨hKd _ _ _ T2, ?_⟩
              refine headW_all (rs := [7]) (by kernel_rfl) (by decide) (by decide) (List.forall_mem_cons.2 ⟨?_, List.forall_mem_nil _⟩)
              · refine wpOp_list (o := _) rfl ?_
                intro Q' hQ'
                refine wpList_make_st eltI rfl _ _ rfl rfl rfl T2 (by omega) (by omega) ?_
                intro w6 g2 T3 _ _
                rw [zeros_ints] at T3
                simp only [List.cons_append, List.nil_append] at T3
                go_wp2_with fail
                refine ⟨hKd _ _ _ T3, ?_⟩
                refine headW_all (rs := [13]) (by kernel_rfl) (by decide) (by decide) (List.forall_mem_cons.2 ⟨?_, List.forall_mem_nil _⟩)
                · refine wpOp_list (o := _) rfl ?_
                  intro Q' hQ'
                  go_wp2_with fail
                  refine ⟨hKd _ _ _ T3, ?_⟩
                  exact ⟨by kernel_rfl, g1, g2, g3, T3.perm (List.Perm.append_left [blk gp 56 #[.slice Ar rn cr, .slice Am mn cm, .slice Ah hn ch], row 33 1 (.slice Bc k cBc) k kc, row 33 1 (.slice Bb k cBb) k kb, row 33 1 (.slice Be k cBe) k ke, rdAll ms] ((.trans (.swap _ _ _) (.cons _ (.swap _ _ _))))), rfl⟩
          · refine wpOp_list (o := _) rfl ?_
            intro Q' hQ'
            refine wpList_make_st eltI rfl _ _ rfl rfl rfl T1 (by omega) (by omega) ?_
            intro w5 g2 T2 _ _
            rw [zeros_ints] at T2
            simp only [List.cons_append, List.nil_append] at T2
            go_wp2_with fail
            refine ⟨hKd _ _ _ T2, ?_⟩
            refine headW_all (rs := [3]) (by kernel_rfl) (by decide) (by decide) (List.forall_mem_cons.2 ⟨?_, List.forall_mem_nil _⟩)
            · refine wpOp_list (o := _) rfl ?_
              intro Q' hQ'
              refine wpList_make_st eltI rfl _ _ rfl rfl rfl T2 (by omega) (by omega) ?_
              intro w6 g1 T3 _ _
              rw [zeros_ints] at T3
              simp only [List.cons_append, List.nil_append] at T3
              go_wp2_with fail
              refine ⟨hKd _ _ _ T3, ?_⟩
              refine headW_all (rs := [12]) (by kernel_rfl) (by decide) (by decide) (List.forall_mem_cons.2 ⟨?_, List.forall_mem_nil _⟩)
              · refine wpOp_list (o := _) rfl ?_
                intro Q' hQ'
                go_wp2_with fail
                refine ⟨hKd _ _ _ T3, ?_⟩
                refine headW_all (rs := [13]) (by kernel_rfl) (by decide) (by decide) (List.forall_mem_cons.2 ⟨?_, List.forall_mem_nil _⟩)
                · refine wpOp_list (o := _) rfl ?_
                  intro Q' hQ'
                  go_wp2_with fail
                  refine ⟨hKd _ _ _ T3, ?_⟩
                  exact ⟨by kernel_rfl, g1, g2, g3, T3.perm (List.Perm.append_left [blk gp 56 #[.slice Ar rn cr, .slice Am mn cm, .slice Ah hn ch], row 33 1 (.slice Bc k cBc) k kc, row 33 1 (.slice Bb k cBb) k kb, row 33 1 (.slice Be k cBe) k ke, rdAll ms] ((.trans (.swap _ _ _) (.trans (.cons _ (.swap _ _ _)) (.swap _ _ _))))), rfl⟩
      · as_aux_lemma =>
        rintro a' w4 ⟨g1, g2, g3, S4, rfl⟩
        clear SD hKd kK hne S3
        simp only [List.drop_succ_cons, List.drop_zero]
        go_wp2_with fail
        refine NoPanic.normal ?_
        obtain ⟨x, hx⟩ : ∃ x, p.rd[k]? = some x := ⟨_, List.getElem?_eq_getElem (by rw [HRN.out]; exact hlt)⟩
        have HX := Lib.hid hx
        clear hx
        go_wp2_with fail
        go_loopw [12] (fun jj w' => ∃ (j : Nat) (cl bl el : List Int) (a : Int), j ≤ hn ∧ jj = .int .i64 j ∧ Hid (cl.length = j ∧ bl.length = j ∧ el.length = j) ∧ 0 ≤ a ∧ a ≤ 10000 + 360000 * k + 10000 * j ∧ Hid (a = if j = 0 then x else el.getD (j - 1) 0) ∧
          St W w' [blk gp 56 #[.slice Ar rn cr, .slice Am mn cm, .slice Ah hn ch], row 33 1 (.slice Bc k cBc) k kc, row 33 1 (.slice Bb k cBb) k kb, row 33 1 (.slice Be k cBe) k ke, rdAll ms,
            row 3 1 (.slice (some ⟨g1, 0, none⟩) hn hn) hn (ints (pad hn cl)), row 3 1 (.slice (some ⟨g2, 0, none⟩) hn hn) hn (ints (pad hn bl)), row 3 1 (.slice (some ⟨g3, 0, none⟩) hn hn) hn (ints (pad hn el))] ∧
          Hid (cl ++ (playH k T.b T.e (p.mi.getD k []) j (p.ho.drop j) a).map (·.1) = (playH k T.b T.e (p.mi.getD k []) 0 p.ho x).map (·.1) ∧
            bl ++ (playH k T.b T.e (p.mi.getD k []) j (p.ho.drop j) a).map (·.2.1) = (playH k T.b T.e (p.mi.getD k []) 0 p.ho x).map (·.2.1) ∧
            el ++ (playH k T.b T.e (p.mi.getD k []) j (p.ho.drop j) a).map (·.2.2) = (playH k T.b T.e (p.mi.getD k []) 0 p.ho x).map (·.2.2))) (fun jj _ => hn - (intOf jj).toNat)
        case atStart =>
          have := HOK.out.rdb x (List.mem_of_getElem? HX.out)
          exact ⟨0, [], [], [], x, Nat.zero_le _, rfl, ⟨rfl, rfl, rfl⟩, by omega, by omega, rfl, S4, rfl, rfl, rfl⟩
        case round =>
          obtain ⟨j, cl, bl, el, a, hj, rfl, HL, ha0, ha1, HA, S, HI⟩ := hrel
          clear S4
          by_cases hjl : j < hn
          · obtain ⟨bR, oR, x', hAR, hx', cR⟩ := HR.out.rd.int (k := k) (by rw [HRN.out]; exact hlt)
            subst hAR
            obtain rfl : x' = x := Option.some.inj (hx'.symm.trans HX.out)
            obtain ⟨bh, oh, hd, hA2, hhd, cH⟩ := HR.out.ho.int (k := j) (by rw [HHN.out]; exact hjl)
            subst hA2
            have hhb := HOK.out.hob hd (List.mem_of_getElem? hhd)
            have hkm : k < p.mi.length := by rw [HOK.out.mil, HRN.out]; exact hlt
            have hmr : p.mi[k]? = some (p.mi.getD k []) := by rw [List.getD_eq_getElem?_getD, List.getElem?_eq_getElem hkm, Option.getD_some]
            obtain ⟨bm, om, bm2, om2, cm2, m, hAm, m1, hcm2, hm, m2⟩ := rows_at HR.out.mi hmr ((HOK.out.mib _ (List.mem_of_getElem? hmr)).1.trans HHN.out) hjl
            subst hAm
            have hmb := (HOK.out.mib _ (List.mem_of_getElem? hmr)).2 m (List.mem_of_getElem? hm)
            have hmn : k < mn := by rw [← HMN.out]; exact hkm
            have z1 := World.block_lt_of_cell? W _ cR
            have z2 := World.block_lt_of_cell? W _ cH
            have z3 := World.block_lt_of_cell? W _ m1
            have z4 := World.block_lt_of_cell? W _ m2
            have HOLD : Hid (∀ w', Below W.heap.size W w' → w'.cell? ⟨bR, oR + k, none⟩ = some (.int .i64 x') ∧ w'.cell? ⟨bh, oh + j, none⟩ = some (.int .i64 hd) ∧ w'.cell? ⟨bm, om + k, none⟩ = some (.slice (some ⟨bm2, om2, none⟩) hn cm2) ∧ w'.cell? ⟨bm2, om2 + j, none⟩ = some (.int .i64 m)) :=
              fun w' h => ⟨(h.cell (p := ⟨bR, oR + k, none⟩) z1).trans cR, (h.cell (p := ⟨bh, oh + j, none⟩) z2).trans cH, (h.cell (p := ⟨bm, om + k, none⟩) z3).trans m1, (h.cell (p := ⟨bm2, om2 + j, none⟩) z4).trans m2⟩
            have HHD := Lib.hid hhd
            have HMM := Lib.hid hm
            obtain ⟨t1, t2, t3, t4, t5, t6⟩ := HT.out
            have HT1 := Lib.hid t2
            have HT2 := Lib.hid t3
            have HO1 := Lib.hid t4
            have HO2 := Lib.hid t5
            have hM0 : (0 : Int) ≤ 10000 + 360000 * k := by omega
            obtain ⟨hl1, hl2, hl3⟩ := HL.out
            have hgg1 := S.row_ne (i := 5) (j := 6) rfl rfl (by decide)
            have hgg2 := S.row_ne (i := 5) (j := 7) rfl rfl (by decide)
            have hgg3 := S.row_ne (i := 6) (j := 7) rfl rfl (by decide)
            have hp1 := S.blk_ne (i := 0) (j := 5) rfl rfl (by decide)
            have hp2 := S.blk_ne (i := 0) (j := 6) rfl rfl (by decide)
            have hp1' := hp1.symm
            have hp2' := hp2.symm
            have ho1 := S.old_ne (j := 5) rfl z2
            have ho2 := S.old_ne (j := 6) rfl z2
            have ho1' := ho1.symm
            have ho2' := ho2.symm
            have HS := Lib.hid S
            clear t1 t2 t3 t4 t5 t6 hx' hhd hm hmr hkm S hl1 hl2 hl3 cR cH m1 m2 z1 z2 z3 z4
            by_cases hj0 : 0 < j
            · by_cases hk0 : 0 < k
              · by_cases hhk : hd ≤ (k : Int)
                · as_aux_lemma =>
                    obtain ⟨i1, hi1⟩ : ∃ i1 : Nat, (k : Int) - 1 = i1 := ⟨k - 1, by omega⟩
                    have hi1k : i1 < k := by omega
                    have hk0b : decide (0 < (k : Int)) = true := by simp; omega
                    obtain ⟨gB, cB, bB, oB, ccB, hBe, hcB, hvB, hccB⟩ := tab_form HS.out (i4 := 4) (iB := 2) rfl rfl HT1.out HO1.out hi1k (by omega)
                    obtain ⟨gE, cE, bE, oE, ccE, hEe, hcE, hvE, hccE⟩ := tab_form HS.out (i4 := 4) (iB := 3) rfl rfl HT2.out HO2.out hi1k (by omega)
                    cases hBe
                    cases hEe
                    have HVB := Lib.hid hvB
                    have HVE := Lib.hid hvE
                    have hx1 := HO1.out.at_ hM0 i1 j
                    have hx3 := HO2.out.at_ hM0 i1 j
                    clear hvB hvE
                    obtain ⟨i2, hi2⟩ : ∃ i2 : Nat, (k : Int) - hd = i2 := ⟨((k : Int) - hd).toNat, by omega⟩
                    have hi2k : i2 < k := by omega
                    obtain ⟨gE', cE', bE2, oE2, ccE2, hEe, _, hvE2, hccE2⟩ := tab_form HS.out (i4 := 4) (iB := 3) rfl rfl HT2.out HO2.out hi2k (by omega)
                    cases hEe
                    have HVE2 := Lib.hid hvE2
                    have hx2 := HO2.out.at_ hM0 i2 j
                    clear hvE2
                    have hhkb : decide (hd ≤ (k : Int)) = true := by simp; omega
                    obtain ⟨b1, hb1⟩ : ∃ b1, (if a < at2 T.b i1 j then at2 T.b i1 j else a) = b1 := ⟨_, rfl⟩
                    obtain ⟨b2, hb2⟩ : ∃ b2, (if b1 < at2 T.e i2 j then at2 T.e i2 j else b1) = b2 := ⟨_, rfl⟩
                    obtain ⟨e, he⟩ : ∃ e, (if b2 + m < at2 T.e i1 j then at2 T.e i1 j else b2 + m) = e := ⟨_, rfl⟩
                    have HST := Lib.hid (playH_step HHD.out (beginF_2 hk0 hi1 hhk hhb.1 hi2 hb1 hb2) HMM.out (endF_1 hk0 hi1 he) HI.out)
                    have q1 : 0 ≤ b1 ∧ b1 ≤ 10000 + 360000 * k + 10000 * j := by rw [← hb1]; split <;> omega
                    have q2 : 0 ≤ b2 ∧ b2 ≤ 10000 + 360000 * k + 10000 * j := by rw [← hb2]; split <;> omega
                    have q3 : 0 ≤ e ∧ e ≤ 10000 + 360000 * k + 10000 * (j + 1) := by rw [← he]; split <;> omega
                    obtain ⟨jp, hjp⟩ : ∃ jp : Nat, (j : Int) - 1 = jp := ⟨j - 1, by omega⟩
                    have hjpn : jp < hn := by omega
                    have e7 : wr.cell? ⟨g3, jp, none⟩ = some (.int .i64 a) := by
                      rw [(row_cell HS.out (i := 7) rfl hjpn).1, pad_at (by have := HL.out.2.2; omega), HA.out, if_neg (by omega), show j - 1 = jp by omega]
                    have hj0b : decide (0 < (j : Int)) = true := by simp; omega
                    have k0 := HS.out.blk_cell (i := 0) rfl 0
                    have k1 := HS.out.blk_cell (i := 0) rfl 1
                    have k2 := HS.out.blk_cell (i := 0) rfl 2
                    obtain ⟨cR, cH, m1, m2⟩ := HOLD.out _ HS.out.bel
                    obtain ⟨c5, f5⟩ := row_cell HS.out (i := 5) rfl hjl
                    obtain ⟨c6, f6⟩ := row_cell HS.out (i := 6) rfl hjl
                    obtain ⟨c7, f7⟩ := row_cell HS.out (i := 7) rfl hjl
                    go_wp2_with fail
                    have SA := ((HS.out.row_set (i := 5) rfl j (.int .i64 x')).row_set (i := 5) rfl j (.int .i64 a)).row_set (i := 6) rfl j (.int .i64 a)
                    simp only [List.set_cons_zero, List.set_cons_succ, ints_set] at SA
                    rw [pad_set HL.out.1 hjl, pad_set2 HL.out.1, pad_set HL.out.2.1 hjl] at SA
                    generalize ((wr.setCell ⟨g1, j, none⟩ (.int .i64 x')).setCell ⟨g1, j, none⟩ (.int .i64 a)).setCell ⟨g2, j, none⟩ (.int .i64 a) = wA at SA ⊢
                    clear k0 k1 k2 cR cH m1 m2 c5 f5 c6 f6 c7 f7 e7
                    have HSA := Lib.hid SA
                    have k0 := SA.blk_cell (i := 0) rfl 0
                    have k1 := SA.blk_cell (i := 0) rfl 1
                    have k2 := SA.blk_cell (i := 0) rfl 2
                    obtain ⟨cR, cH, m1, m2⟩ := HOLD.out _ SA.bel
                    obtain ⟨c5, f5⟩ := row_cell SA (i := 5) rfl hjl
                    obtain ⟨c6, f6⟩ := row_cell SA (i := 6) rfl hjl
                    obtain ⟨c7, f7⟩ := row_cell SA (i := 7) rfl hjl
                    rw [pad_last HL.out.2.1] at c6
                    clear c5 f5 c6 f6 c7 f7 k0 k1 k2 cR cH m1 m2
                    obtain ⟨f1, f1'⟩ := tab_cell SA (i4 := 4) (iB := 2) rfl rfl HT1.out HO1.out HVB.out hjl
                    obtain ⟨c6, _⟩ := row_cell SA (i := 6) rfl hjl
                    rw [pad_last HL.out.2.1] at c6
                    clear SA
                    refine wp_cls 16 (fun w' => ∃ n, w' = wA.drewN n) (by kernel_rfl) (by kernel_rfl) ⟨1, rfl⟩ ?_
                    simp only [List.take_succ_cons, List.take_zero, List.drop_succ_cons, List.drop_zero]
                    generalize hK : (fun w' => ∃ n, w' = wA.drewN n) = K
                    intro hne
                    have kw : ∀ y : Wd K, ∃ n, y.w = wA.drewN n := by subst hK; exact fun y => y.h
                    have y0 : ∀ y : Wd K, y.w.cell? ⟨g2, j, none⟩ = some (.int .i64 a) := fun y => by obtain ⟨n, e⟩ := kw y; rw [e]; exact c6
                    have y1 : ∀ y : Wd K, y.w.cell? ⟨gB, i1, none⟩ = some (.slice (some ⟨bB, oB, none⟩) hn ccB) := fun y => by obtain ⟨n, e⟩ := kw y; rw [e]; exact f1
                    have y2 : ∀ y : Wd K, y.w.cell? ⟨bB, oB + j, none⟩ = some (.int .i64 (at2 T.b i1 j)) := fun y => by obtain ⟨n, e⟩ := kw y; rw [e]; exact f1'
                    clear hK c6 f1 f1'
                    repeat (go_big_quiet_step ((fail)))
                    refine wpQuiet_nil ?_
                    intro y
                    obtain ⟨nn, hyn⟩ := kw y
                    have SY := HSA.out.drewN nn
                    rw [← hyn] at SY
                    clear y0 y1 y2 kw hyn hne
                    generalize y.w = wY1 at SY ⊢
                    clear y
                    obtain ⟨cY, fY⟩ := row_cell SY (i := 6) rfl hjl
                    have HSY := Lib.hid SY
                    clear SY
                    rw [pad_last HL.out.2.1] at cY
                    have kY2 := HSY.out.blk_cell (i := 0) rfl 2
                    obtain ⟨_, cHY, _, _⟩ := HOLD.out _ HSY.out.bel
                    go_wp2_with fail
                    clear kY2 cHY
                    clear cY fY
                    have SB1 := HSY.out.row_set (i := 6) rfl j (.int .i64 b1)
                    simp only [List.set_cons_zero, List.set_cons_succ, ints_set] at SB1
                    rw [pad_set2 HL.out.2.1] at SB1
                    generalize wY1.setCell ⟨g2, j, none⟩ (.int .i64 b1) = wB1 at SB1 ⊢
                    have HSB1 := Lib.hid SB1
                    clear SB1
                    have k2 := HSB1.out.blk_cell (i := 0) rfl 2
                    obtain ⟨_, cH, _, _⟩ := HOLD.out _ HSB1.out.bel
                    obtain ⟨f2, f2'⟩ := tab_cell HSB1.out (i4 := 4) (iB := 3) rfl rfl HT2.out HO2.out HVE2.out hjl
                    obtain ⟨c6, _⟩ := row_cell HSB1.out (i := 6) rfl hjl
                    rw [pad_last HL.out.2.1] at c6
                    refine wp_cls 21 (fun w' => ∃ n, w' = wB1.drewN n) (by kernel_rfl) (by kernel_rfl) ⟨1, rfl⟩ ?_
                    simp only [List.take_succ_cons, List.take_zero, List.drop_succ_cons, List.drop_zero]
                    generalize hK : (fun w' => ∃ n, w' = wB1.drewN n) = K
                    intro hne
                    have kw : ∀ y : Wd K, ∃ n, y.w = wB1.drewN n := by subst hK; exact fun y => y.h
                    have y0 : ∀ y : Wd K, y.w.cell? ⟨g2, j, none⟩ = some (.int .i64 b1) := fun y => by obtain ⟨n, e⟩ := kw y; rw [e]; exact c6
                    have y1 : ∀ y : Wd K, y.w.cell? ⟨gp, 2, none⟩ = some (.slice (some ⟨bh, oh, none⟩) hn ch) := fun y => by obtain ⟨n, e⟩ := kw y; rw [e]; exact k2
                    have y2 : ∀ y : Wd K, y.w.cell? ⟨bh, oh + j, none⟩ = some (.int .i64 hd) := fun y => by obtain ⟨n, e⟩ := kw y; rw [e]; exact cH
                    have y3 : ∀ y : Wd K, y.w.cell? ⟨gE, i2, none⟩ = some (.slice (some ⟨bE2, oE2, none⟩) hn ccE2) := fun y => by obtain ⟨n, e⟩ := kw y; rw [e]; exact f2
                    have y4 : ∀ y : Wd K, y.w.cell? ⟨bE2, oE2 + j, none⟩ = some (.int .i64 (at2 T.e i2 j)) := fun y => by obtain ⟨n, e⟩ := kw y; rw [e]; exact f2'
                    clear hK c6 k2 cH f2 f2'
                    repeat (go_big_quiet_step ((fail)))
                    refine wpQuiet_nil ?_
                    intro y
                    obtain ⟨nn, hyn⟩ := kw y
                    have SY := HSB1.out.drewN nn
                    rw [← hyn] at SY
                    clear y0 y1 y2 y3 y4 kw hyn hne
                    generalize y.w = wY2 at SY ⊢
                    clear y
                    obtain ⟨cY, fY⟩ := row_cell SY (i := 6) rfl hjl
                    have HSY := Lib.hid SY
                    clear SY
                    rw [pad_last HL.out.2.1] at cY
                    go_wp2_with fail
                    clear cY fY
                    have SB2 := HSY.out.row_set (i := 6) rfl j (.int .i64 b2)
                    simp only [List.set_cons_zero, List.set_cons_succ, ints_set] at SB2
                    rw [pad_set2 HL.out.2.1] at SB2
                    generalize wY2.setCell ⟨g2, j, none⟩ (.int .i64 b2) = wB2 at SB2 ⊢
                    have HSB2 := Lib.hid SB2
                    clear SB2
                    have k1 := HSB2.out.blk_cell (i := 0) rfl 1
                    obtain ⟨_, _, m1, m2⟩ := HOLD.out _ HSB2.out.bel
                    obtain ⟨c6, _⟩ := row_cell HSB2.out (i := 6) rfl hjl
                    rw [pad_last HL.out.2.1] at c6
                    refine wp_cls 16 (fun w' => ∃ n, w' = wB2.drewN n) (by kernel_rfl) (by kernel_rfl) ⟨1, rfl⟩ ?_
                    simp only [List.take_succ_cons, List.take_zero, List.drop_succ_cons, List.drop_zero]
                    generalize hK : (fun w' => ∃ n, w' = wB2.drewN n) = K
                    intro hne
                    have kw : ∀ y : Wd K, ∃ n, y.w = wB2.drewN n := by subst hK; exact fun y => y.h
                    have y0 : ∀ y : Wd K, y.w.cell? ⟨g2, j, none⟩ = some (.int .i64 b2) := fun y => by obtain ⟨n, e⟩ := kw y; rw [e]; exact c6
                    have y1 : ∀ y : Wd K, y.w.cell? ⟨gp, 1, none⟩ = some (.slice (some ⟨bm, om, none⟩) mn cm) := fun y => by obtain ⟨n, e⟩ := kw y; rw [e]; exact k1
                    have y2 : ∀ y : Wd K, y.w.cell? ⟨bm, om + k, none⟩ = some (.slice (some ⟨bm2, om2, none⟩) hn cm2) := fun y => by obtain ⟨n, e⟩ := kw y; rw [e]; exact m1
                    have y3 : ∀ y : Wd K, y.w.cell? ⟨bm2, om2 + j, none⟩ = some (.int .i64 m) := fun y => by obtain ⟨n, e⟩ := kw y; rw [e]; exact m2
                    clear hK c6 k1 m1 m2
                    repeat (go_big_quiet_step ((fail)))
                    refine wpQuiet_nil ?_
                    intro y
                    obtain ⟨nn, hyn⟩ := kw y
                    have SY := HSB2.out.drewN nn
                    rw [← hyn] at SY
                    clear y0 y1 y2 y3 kw hyn hne
                    generalize y.w = wY3 at SY ⊢
                    clear y
                    obtain ⟨cY, fY⟩ := row_cell SY (i := 7) rfl hjl
                    have HSY := Lib.hid SY
                    clear SY
                    go_wp2_with fail
                    clear cY fY
                    have SB3 := HSY.out.row_set (i := 7) rfl j (.int .i64 (b2 + m))
                    simp only [List.set_cons_zero, List.set_cons_succ, ints_set] at SB3
                    rw [pad_set HL.out.2.2 hjl] at SB3
                    generalize wY3.setCell ⟨g3, j, none⟩ (.int .i64 (b2 + m)) = wB3 at SB3 ⊢
                    have HSB3 := Lib.hid SB3
                    obtain ⟨f3, f3'⟩ := tab_cell SB3 (i4 := 4) (iB := 3) rfl rfl HT2.out HO2.out HVE.out hjl
                    obtain ⟨c7, _⟩ := row_cell SB3 (i := 7) rfl hjl
                    rw [pad_last HL.out.2.2] at c7
                    clear SB3
                    refine wp_cls 16 (fun w' => ∃ n, w' = wB3.drewN n) (by kernel_rfl) (by kernel_rfl) ⟨1, rfl⟩ ?_
                    simp only [List.take_succ_cons, List.take_zero, List.drop_succ_cons, List.drop_zero]
                    generalize hK : (fun w' => ∃ n, w' = wB3.drewN n) = K
                    intro hne
                    have kw : ∀ y : Wd K, ∃ n, y.w = wB3.drewN n := by subst hK; exact fun y => y.h
                    have y0 : ∀ y : Wd K, y.w.cell? ⟨g3, j, none⟩ = some (.int .i64 (b2 + m)) := fun y => by obtain ⟨n, e⟩ := kw y; rw [e]; exact c7
                    have y1 : ∀ y : Wd K, y.w.cell? ⟨gE, i1, none⟩ = some (.slice (some ⟨bE, oE, none⟩) hn ccE) := fun y => by obtain ⟨n, e⟩ := kw y; rw [e]; exact f3
                    have y2 : ∀ y : Wd K, y.w.cell? ⟨bE, oE + j, none⟩ = some (.int .i64 (at2 T.e i1 j)) := fun y => by obtain ⟨n, e⟩ := kw y; rw [e]; exact f3'
                    clear hK c7 f3 f3'
                    repeat (go_big_quiet_step ((fail)))
                    refine wpQuiet_nil ?_
                    intro y
                    obtain ⟨nn, hyn⟩ := kw y
                    have SY := HSB3.out.drewN nn
                    rw [← hyn] at SY
                    clear y0 y1 y2 kw hyn hne
                    generalize y.w = wY4 at SY ⊢
                    clear y
                    obtain ⟨cY, fY⟩ := row_cell SY (i := 7) rfl hjl
                    have HSY := Lib.hid SY
                    clear SY
                    rw [pad_last HL.out.2.2] at cY
                    go_wp2_with fail
                    clear cY fY
                    have SB4 := HSY.out.row_set (i := 7) rfl j (.int .i64 e)
                    simp only [List.set_cons_zero, List.set_cons_succ, ints_set] at SB4
                    rw [pad_set2 HL.out.2.2] at SB4
                    generalize wY4.setCell ⟨g3, j, none⟩ (.int .i64 e) = wB4 at SB4 ⊢
                    have HSB4 := Lib.hid SB4
                    go_roundw
                    case rel =>
                      obtain ⟨hl1, hl2, hl3⟩ := HL.out
                      exact ⟨j + 1, cl ++ [a], bl ++ [b2], el ++ [e], e, by omega, by go_num, ⟨by simp [hl1], by simp [hl2], by simp [hl3]⟩, by omega, by omega, by show _ = _; rw [if_neg (by omega), Nat.add_sub_cancel, List.getD_eq_getElem?_getD, List.getElem?_append_right (by omega), hl3, Nat.sub_self]; rfl, HSB4.out, HST.out⟩
                    case measure => simp [intOf]; omega
                · as_aux_lemma =>
                    obtain ⟨i1, hi1⟩ : ∃ i1 : Nat, (k : Int) - 1 = i1 := ⟨k - 1, by omega⟩
                    have hi1k : i1 < k := by omega
                    have hk0b : decide (0 < (k : Int)) = true := by simp; omega
                    obtain ⟨gB, cB, bB, oB, ccB, hBe, hcB, hvB, hccB⟩ := tab_form HS.out (i4 := 4) (iB := 2) rfl rfl HT1.out HO1.out hi1k (by omega)
                    obtain ⟨gE, cE, bE, oE, ccE, hEe, hcE, hvE, hccE⟩ := tab_form HS.out (i4 := 4) (iB := 3) rfl rfl HT2.out HO2.out hi1k (by omega)
                    cases hBe
                    cases hEe
                    have HVB := Lib.hid hvB
                    have HVE := Lib.hid hvE
                    have hx1 := HO1.out.at_ hM0 i1 j
                    have hx3 := HO2.out.at_ hM0 i1 j
                    clear hvB hvE
                    have hhkb : decide (hd ≤ (k : Int)) = false := by simp; omega
                    obtain ⟨b1, hb1⟩ : ∃ b1, (if a < at2 T.b i1 j then at2 T.b i1 j else a) = b1 := ⟨_, rfl⟩
                    obtain ⟨e, he⟩ : ∃ e, (if b1 + m < at2 T.e i1 j then at2 T.e i1 j else b1 + m) = e := ⟨_, rfl⟩
                    have HST := Lib.hid (playH_step HHD.out (beginF_1 hk0 hi1 hhk hb1) HMM.out (endF_1 hk0 hi1 he) HI.out)
                    have q1 : 0 ≤ b1 ∧ b1 ≤ 10000 + 360000 * k + 10000 * j := by rw [← hb1]; split <;> omega
                    have q3 : 0 ≤ e ∧ e ≤ 10000 + 360000 * k + 10000 * (j + 1) := by rw [← he]; split <;> omega
                    clear hhk
                    obtain ⟨jp, hjp⟩ : ∃ jp : Nat, (j : Int) - 1 = jp := ⟨j - 1, by omega⟩
                    have hjpn : jp < hn := by omega
                    have e7 : wr.cell? ⟨g3, jp, none⟩ = some (.int .i64 a) := by
                      rw [(row_cell HS.out (i := 7) rfl hjpn).1, pad_at (by have := HL.out.2.2; omega), HA.out, if_neg (by omega), show j - 1 = jp by omega]
                    have hj0b : decide (0 < (j : Int)) = true := by simp; omega
                    have k0 := HS.out.blk_cell (i := 0) rfl 0
                    have k1 := HS.out.blk_cell (i := 0) rfl 1
                    have k2 := HS.out.blk_cell (i := 0) rfl 2
                    obtain ⟨cR, cH, m1, m2⟩ := HOLD.out _ HS.out.bel
                    obtain ⟨c5, f5⟩ := row_cell HS.out (i := 5) rfl hjl
                    obtain ⟨c6, f6⟩ := row_cell HS.out (i := 6) rfl hjl
                    obtain ⟨c7, f7⟩ := row_cell HS.out (i := 7) rfl hjl
                    go_wp2_with fail
                    have SA := ((HS.out.row_set (i := 5) rfl j (.int .i64 x')).row_set (i := 5) rfl j (.int .i64 a)).row_set (i := 6) rfl j (.int .i64 a)
                    simp only [List.set_cons_zero, List.set_cons_succ, ints_set] at SA
                    rw [pad_set HL.out.1 hjl, pad_set2 HL.out.1, pad_set HL.out.2.1 hjl] at SA
                    generalize ((wr.setCell ⟨g1, j, none⟩ (.int .i64 x')).setCell ⟨g1, j, none⟩ (.int .i64 a)).setCell ⟨g2, j, none⟩ (.int .i64 a) = wA at SA ⊢
                    clear k0 k1 k2 cR cH m1 m2 c5 f5 c6 f6 c7 f7 e7
                    have HSA := Lib.hid SA
                    have k0 := SA.blk_cell (i := 0) rfl 0
                    have k1 := SA.blk_cell (i := 0) rfl 1
                    have k2 := SA.blk_cell (i := 0) rfl 2
                    obtain ⟨cR, cH, m1, m2⟩ := HOLD.out _ SA.bel
                    obtain ⟨c5, f5⟩ := row_cell SA (i := 5) rfl hjl
                    obtain ⟨c6, f6⟩ := row_cell SA (i := 6) rfl hjl
                    obtain ⟨c7, f7⟩ := row_cell SA (i := 7) rfl hjl
                    rw [pad_last HL.out.2.1] at c6
                    clear c5 f5 c6 f6 c7 f7 k0 k1 k2 cR cH m1 m2
                    obtain ⟨f1, f1'⟩ := tab_cell SA (i4 := 4) (iB := 2) rfl rfl HT1.out HO1.out HVB.out hjl
                    obtain ⟨c6, _⟩ := row_cell SA (i := 6) rfl hjl
                    rw [pad_last HL.out.2.1] at c6
                    clear SA
                    refine wp_cls 16 (fun w' => ∃ n, w' = wA.drewN n) (by kernel_rfl) (by kernel_rfl) ⟨1, rfl⟩ ?_
                    simp only [List.take_succ_cons, List.take_zero, List.drop_succ_cons, List.drop_zero]
                    generalize hK : (fun w' => ∃ n, w' = wA.drewN n) = K
                    intro hne
                    have kw : ∀ y : Wd K, ∃ n, y.w = wA.drewN n := by subst hK; exact fun y => y.h
                    have y0 : ∀ y : Wd K, y.w.cell? ⟨g2, j, none⟩ = some (.int .i64 a) := fun y => by obtain ⟨n, e⟩ := kw y; rw [e]; exact c6
                    have y1 : ∀ y : Wd K, y.w.cell? ⟨gB, i1, none⟩ = some (.slice (some ⟨bB, oB, none⟩) hn ccB) := fun y => by obtain ⟨n, e⟩ := kw y; rw [e]; exact f1
                    have y2 : ∀ y : Wd K, y.w.cell? ⟨bB, oB + j, none⟩ = some (.int .i64 (at2 T.b i1 j)) := fun y => by obtain ⟨n, e⟩ := kw y; rw [e]; exact f1'
                    clear hK c6 f1 f1'
                    repeat (go_big_quiet_step ((fail)))
                    refine wpQuiet_nil ?_
                    intro y
                    obtain ⟨nn, hyn⟩ := kw y
                    have SY := HSA.out.drewN nn
                    rw [← hyn] at SY
                    clear y0 y1 y2 kw hyn hne
                    generalize y.w = wY1 at SY ⊢
                    clear y
                    obtain ⟨cY, fY⟩ := row_cell SY (i := 6) rfl hjl
                    have HSY := Lib.hid SY
                    clear SY
                    rw [pad_last HL.out.2.1] at cY
                    have kY2 := HSY.out.blk_cell (i := 0) rfl 2
                    obtain ⟨_, cHY, _, _⟩ := HOLD.out _ HSY.out.bel
                    go_wp2_with fail
                    clear kY2 cHY
                    clear cY fY
                    have SB1 := HSY.out.row_set (i := 6) rfl j (.int .i64 b1)
                    simp only [List.set_cons_zero, List.set_cons_succ, ints_set] at SB1
                    rw [pad_set2 HL.out.2.1] at SB1
                    generalize wY1.setCell ⟨g2, j, none⟩ (.int .i64 b1) = wB1 at SB1 ⊢
                    have HSB1 := Lib.hid SB1
                    clear SB1
                    have k1 := HSB1.out.blk_cell (i := 0) rfl 1
                    obtain ⟨_, _, m1, m2⟩ := HOLD.out _ HSB1.out.bel
                    obtain ⟨c6, _⟩ := row_cell HSB1.out (i := 6) rfl hjl
                    rw [pad_last HL.out.2.1] at c6
                    refine wp_cls 16 (fun w' => ∃ n, w' = wB1.drewN n) (by kernel_rfl) (by kernel_rfl) ⟨1, rfl⟩ ?_
                    simp only [List.take_succ_cons, List.take_zero, List.drop_succ_cons, List.drop_zero]
                    generalize hK : (fun w' => ∃ n, w' = wB1.drewN n) = K
                    intro hne
                    have kw : ∀ y : Wd K, ∃ n, y.w = wB1.drewN n := by subst hK; exact fun y => y.h
                    have y0 : ∀ y : Wd K, y.w.cell? ⟨g2, j, none⟩ = some (.int .i64 b1) := fun y => by obtain ⟨n, e⟩ := kw y; rw [e]; exact c6
                    have y1 : ∀ y : Wd K, y.w.cell? ⟨gp, 1, none⟩ = some (.slice (some ⟨bm, om, none⟩) mn cm) := fun y => by obtain ⟨n, e⟩ := kw y; rw [e]; exact k1
                    have y2 : ∀ y : Wd K, y.w.cell? ⟨bm, om + k, none⟩ = some (.slice (some ⟨bm2, om2, none⟩) hn cm2) := fun y => by obtain ⟨n, e⟩ := kw y; rw [e]; exact m1
                    have y3 : ∀ y : Wd K, y.w.cell? ⟨bm2, om2 + j, none⟩ = some (.int .i64 m) := fun y => by obtain ⟨n, e⟩ := kw y; rw [e]; exact m2
                    clear hK c6 k1 m1 m2
                    repeat (go_big_quiet_step ((fail)))
                    refine wpQuiet_nil ?_
                    intro y
                    obtain ⟨nn, hyn⟩ := kw y
                    have SY := HSB1.out.drewN nn
                    rw [← hyn] at SY
                    clear y0 y1 y2 y3 kw hyn hne
                    generalize y.w = wY2 at SY ⊢
                    clear y
                    obtain ⟨cY, fY⟩ := row_cell SY (i := 7) rfl hjl
                    have HSY := Lib.hid SY
                    clear SY
                    go_wp2_with fail
                    clear cY fY
                    have SB2 := HSY.out.row_set (i := 7) rfl j (.int .i64 (b1 + m))
                    simp only [List.set_cons_zero, List.set_cons_succ, ints_set] at SB2
                    rw [pad_set HL.out.2.2 hjl] at SB2
                    generalize wY2.setCell ⟨g3, j, none⟩ (.int .i64 (b1 + m)) = wB2 at SB2 ⊢
                    have HSB2 := Lib.hid SB2
                    obtain ⟨f3, f3'⟩ := tab_cell SB2 (i4 := 4) (iB := 3) rfl rfl HT2.out HO2.out HVE.out hjl
                    obtain ⟨c7, _⟩ := row_cell SB2 (i := 7) rfl hjl
                    rw [pad_last HL.out.2.2] at c7
                    clear SB2
                    refine wp_cls 16 (fun w' => ∃ n, w' = wB2.drewN n) (by kernel_rfl) (by kernel_rfl) ⟨1, rfl⟩ ?_
                    simp only [List.take_succ_cons, List.take_zero, List.drop_succ_cons, List.drop_zero]
                    generalize hK : (fun w' => ∃ n, w' = wB2.drewN n) = K
                    intro hne
                    have kw : ∀ y : Wd K, ∃ n, y.w = wB2.drewN n := by subst hK; exact fun y => y.h
                    have y0 : ∀ y : Wd K, y.w.cell? ⟨g3, j, none⟩ = some (.int .i64 (b1 + m)) := fun y => by obtain ⟨n, e⟩ := kw y; rw [e]; exact c7
                    have y1 : ∀ y : Wd K, y.w.cell? ⟨gE, i1, none⟩ = some (.slice (some ⟨bE, oE, none⟩) hn ccE) := fun y => by obtain ⟨n, e⟩ := kw y; rw [e]; exact f3
                    have y2 : ∀ y : Wd K, y.w.cell? ⟨bE, oE + j, none⟩ = some (.int .i64 (at2 T.e i1 j)) := fun y => by obtain ⟨n, e⟩ := kw y; rw [e]; exact f3'
                    clear hK c7 f3 f3'
                    repeat (go_big_quiet_step ((fail)))
                    refine wpQuiet_nil ?_
                    intro y
                    obtain ⟨nn, hyn⟩ := kw y
                    have SY := HSB2.out.drewN nn
                    rw [← hyn] at SY
                    clear y0 y1 y2 kw hyn hne
                    generalize y.w = wY3 at SY ⊢
                    clear y
                    obtain ⟨cY, fY⟩ := row_cell SY (i := 7) rfl hjl
                    have HSY := Lib.hid SY
                    clear SY
                    rw [pad_last HL.out.2.2] at cY
                    go_wp2_with fail
                    clear cY fY
                    have SB3 := HSY.out.row_set (i := 7) rfl j (.int .i64 e)
                    simp only [List.set_cons_zero, List.set_cons_succ, ints_set] at SB3
                    rw [pad_set2 HL.out.2.2] at SB3
                    generalize wY3.setCell ⟨g3, j, none⟩ (.int .i64 e) = wB3 at SB3 ⊢
                    have HSB3 := Lib.hid SB3
                    go_roundw
                    case rel =>
                      obtain ⟨hl1, hl2, hl3⟩ := HL.out
                      exact ⟨j + 1, cl ++ [a], bl ++ [b1], el ++ [e], e, by omega, by go_num, ⟨by simp [hl1], by simp [hl2], by simp [hl3]⟩, by omega, by omega, by show _ = _; rw [if_neg (by omega), Nat.add_sub_cancel, List.getD_eq_getElem?_getD, List.getElem?_append_right (by omega), hl3, Nat.sub_self]; rfl, HSB3.out, HST.out⟩
                    case measure => simp [intOf]; omega
              · as_aux_lemma =>
                  have hk00 : k = 0 := by omega
                  have hk0b : decide (0 < (k : Int)) = false := by simp; omega
                  have hk0c : decide (0 < k) = false := by simp; omega
                  have hhkb : decide (hd ≤ (k : Int)) = false := by simp; omega
                  have HST : Hid (_ ∧ _ ∧ _) := Lib.hid (playH_step (b := a) (e := a + m) HHD.out (by rw [hk00]; exact beginF_0 hhb.1) HMM.out (by rw [hk00]; exact endF_0) HI.out)
                  clear hk0 hk00
                  obtain ⟨jp, hjp⟩ : ∃ jp : Nat, (j : Int) - 1 = jp := ⟨j - 1, by omega⟩
                  have hjpn : jp < hn := by omega
                  have e7 : wr.cell? ⟨g3, jp, none⟩ = some (.int .i64 a) := by
                    rw [(row_cell HS.out (i := 7) rfl hjpn).1, pad_at (by have := HL.out.2.2; omega), HA.out, if_neg (by omega), show j - 1 = jp by omega]
                  have hj0b : decide (0 < (j : Int)) = true := by simp; omega
                  have k0 := HS.out.blk_cell (i := 0) rfl 0
                  have k1 := HS.out.blk_cell (i := 0) rfl 1
                  have k2 := HS.out.blk_cell (i := 0) rfl 2
                  obtain ⟨cR, cH, m1, m2⟩ := HOLD.out _ HS.out.bel
                  obtain ⟨c5, f5⟩ := row_cell HS.out (i := 5) rfl hjl
                  obtain ⟨c6, f6⟩ := row_cell HS.out (i := 6) rfl hjl
                  obtain ⟨c7, f7⟩ := row_cell HS.out (i := 7) rfl hjl
                  go_wp2_with fail
                  have SA := ((HS.out.row_set (i := 5) rfl j (.int .i64 x')).row_set (i := 5) rfl j (.int .i64 a)).row_set (i := 6) rfl j (.int .i64 a)
                  simp only [List.set_cons_zero, List.set_cons_succ, ints_set] at SA
                  rw [pad_set HL.out.1 hjl, pad_set2 HL.out.1, pad_set HL.out.2.1 hjl] at SA
                  generalize ((wr.setCell ⟨g1, j, none⟩ (.int .i64 x')).setCell ⟨g1, j, none⟩ (.int .i64 a)).setCell ⟨g2, j, none⟩ (.int .i64 a) = wA at SA ⊢
                  clear k0 k1 k2 cR cH m1 m2 c5 f5 c6 f6 c7 f7 e7
                  have HSA := Lib.hid SA
                  have k0 := SA.blk_cell (i := 0) rfl 0
                  have k1 := SA.blk_cell (i := 0) rfl 1
                  have k2 := SA.blk_cell (i := 0) rfl 2
                  obtain ⟨cR, cH, m1, m2⟩ := HOLD.out _ SA.bel
                  obtain ⟨c5, f5⟩ := row_cell SA (i := 5) rfl hjl
                  obtain ⟨c6, f6⟩ := row_cell SA (i := 6) rfl hjl
                  obtain ⟨c7, f7⟩ := row_cell SA (i := 7) rfl hjl
                  rw [pad_last HL.out.2.1] at c6
                  clear c5 f5 c6 f6 c7 f7 k0 k1 k2 cR cH m1 m2
                  clear SA
                  have k1 := HSA.out.blk_cell (i := 0) rfl 1
                  obtain ⟨_, _, m1, m2⟩ := HOLD.out _ HSA.out.bel
                  obtain ⟨c6, _⟩ := row_cell HSA.out (i := 6) rfl hjl
                  rw [pad_last HL.out.2.1] at c6
                  refine wp_cls 16 (fun w' => ∃ n, w' = wA.drewN n) (by kernel_rfl) (by kernel_rfl) ⟨1, rfl⟩ ?_
                  simp only [List.take_succ_cons, List.take_zero, List.drop_succ_cons, List.drop_zero]
                  generalize hK : (fun w' => ∃ n, w' = wA.drewN n) = K
                  intro hne
                  have kw : ∀ y : Wd K, ∃ n, y.w = wA.drewN n := by subst hK; exact fun y => y.h
                  have y0 : ∀ y : Wd K, y.w.cell? ⟨g2, j, none⟩ = some (.int .i64 a) := fun y => by obtain ⟨n, e⟩ := kw y; rw [e]; exact c6
                  have y1 : ∀ y : Wd K, y.w.cell? ⟨gp, 1, none⟩ = some (.slice (some ⟨bm, om, none⟩) mn cm) := fun y => by obtain ⟨n, e⟩ := kw y; rw [e]; exact k1
                  have y2 : ∀ y : Wd K, y.w.cell? ⟨bm, om + k, none⟩ = some (.slice (some ⟨bm2, om2, none⟩) hn cm2) := fun y => by obtain ⟨n, e⟩ := kw y; rw [e]; exact m1
                  have y3 : ∀ y : Wd K, y.w.cell? ⟨bm2, om2 + j, none⟩ = some (.int .i64 m) := fun y => by obtain ⟨n, e⟩ := kw y; rw [e]; exact m2
                  clear hK c6 k1 m1 m2
                  repeat (go_big_quiet_step ((fail)))
                  refine wpQuiet_nil ?_
                  intro y
                  obtain ⟨nn, hyn⟩ := kw y
                  have SY := HSA.out.drewN nn
                  rw [← hyn] at SY
                  clear y0 y1 y2 y3 kw hyn hne
                  generalize y.w = wY1 at SY ⊢
                  clear y
                  obtain ⟨cY, fY⟩ := row_cell SY (i := 7) rfl hjl
                  have HSY := Lib.hid SY
                  clear SY
                  go_wp2_with fail
                  clear cY fY
                  have SB1 := HSY.out.row_set (i := 7) rfl j (.int .i64 (a + m))
                  simp only [List.set_cons_zero, List.set_cons_succ, ints_set] at SB1
                  rw [pad_set HL.out.2.2 hjl] at SB1
                  generalize wY1.setCell ⟨g3, j, none⟩ (.int .i64 (a + m)) = wB1 at SB1 ⊢
                  have HSB1 := Lib.hid SB1
                  go_roundw
                  case rel =>
                    obtain ⟨hl1, hl2, hl3⟩ := HL.out
                    exact ⟨j + 1, cl ++ [a], bl ++ [a], el ++ [(a + m)], (a + m), by omega, by go_num, ⟨by simp [hl1], by simp [hl2], by simp [hl3]⟩, by omega, by omega, by show _ = _; rw [if_neg (by omega), Nat.add_sub_cancel, List.getD_eq_getElem?_getD, List.getElem?_append_right (by omega), hl3, Nat.sub_self]; rfl, HSB1.out, HST.out⟩
                  case measure => simp [intOf]; omega
            · by_cases hk0 : 0 < k
              · by_cases hhk : hd ≤ (k : Int)
                · as_aux_lemma =>
                    obtain ⟨i1, hi1⟩ : ∃ i1 : Nat, (k : Int) - 1 = i1 := ⟨k - 1, by omega⟩
                    have hi1k : i1 < k := by omega
                    have hk0b : decide (0 < (k : Int)) = true := by simp; omega
                    obtain ⟨gB, cB, bB, oB, ccB, hBe, hcB, hvB, hccB⟩ := tab_form HS.out (i4 := 4) (iB := 2) rfl rfl HT1.out HO1.out hi1k (by omega)
                    obtain ⟨gE, cE, bE, oE, ccE, hEe, hcE, hvE, hccE⟩ := tab_form HS.out (i4 := 4) (iB := 3) rfl rfl HT2.out HO2.out hi1k (by omega)
                    cases hBe
                    cases hEe
                    have HVB := Lib.hid hvB
                    have HVE := Lib.hid hvE
                    have hx1 := HO1.out.at_ hM0 i1 j
                    have hx3 := HO2.out.at_ hM0 i1 j
                    clear hvB hvE
                    obtain ⟨i2, hi2⟩ : ∃ i2 : Nat, (k : Int) - hd = i2 := ⟨((k : Int) - hd).toNat, by omega⟩
                    have hi2k : i2 < k := by omega
                    obtain ⟨gE', cE', bE2, oE2, ccE2, hEe, _, hvE2, hccE2⟩ := tab_form HS.out (i4 := 4) (iB := 3) rfl rfl HT2.out HO2.out hi2k (by omega)
                    cases hEe
                    have HVE2 := Lib.hid hvE2
                    have hx2 := HO2.out.at_ hM0 i2 j
                    clear hvE2
                    have hhkb : decide (hd ≤ (k : Int)) = true := by simp; omega
                    obtain ⟨b1, hb1⟩ : ∃ b1, (if a < at2 T.b i1 j then at2 T.b i1 j else a) = b1 := ⟨_, rfl⟩
                    obtain ⟨b2, hb2⟩ : ∃ b2, (if b1 < at2 T.e i2 j then at2 T.e i2 j else b1) = b2 := ⟨_, rfl⟩
                    obtain ⟨e, he⟩ : ∃ e, (if b2 + m < at2 T.e i1 j then at2 T.e i1 j else b2 + m) = e := ⟨_, rfl⟩
                    have HST := Lib.hid (playH_step HHD.out (beginF_2 hk0 hi1 hhk hhb.1 hi2 hb1 hb2) HMM.out (endF_1 hk0 hi1 he) HI.out)
                    have q1 : 0 ≤ b1 ∧ b1 ≤ 10000 + 360000 * k + 10000 * j := by rw [← hb1]; split <;> omega
                    have q2 : 0 ≤ b2 ∧ b2 ≤ 10000 + 360000 * k + 10000 * j := by rw [← hb2]; split <;> omega
                    have q3 : 0 ≤ e ∧ e ≤ 10000 + 360000 * k + 10000 * (j + 1) := by rw [← he]; split <;> omega
                    have hj00 : j = 0 := by omega
                    have hax : a = x' := by rw [HA.out, if_pos hj00]
                    have hj0b : decide (0 < (j : Int)) = false := by simp; omega
                    have hj0c : decide (0 < j) = false := by simp; omega
                    have k0 := HS.out.blk_cell (i := 0) rfl 0
                    have k1 := HS.out.blk_cell (i := 0) rfl 1
                    have k2 := HS.out.blk_cell (i := 0) rfl 2
                    obtain ⟨cR, cH, m1, m2⟩ := HOLD.out _ HS.out.bel
                    obtain ⟨c5, f5⟩ := row_cell HS.out (i := 5) rfl hjl
                    obtain ⟨c6, f6⟩ := row_cell HS.out (i := 6) rfl hjl
                    obtain ⟨c7, f7⟩ := row_cell HS.out (i := 7) rfl hjl
                    clear hj0 hj00
                    go_wp2_with fail
                    have SA := (HS.out.row_set (i := 5) rfl j (.int .i64 x')).row_set (i := 6) rfl j (.int .i64 x')
                    simp only [List.set_cons_zero, List.set_cons_succ, ints_set] at SA
                    rw [pad_set HL.out.1 hjl, pad_set HL.out.2.1 hjl] at SA
                    generalize (wr.setCell ⟨g1, j, none⟩ (.int .i64 x')).setCell ⟨g2, j, none⟩ (.int .i64 x') = wA at SA ⊢
                    rw [← hax] at SA
                    subst hax
                    clear k0 k1 k2 cR cH m1 m2 c5 f5 c6 f6 c7 f7
                    have HSA := Lib.hid SA
                    have k0 := SA.blk_cell (i := 0) rfl 0
                    have k1 := SA.blk_cell (i := 0) rfl 1
                    have k2 := SA.blk_cell (i := 0) rfl 2
                    obtain ⟨cR, cH, m1, m2⟩ := HOLD.out _ SA.bel
                    obtain ⟨c5, f5⟩ := row_cell SA (i := 5) rfl hjl
                    obtain ⟨c6, f6⟩ := row_cell SA (i := 6) rfl hjl
                    obtain ⟨c7, f7⟩ := row_cell SA (i := 7) rfl hjl
                    rw [pad_last HL.out.2.1] at c6
                    clear c5 f5 c6 f6 c7 f7 k0 k1 k2 cR cH m1 m2
                    obtain ⟨f1, f1'⟩ := tab_cell SA (i4 := 4) (iB := 2) rfl rfl HT1.out HO1.out HVB.out hjl
                    obtain ⟨c6, _⟩ := row_cell SA (i := 6) rfl hjl
                    rw [pad_last HL.out.2.1] at c6
                    clear SA
                    refine wp_cls 16 (fun w' => ∃ n, w' = wA.drewN n) (by kernel_rfl) (by kernel_rfl) ⟨1, rfl⟩ ?_
                    simp only [List.take_succ_cons, List.take_zero, List.drop_succ_cons, List.drop_zero]
                    generalize hK : (fun w' => ∃ n, w' = wA.drewN n) = K
                    intro hne
                    have kw : ∀ y : Wd K, ∃ n, y.w = wA.drewN n := by subst hK; exact fun y => y.h
                    have y0 : ∀ y : Wd K, y.w.cell? ⟨g2, j, none⟩ = some (.int .i64 a) := fun y => by obtain ⟨n, e⟩ := kw y; rw [e]; exact c6
                    have y1 : ∀ y : Wd K, y.w.cell? ⟨gB, i1, none⟩ = some (.slice (some ⟨bB, oB, none⟩) hn ccB) := fun y => by obtain ⟨n, e⟩ := kw y; rw [e]; exact f1
                    have y2 : ∀ y : Wd K, y.w.cell? ⟨bB, oB + j, none⟩ = some (.int .i64 (at2 T.b i1 j)) := fun y => by obtain ⟨n, e⟩ := kw y; rw [e]; exact f1'
                    clear hK c6 f1 f1'
                    repeat (go_big_quiet_step ((fail)))
                    refine wpQuiet_nil ?_
                    intro y
                    obtain ⟨nn, hyn⟩ := kw y
                    have SY := HSA.out.drewN nn
                    rw [← hyn] at SY
                    clear y0 y1 y2 kw hyn hne
                    generalize y.w = wY1 at SY ⊢
                    clear y
                    obtain ⟨cY, fY⟩ := row_cell SY (i := 6) rfl hjl
                    have HSY := Lib.hid SY
                    clear SY
                    rw [pad_last HL.out.2.1] at cY
                    have kY2 := HSY.out.blk_cell (i := 0) rfl 2
                    obtain ⟨_, cHY, _, _⟩ := HOLD.out _ HSY.out.bel
                    go_wp2_with fail
                    clear kY2 cHY
                    clear cY fY
                    have SB1 := HSY.out.row_set (i := 6) rfl j (.int .i64 b1)
                    simp only [List.set_cons_zero, List.set_cons_succ, ints_set] at SB1
                    rw [pad_set2 HL.out.2.1] at SB1
                    generalize wY1.setCell ⟨g2, j, none⟩ (.int .i64 b1) = wB1 at SB1 ⊢
                    have HSB1 := Lib.hid SB1
                    clear SB1
                    have k2 := HSB1.out.blk_cell (i := 0) rfl 2
                    obtain ⟨_, cH, _, _⟩ := HOLD.out _ HSB1.out.bel
                    obtain ⟨f2, f2'⟩ := tab_cell HSB1.out (i4 := 4) (iB := 3) rfl rfl HT2.out HO2.out HVE2.out hjl
                    obtain ⟨c6, _⟩ := row_cell HSB1.out (i := 6) rfl hjl
                    rw [pad_last HL.out.2.1] at c6
                    refine wp_cls 21 (fun w' => ∃ n, w' = wB1.drewN n) (by kernel_rfl) (by kernel_rfl) ⟨1, rfl⟩ ?_
                    simp only [List.take_succ_cons, List.take_zero, List.drop_succ_cons, List.drop_zero]
                    generalize hK : (fun w' => ∃ n, w' = wB1.drewN n) = K
                    intro hne
                    have kw : ∀ y : Wd K, ∃ n, y.w = wB1.drewN n := by subst hK; exact fun y => y.h
                    have y0 : ∀ y : Wd K, y.w.cell? ⟨g2, j, none⟩ = some (.int .i64 b1) := fun y => by obtain ⟨n, e⟩ := kw y; rw [e]; exact c6
                    have y1 : ∀ y : Wd K, y.w.cell? ⟨gp, 2, none⟩ = some (.slice (some ⟨bh, oh, none⟩) hn ch) := fun y => by obtain ⟨n, e⟩ := kw y; rw [e]; exact k2
                    have y2 : ∀ y : Wd K, y.w.cell? ⟨bh, oh + j, none⟩ = some (.int .i64 hd) := fun y => by obtain ⟨n, e⟩ := kw y; rw [e]; exact cH
                    have y3 : ∀ y : Wd K, y.w.cell? ⟨gE, i2, none⟩ = some (.slice (some ⟨bE2, oE2, none⟩) hn ccE2) := fun y => by obtain ⟨n, e⟩ := kw y; rw [e]; exact f2
                    have y4 : ∀ y : Wd K, y.w.cell? ⟨bE2, oE2 + j, none⟩ = some (.int .i64 (at2 T.e i2 j)) := fun y => by obtain ⟨n, e⟩ := kw y; rw [e]; exact f2'
                    clear hK c6 k2 cH f2 f2'
                    repeat (go_big_quiet_step ((fail)))
                    refine wpQuiet_nil ?_
                    intro y
                    obtain ⟨nn, hyn⟩ := kw y
                    have SY := HSB1.out.drewN nn
                    rw [← hyn] at SY
                    clear y0 y1 y2 y3 y4 kw hyn hne
                    generalize y.w = wY2 at SY ⊢
                    clear y
                    obtain ⟨cY, fY⟩ := row_cell SY (i := 6) rfl hjl
                    have HSY := Lib.hid SY
                    clear SY
                    rw [pad_last HL.out.2.1] at cY
                    go_wp2_with fail
                    clear cY fY
                    have SB2 := HSY.out.row_set (i := 6) rfl j (.int .i64 b2)
                    simp only [List.set_cons_zero, List.set_cons_succ, ints_set] at SB2
                    rw [pad_set2 HL.out.2.1] at SB2
                    generalize wY2.setCell ⟨g2, j, none⟩ (.int .i64 b2) = wB2 at SB2 ⊢
                    have HSB2 := Lib.hid SB2
                    clear SB2
                    have k1 := HSB2.out.blk_cell (i := 0) rfl 1
                    obtain ⟨_, _, m1, m2⟩ := HOLD.out _ HSB2.out.bel
                    obtain ⟨c6, _⟩ := row_cell HSB2.out (i := 6) rfl hjl
                    rw [pad_last HL.out.2.1] at c6
                    refine wp_cls 16 (fun w' => ∃ n, w' = wB2.drewN n) (by kernel_rfl) (by kernel_rfl) ⟨1, rfl⟩ ?_
                    simp only [List.take_succ_cons, List.take_zero, List.drop_succ_cons, List.drop_zero]
                    generalize hK : (fun w' => ∃ n, w' = wB2.drewN n) = K
                    intro hne
                    have kw : ∀ y : Wd K, ∃ n, y.w = wB2.drewN n := by subst hK; exact fun y => y.h
                    have y0 : ∀ y : Wd K, y.w.cell? ⟨g2, j, none⟩ = some (.int .i64 b2) := fun y => by obtain ⟨n, e⟩ := kw y; rw [e]; exact c6
                    have y1 : ∀ y : Wd K, y.w.cell? ⟨gp, 1, none⟩ = some (.slice (some ⟨bm, om, none⟩) mn cm) := fun y => by obtain ⟨n, e⟩ := kw y; rw [e]; exact k1
                    have y2 : ∀ y : Wd K, y.w.cell? ⟨bm, om + k, none⟩ = some (.slice (some ⟨bm2, om2, none⟩) hn cm2) := fun y => by obtain ⟨n, e⟩ := kw y; rw [e]; exact m1
                    have y3 : ∀ y : Wd K, y.w.cell? ⟨bm2, om2 + j, none⟩ = some (.int .i64 m) := fun y => by obtain ⟨n, e⟩ := kw y; rw [e]; exact m2
                    clear hK c6 k1 m1 m2
                    repeat (go_big_quiet_step ((fail)))
                    refine wpQuiet_nil ?_
                    intro y
                    obtain ⟨nn, hyn⟩ := kw y
                    have SY := HSB2.out.drewN nn
                    rw [← hyn] at SY
                    clear y0 y1 y2 y3 kw hyn hne
                    generalize y.w = wY3 at SY ⊢
                    clear y
                    obtain ⟨cY, fY⟩ := row_cell SY (i := 7) rfl hjl
                    have HSY := Lib.hid SY
                    clear SY
                    go_wp2_with fail
                    clear cY fY
                    have SB3 := HSY.out.row_set (i := 7) rfl j (.int .i64 (b2 + m))
                    simp only [List.set_cons_zero, List.set_cons_succ, ints_set] at SB3
                    rw [pad_set HL.out.2.2 hjl] at SB3
                    generalize wY3.setCell ⟨g3, j, none⟩ (.int .i64 (b2 + m)) = wB3 at SB3 ⊢
                    have HSB3 := Lib.hid SB3
                    obtain ⟨f3, f3'⟩ := tab_cell SB3 (i4 := 4) (iB := 3) rfl rfl HT2.out HO2.out HVE.out hjl
                    obtain ⟨c7, _⟩ := row_cell SB3 (i := 7) rfl hjl
                    rw [pad_last HL.out.2.2] at c7
                    clear SB3
                    refine wp_cls 16 (fun w' => ∃ n, w' = wB3.drewN n) (by kernel_rfl) (by kernel_rfl) ⟨1, rfl⟩ ?_
                    simp only [List.take_succ_cons, List.take_zero, List.drop_succ_cons, List.drop_zero]
                    generalize hK : (fun w' => ∃ n, w' = wB3.drewN n) = K
                    intro hne
                    have kw : ∀ y : Wd K, ∃ n, y.w = wB3.drewN n := by subst hK; exact fun y => y.h
                    have y0 : ∀ y : Wd K, y.w.cell? ⟨g3, j, none⟩ = some (.int .i64 (b2 + m)) := fun y => by obtain ⟨n, e⟩ := kw y; rw [e]; exact c7
                    have y1 : ∀ y : Wd K, y.w.cell? ⟨gE, i1, none⟩ = some (.slice (some ⟨bE, oE, none⟩) hn ccE) := fun y => by obtain ⟨n, e⟩ := kw y; rw [e]; exact f3
                    have y2 : ∀ y : Wd K, y.w.cell? ⟨bE, oE + j, none⟩ = some (.int .i64 (at2 T.e i1 j)) := fun y => by obtain ⟨n, e⟩ := kw y; rw [e]; exact f3'
                    clear hK c7 f3 f3'
                    repeat (go_big_quiet_step ((fail)))
                    refine wpQuiet_nil ?_
                    intro y
                    obtain ⟨nn, hyn⟩ := kw y
                    have SY := HSB3.out.drewN nn
                    rw [← hyn] at SY
                    clear y0 y1 y2 kw hyn hne
                    generalize y.w = wY4 at SY ⊢
                    clear y
                    obtain ⟨cY, fY⟩ := row_cell SY (i := 7) rfl hjl
                    have HSY := Lib.hid SY
                    clear SY
                    rw [pad_last HL.out.2.2] at cY
                    go_wp2_with fail
                    clear cY fY
                    have SB4 := HSY.out.row_set (i := 7) rfl j (.int .i64 e)
                    simp only [List.set_cons_zero, List.set_cons_succ, ints_set] at SB4
                    rw [pad_set2 HL.out.2.2] at SB4
                    generalize wY4.setCell ⟨g3, j, none⟩ (.int .i64 e) = wB4 at SB4 ⊢
                    have HSB4 := Lib.hid SB4
                    go_roundw
                    case rel =>
                      obtain ⟨hl1, hl2, hl3⟩ := HL.out
                      exact ⟨j + 1, cl ++ [a], bl ++ [b2], el ++ [e], e, by omega, by go_num, ⟨by simp [hl1], by simp [hl2], by simp [hl3]⟩, by omega, by omega, by show _ = _; rw [if_neg (by omega), Nat.add_sub_cancel, List.getD_eq_getElem?_getD, List.getElem?_append_right (by omega), hl3, Nat.sub_self]; rfl, HSB4.out, HST.out⟩
                    case measure => simp [intOf]; omega
                · as_aux_lemma =>
                    obtain ⟨i1, hi1⟩ : ∃ i1 : Nat, (k : Int) - 1 = i1 := ⟨k - 1, by omega⟩
                    have hi1k : i1 < k := by omega
                    have hk0b : decide (0 < (k : Int)) = true := by simp; omega
                    obtain ⟨gB, cB, bB, oB, ccB, hBe, hcB, hvB, hccB⟩ := tab_form HS.out (i4 := 4) (iB := 2) rfl rfl HT1.out HO1.out hi1k (by omega)
                    obtain ⟨gE, cE, bE, oE, ccE, hEe, hcE, hvE, hccE⟩ := tab_form HS.out (i4 := 4) (iB := 3) rfl rfl HT2.out HO2.out hi1k (by omega)
                    cases hBe
                    cases hEe
                    have HVB := Lib.hid hvB
                    have HVE := Lib.hid hvE
                    have hx1 := HO1.out.at_ hM0 i1 j
                    have hx3 := HO2.out.at_ hM0 i1 j
                    clear hvB hvE
                    have hhkb : decide (hd ≤ (k : Int)) = false := by simp; omega
                    obtain ⟨b1, hb1⟩ : ∃ b1, (if a < at2 T.b i1 j then at2 T.b i1 j else a) = b1 := ⟨_, rfl⟩
                    obtain ⟨e, he⟩ : ∃ e, (if b1 + m < at2 T.e i1 j then at2 T.e i1 j else b1 + m) = e := ⟨_, rfl⟩
                    have HST := Lib.hid (playH_step HHD.out (beginF_1 hk0 hi1 hhk hb1) HMM.out (endF_1 hk0 hi1 he) HI.out)
                    have q1 : 0 ≤ b1 ∧ b1 ≤ 10000 + 360000 * k + 10000 * j := by rw [← hb1]; split <;> omega
                    have q3 : 0 ≤ e ∧ e ≤ 10000 + 360000 * k + 10000 * (j + 1) := by rw [← he]; split <;> omega
                    clear hhk
                    have hj00 : j = 0 := by omega
                    have hax : a = x' := by rw [HA.out, if_pos hj00]
                    have hj0b : decide (0 < (j : Int)) = false := by simp; omega
                    have hj0c : decide (0 < j) = false := by simp; omega
                    have k0 := HS.out.blk_cell (i := 0) rfl 0
                    have k1 := HS.out.blk_cell (i := 0) rfl 1
                    have k2 := HS.out.blk_cell (i := 0) rfl 2
                    obtain ⟨cR, cH, m1, m2⟩ := HOLD.out _ HS.out.bel
                    obtain ⟨c5, f5⟩ := row_cell HS.out (i := 5) rfl hjl
                    obtain ⟨c6, f6⟩ := row_cell HS.out (i := 6) rfl hjl
                    obtain ⟨c7, f7⟩ := row_cell HS.out (i := 7) rfl hjl
                    clear hj0 hj00
                    go_wp2_with fail
                    have SA := (HS.out.row_set (i := 5) rfl j (.int .i64 x')).row_set (i := 6) rfl j (.int .i64 x')
                    simp only [List.set_cons_zero, List.set_cons_succ, ints_set] at SA
                    rw [pad_set HL.out.1 hjl, pad_set HL.out.2.1 hjl] at SA
                    generalize (wr.setCell ⟨g1, j, none⟩ (.int .i64 x')).setCell ⟨g2, j, none⟩ (.int .i64 x') = wA at SA ⊢
                    rw [← hax] at SA
                    subst hax
                    clear k0 k1 k2 cR cH m1 m2 c5 f5 c6 f6 c7 f7
                    have HSA := Lib.hid SA
                    have k0 := SA.blk_cell (i := 0) rfl 0
                    have k1 := SA.blk_cell (i := 0) rfl 1
                    have k2 := SA.blk_cell (i := 0) rfl 2
                    obtain ⟨cR, cH, m1, m2⟩ := HOLD.out _ SA.bel
                    obtain ⟨c5, f5⟩ := row_cell SA (i := 5) rfl hjl
                    obtain ⟨c6, f6⟩ := row_cell SA (i := 6) rfl hjl
                    obtain ⟨c7, f7⟩ := row_cell SA (i := 7) rfl hjl
                    rw [pad_last HL.out.2.1] at c6
                    clear c5 f5 c6 f6 c7 f7 k0 k1 k2 cR cH m1 m2
                    obtain ⟨f1, f1'⟩ := tab_cell SA (i4 := 4) (iB := 2) rfl rfl HT1.out HO1.out HVB.out hjl
                    obtain ⟨c6, _⟩ := row_cell SA (i := 6) rfl hjl
                    rw [pad_last HL.out.2.1] at c6
                    clear SA
                    refine wp_cls 16 (fun w' => ∃ n, w' = wA.drewN n) (by kernel_rfl) (by kernel_rfl) ⟨1, rfl⟩ ?_
                    simp only [List.take_succ_cons, List.take_zero, List.drop_succ_cons, List.drop_zero]
                    generalize hK : (fun w' => ∃ n, w' = wA.drewN n) = K
                    intro hne
                    have kw : ∀ y : Wd K, ∃ n, y.w = wA.drewN n := by subst hK; exact fun y => y.h
                    have y0 : ∀ y : Wd K, y.w.cell? ⟨g2, j, none⟩ = some (.int .i64 a) := fun y => by obtain ⟨n, e⟩ := kw y; rw [e]; exact c6
                    have y1 : ∀ y : Wd K, y.w.cell? ⟨gB, i1, none⟩ = some (.slice (some ⟨bB, oB, none⟩) hn ccB) := fun y => by obtain ⟨n, e⟩ := kw y; rw [e]; exact f1
                    have y2 : ∀ y : Wd K, y.w.cell? ⟨bB, oB + j, none⟩ = some (.int .i64 (at2 T.b i1 j)) := fun y => by obtain ⟨n, e⟩ := kw y; rw [e]; exact f1'
                    clear hK c6 f1 f1'
                    repeat (go_big_quiet_step ((fail)))
                    refine wpQuiet_nil ?_
                    intro y
                    obtain ⟨nn, hyn⟩ := kw y
                    have SY := HSA.out.drewN nn
                    rw [← hyn] at SY
                    clear y0 y1 y2 kw hyn hne
                    generalize y.w = wY1 at SY ⊢
                    clear y
                    obtain ⟨cY, fY⟩ := row_cell SY (i := 6) rfl hjl
                    have HSY := Lib.hid SY
                    clear SY
                    rw [pad_last HL.out.2.1] at cY
                    have kY2 := HSY.out.blk_cell (i := 0) rfl 2
                    obtain ⟨_, cHY, _, _⟩ := HOLD.out _ HSY.out.bel
                    go_wp2_with fail
                    clear kY2 cHY
                    clear cY fY
                    have SB1 := HSY.out.row_set (i := 6) rfl j (.int .i64 b1)
                    simp only [List.set_cons_zero, List.set_cons_succ, ints_set] at SB1
                    rw [pad_set2 HL.out.2.1] at SB1
                    generalize wY1.setCell ⟨g2, j, none⟩ (.int .i64 b1) = wB1 at SB1 ⊢
                    have HSB1 := Lib.hid SB1
                    clear SB1
                    have k1 := HSB1.out.blk_cell (i := 0) rfl 1
                    obtain ⟨_, _, m1, m2⟩ := HOLD.out _ HSB1.out.bel
                    obtain ⟨c6, _⟩ := row_cell HSB1.out (i := 6) rfl hjl
                    rw [pad_last HL.out.2.1] at c6
                    refine wp_cls 16 (fun w' => ∃ n, w' = wB1.drewN n) (by kernel_rfl) (by kernel_rfl) ⟨1, rfl⟩ ?_
                    simp only [List.take_succ_cons, List.take_zero, List.drop_succ_cons, List.drop_zero]
                    generalize hK : (fun w' => ∃ n, w' = wB1.drewN n) = K
                    intro hne
                    have kw : ∀ y : Wd K, ∃ n, y.w = wB1.drewN n := by subst hK; exact fun y => y.h
                    have y0 : ∀ y : Wd K, y.w.cell? ⟨g2, j, none⟩ = some (.int .i64 b1) := fun y => by obtain ⟨n, e⟩ := kw y; rw [e]; exact c6
                    have y1 : ∀ y : Wd K, y.w.cell? ⟨gp, 1, none⟩ = some (.slice (some ⟨bm, om, none⟩) mn cm) := fun y => by obtain ⟨n, e⟩ := kw y; rw [e]; exact k1
                    have y2 : ∀ y : Wd K, y.w.cell? ⟨bm, om + k, none⟩ = some (.slice (some ⟨bm2, om2, none⟩) hn cm2) := fun y => by obtain ⟨n, e⟩ := kw y; rw [e]; exact m1
                    have y3 : ∀ y : Wd K, y.w.cell? ⟨bm2, om2 + j, none⟩ = some (.int .i64 m) := fun y => by obtain ⟨n, e⟩ := kw y; rw [e]; exact m2
                    clear hK c6 k1 m1 m2
                    repeat (go_big_quiet_step ((fail)))
                    refine wpQuiet_nil ?_
                    intro y
                    obtain ⟨nn, hyn⟩ := kw y
                    have SY := HSB1.out.drewN nn
                    rw [← hyn] at SY
                    clear y0 y1 y2 y3 kw hyn hne
                    generalize y.w = wY2 at SY ⊢
                    clear y
                    obtain ⟨cY, fY⟩ := row_cell SY (i := 7) rfl hjl
                    have HSY := Lib.hid SY
                    clear SY
                    go_wp2_with fail
                    clear cY fY
                    have SB2 := HSY.out.row_set (i := 7) rfl j (.int .i64 (b1 + m))
                    simp only [List.set_cons_zero, List.set_cons_succ, ints_set] at SB2
                    rw [pad_set HL.out.2.2 hjl] at SB2
                    generalize wY2.setCell ⟨g3, j, none⟩ (.int .i64 (b1 + m)) = wB2 at SB2 ⊢
                    have HSB2 := Lib.hid SB2
                    obtain ⟨f3, f3'⟩ := tab_cell SB2 (i4 := 4) (iB := 3) rfl rfl HT2.out HO2.out HVE.out hjl
                    obtain ⟨c7, _⟩ := row_cell SB2 (i := 7) rfl hjl
                    rw [pad_last HL.out.2.2] at c7
                    clear SB2
                    refine wp_cls 16 (fun w' => ∃ n, w' = wB2.drewN n) (by kernel_rfl) (by kernel_rfl) ⟨1, rfl⟩ ?_
                    simp only [List.take_succ_cons, List.take_zero, List.drop_succ_cons, List.drop_zero]
                    generalize hK : (fun w' => ∃ n, w' = wB2.drewN n) = K
                    intro hne
                    have kw : ∀ y : Wd K, ∃ n, y.w = wB2.drewN n := by subst hK; exact fun y => y.h
                    have y0 : ∀ y : Wd K, y.w.cell? ⟨g3, j, none⟩ = some (.int .i64 (b1 + m)) := fun y => by obtain ⟨n, e⟩ := kw y; rw [e]; exact c7
                    have y1 : ∀ y : Wd K, y.w.cell? ⟨gE, i1, none⟩ = some (.slice (some ⟨bE, oE, none⟩) hn ccE) := fun y => by obtain ⟨n, e⟩ := kw y; rw [e]; exact f3
                    have y2 : ∀ y : Wd K, y.w.cell? ⟨bE, oE + j, none⟩ = some (.int .i64 (at2 T.e i1 j)) := fun y => by obtain ⟨n, e⟩ := kw y; rw [e]; exact f3'
                    clear hK c7 f3 f3'
                    repeat (go_big_quiet_step ((fail)))
                    refine wpQuiet_nil ?_
                    intro y
                    obtain ⟨nn, hyn⟩ := kw y
                    have SY := HSB2.out.drewN nn
                    rw [← hyn] at SY
                    clear y0 y1 y2 kw hyn hne
                    generalize y.w = wY3 at SY ⊢
                    clear y
                    obtain ⟨cY, fY⟩ := row_cell SY (i := 7) rfl hjl
                    have HSY := Lib.hid SY
                    clear SY
                    rw [pad_last HL.out.2.2] at cY
                    go_wp2_with fail
                    clear cY fY
                    have SB3 := HSY.out.row_set (i := 7) rfl j (.int .i64 e)
                    simp only [List.set_cons_zero, List.set_cons_succ, ints_set] at SB3
                    rw [pad_set2 HL.out.2.2] at SB3
                    generalize wY3.setCell ⟨g3, j, none⟩ (.int .i64 e) = wB3 at SB3 ⊢
                    have HSB3 := Lib.hid SB3
                    go_roundw
                    case rel =>
                      obtain ⟨hl1, hl2, hl3⟩ := HL.out
                      exact ⟨j + 1, cl ++ [a], bl ++ [b1], el ++ [e], e, by omega, by go_num, ⟨by simp [hl1], by simp [hl2], by simp [hl3]⟩, by omega, by omega, by show _ = _; rw [if_neg (by omega), Nat.add_sub_cancel, List.getD_eq_getElem?_getD, List.getElem?_append_right (by omega), hl3, Nat.sub_self]; rfl, HSB3.out, HST.out⟩
                    case measure => simp [intOf]; omega
              · as_aux_lemma =>
                  have hk00 : k = 0 := by omega
                  have hk0b : decide (0 < (k : Int)) = false := by simp; omega
                  have hk0c : decide (0 < k) = false := by simp; omega
                  have hhkb : decide (hd ≤ (k : Int)) = false := by simp; omega
                  have HST : Hid (_ ∧ _ ∧ _) := Lib.hid (playH_step (b := a) (e := a + m) HHD.out (by rw [hk00]; exact beginF_0 hhb.1) HMM.out (by rw [hk00]; exact endF_0) HI.out)
                  clear hk0 hk00
                  have hj00 : j = 0 := by omega
                  have hax : a = x' := by rw [HA.out, if_pos hj00]
                  have hj0b : decide (0 < (j : Int)) = false := by simp; omega
                  have hj0c : decide (0 < j) = false := by simp; omega
                  have k0 := HS.out.blk_cell (i := 0) rfl 0
                  have k1 := HS.out.blk_cell (i := 0) rfl 1
                  have k2 := HS.out.blk_cell (i := 0) rfl 2
                  obtain ⟨cR, cH, m1, m2⟩ := HOLD.out _ HS.out.bel
                  obtain ⟨c5, f5⟩ := row_cell HS.out (i := 5) rfl hjl
                  obtain ⟨c6, f6⟩ := row_cell HS.out (i := 6) rfl hjl
                  obtain ⟨c7, f7⟩ := row_cell HS.out (i := 7) rfl hjl
                  clear hj0 hj00
                  go_wp2_with fail
                  have SA := (HS.out.row_set (i := 5) rfl j (.int .i64 x')).row_set (i := 6) rfl j (.int .i64 x')
                  simp only [List.set_cons_zero, List.set_cons_succ, ints_set] at SA
                  rw [pad_set HL.out.1 hjl, pad_set HL.out.2.1 hjl] at SA
                  generalize (wr.setCell ⟨g1, j, none⟩ (.int .i64 x')).setCell ⟨g2, j, none⟩ (.int .i64 x') = wA at SA ⊢
                  rw [← hax] at SA
                  subst hax
                  clear k0 k1 k2 cR cH m1 m2 c5 f5 c6 f6 c7 f7
                  have HSA := Lib.hid SA
                  have k0 := SA.blk_cell (i := 0) rfl 0
                  have k1 := SA.blk_cell (i := 0) rfl 1
                  have k2 := SA.blk_cell (i := 0) rfl 2
                  obtain ⟨cR, cH, m1, m2⟩ := HOLD.out _ SA.bel
                  obtain ⟨c5, f5⟩ := row_cell SA (i := 5) rfl hjl
                  obtain ⟨c6, f6⟩ := row_cell SA (i := 6) rfl hjl
                  obtain ⟨c7, f7⟩ := row_cell SA (i := 7) rfl hjl
                  rw [pad_last HL.out.2.1] at c6
                  clear c5 f5 c6 f6 c7 f7 k0 k1 k2 cR cH m1 m2
                  clear SA
                  have k1 := HSA.out.blk_cell (i := 0) rfl 1
                  obtain ⟨_, _, m1, m2⟩ := HOLD.out _ HSA.out.bel
                  obtain ⟨c6, _⟩ := row_cell HSA.out (i := 6) rfl hjl
                  rw [pad_last HL.out.2.1] at c6
                  refine wp_cls 16 (fun w' => ∃ n, w' = wA.drewN n) (by kernel_rfl) (by kernel_rfl) ⟨1, rfl⟩ ?_
                  simp only [List.take_succ_cons, List.take_zero, List.drop_succ_cons, List.drop_zero]
                  generalize hK : (fun w' => ∃ n, w' = wA.drewN n) = K
                  intro hne
                  have kw : ∀ y : Wd K, ∃ n, y.w = wA.drewN n := by subst hK; exact fun y => y.h
                  have y0 : ∀ y : Wd K, y.w.cell? ⟨g2, j, none⟩ = some (.int .i64 a) := fun y => by obtain ⟨n, e⟩ := kw y; rw [e]; exact c6
                  have y1 : ∀ y : Wd K, y.w.cell? ⟨gp, 1, none⟩ = some (.slice (some ⟨bm, om, none⟩) mn cm) := fun y => by obtain ⟨n, e⟩ := kw y; rw [e]; exact k1
                  have y2 : ∀ y : Wd K, y.w.cell? ⟨bm, om + k, none⟩ = some (.slice (some ⟨bm2, om2, none⟩) hn cm2) := fun y => by obtain ⟨n, e⟩ := kw y; rw [e]; exact m1
                  have y3 : ∀ y : Wd K, y.w.cell? ⟨bm2, om2 + j, none⟩ = some (.int .i64 m) := fun y => by obtain ⟨n, e⟩ := kw y; rw [e]; exact m2
                  clear hK c6 k1 m1 m2
                  repeat (go_big_quiet_step ((fail)))
                  refine wpQuiet_nil ?_
                  intro y
                  obtain ⟨nn, hyn⟩ := kw y
                  have SY := HSA.out.drewN nn
                  rw [← hyn] at SY
                  clear y0 y1 y2 y3 kw hyn hne
                  generalize y.w = wY1 at SY ⊢
                  clear y
                  obtain ⟨cY, fY⟩ := row_cell SY (i := 7) rfl hjl
                  have HSY := Lib.hid SY
                  clear SY
                  go_wp2_with fail
                  clear cY fY
                  have SB1 := HSY.out.row_set (i := 7) rfl j (.int .i64 (a + m))
                  simp only [List.set_cons_zero, List.set_cons_succ, ints_set] at SB1
                  rw [pad_set HL.out.2.2 hjl] at SB1
                  generalize wY1.setCell ⟨g3, j, none⟩ (.int .i64 (a + m)) = wB1 at SB1 ⊢
                  have HSB1 := Lib.hid SB1
                  go_roundw
                  case rel =>
                    obtain ⟨hl1, hl2, hl3⟩ := HL.out
                    exact ⟨j + 1, cl ++ [a], bl ++ [a], el ++ [(a + m)], (a + m), by omega, by go_num, ⟨by simp [hl1], by simp [hl2], by simp [hl3]⟩, by omega, by omega, by show _ = _; rw [if_neg (by omega), Nat.add_sub_cancel, List.getD_eq_getElem?_getD, List.getElem?_append_right (by omega), hl3, Nat.sub_self]; rfl, HSB1.out, HST.out⟩
                  case measure => simp [intOf]; omega
          · as_aux_lemma =>
            have hjn : decide ((j : Int) < hn) = false := by simp; omega
            have hjj : j = hn := by omega
            subst hjj
            obtain ⟨hl1, hl2, hl3⟩ := HL.out
            rw [pad_full hl1, pad_full hl2, pad_full hl3] at S
            have k2 := S.blk_cell (i := 0) rfl 2
            clear hl1 hl2 hl3
            have hfin : ∀ (w' : World) (A' B' C' : Value), St W w' [blk gp 56 #[.slice Ar rn cr, .slice Am mn cm, .slice Ah j ch], row 33 1 A' (k + 1) (kc ++ [.slice (some ⟨g1, 0, none⟩) j j]), row 33 1 B' (k + 1) (kb ++ [.slice (some ⟨g2, 0, none⟩) j j]), row 33 1 C' (k + 1) (ke ++ [.slice (some ⟨g3, 0, none⟩) j j]), rdAll ms, row 3 1 (.slice (some ⟨g1, 0, none⟩) j j) j (ints cl), row 3 1 (.slice (some ⟨g2, 0, none⟩) j j) j (ints bl), row 3 1 (.slice (some ⟨g3, 0, none⟩) j j) j (ints el)] →
                ∃ (T' : Tab) (ms' : List (Value × List Value)), St W w' [blk gp 56 #[.slice Ar rn cr, .slice Am mn cm, .slice Ah j ch], row 33 1 A' (k + 1) (kc ++ [.slice (some ⟨g1, 0, none⟩) j j]), row 33 1 B' (k + 1) (kb ++ [.slice (some ⟨g2, 0, none⟩) j j]), row 33 1 C' (k + 1) (ke ++ [.slice (some ⟨g3, 0, none⟩) j j]), rdAll ms'] ∧ Hid (PInv p j (k + 1) ms' (kc ++ [.slice (some ⟨g1, 0, none⟩) j j]) (kb ++ [.slice (some ⟨g2, 0, none⟩) j j]) (ke ++ [.slice (some ⟨g3, 0, none⟩) j j]) T') := by
              intro w' A' B' C' h
              obtain ⟨i1, i2, i3⟩ := HI.out
              rw [List.drop_eq_nil_of_le (by have := HHN.out; omega), playH] at i1 i2 i3
              simp only [List.map_nil, List.append_nil] at i1 i2 i3
              exact play_stepZ HOK.out HHN.out HX.out HT.out i1 i2 i3 h
            have HFIN := Lib.hid hfin
            clear HI HT hfin
            go_wp2_with (first
              | (at_builtin; refine wpList_append_st eltLL rfl _ _ rfl rfl (S.alloc _) (k := 1) rfl rfl (rd_one (by simp)) one_sliceL (by omega) (by omega) ?_; intro v1 w5 S5 _; skip)
              | (at_builtin; refine wpList_append_st eltLL rfl _ _ rfl rfl (S5.alloc _) (k := 2) rfl rfl (rd_one (by simp)) one_sliceL (by omega) (by omega) ?_; intro v2 w6 S6 _; skip)
              | (at_builtin; refine wpList_append_st eltLL rfl _ _ rfl rfl (S6.alloc _) (k := 3) rfl rfl (rd_one (by simp)) one_sliceL (by omega) (by omega) ?_; intro v3 w7 S7 _; skip))
            simp only [List.set_cons_zero, List.set_cons_succ] at S7
            go_roundw
            case rel =>
              obtain ⟨T', ms', S', hP⟩ := HFIN.out _ _ _ _ S7
              exact ⟨k + 1, T', _, _, _, ms', by omega, by go_num, S', hP⟩
            case measure => simp [intOf]; omega
    · have hkr : k = rn := by omega
      have k0 := S.blk_cell (i := 0) rfl 0
      obtain ⟨t1, t2, t3, t4, t5, t6⟩ := HT.out
      rw [List.drop_eq_nil_of_le (by have := HRN.out; omega), playG] at t6
      have r0 := tab_rows S (i4 := 4) (iB := 1) rfl rfl t1
      have r1 := tab_rows S (i4 := 4) (iB := 2) rfl rfl t2
      have r2 := tab_rows S (i4 := 4) (iB := 3) rfl rfl t3
      rw [t6] at r0 r1 r2
      have HFIN := Lib.hid (And.intro S.bel (And.intro r0 (And.intro r1 r2)))
      clear t1 t2 t3 t4 t5 t6 r0 r1 r2 hkr S HT
      go_wp2
      exact bodyPost_ret (v := .tuple #[.slice Bc k cBc, .slice Bb k cBb, .slice Be k cBe]) (by simp [results, Tryz.results34, go_sem]) rfl ⟨_, _, _, rfl, HFIN.out⟩
end Go.Proofs.YtjfhncnpmelopaaGreatDoor
