/- Part 45 of the walks of the golf union's program: DQ5, DQ2, DQ3, DQ4, DQ6, DQ8, DF1, DF2, DF3, ArgA. -/
import Derived.Test.YtkkkfjinflepmaaGreatDoorB37
import Derived.Test.YtkkkfjinflepmaaGreatDoorB43
import Derived.Test.YtkkkfjinflepmaaGreatDoorB07
import Derived.OwnWalk
import Derived.Test.YtkkkfjinflepmaaGreatDoorB39
import Derived.Test.YtkkkfjinflepmaaGreatDoorB41
import Derived.Test.YtkkkfjinflepmaaGreatDoorB06
import Derived.Test.YtkkkfjinflepmaaGreatDoorB10
import Derived.Test.YtkkkfjinflepmaaGreatDoorB01
import Derived.Test.YtkkkfjinflepmaaGreatDoorB02
import Derived.Deep.Slices
import Derived.Deep.Strs
import Derived.ChangeMaps5
import Derived.ChangeSame
import Derived.WalkKit
import Derived.SizedLaws
set_option linter.unusedVariables false
set_option linter.unusedSimpArgs false
set_option linter.unusedSectionVars false
set_option linter.constructorNameAsVariable false
/- TopDivotShared, TopDivotCut: the lines of a field. -/
namespace Go.Proofs.YtkkkfjinflepmaaGreatDoor
open Go.RowKit Go.Mem Go.Sheet Go.Adj
theorem row_holds_rd7 {w : World} {F : Nat → Prop} {e : TypeId} {size n : Nat} {v : Value} {xs : List Value} (h : (row e size v n xs).holds w F) : Rd w F size v n xs := by
  obtain ⟨ho, hF⟩ := h
  have hc := @World.ownsRow.cells _ _ _ _ _ _ _ ho
  have hl := ho.lt
  rcases ho.2 with ⟨rfl, rfl⟩ | ⟨g, cap, cur, rfl, hb, hg, h1, h2, r⟩
  · exact ⟨none, 0, rfl, Nat.le_refl _, Nat.zero_le _, (by have := ho.1; simpa using this), (fun _ => rfl), (fun h => absurd h (by omega))⟩
  · exact ⟨_, cap, rfl, h1, h2, ho.1, (fun h => by cases h), fun _ => ⟨g, 0, rfl, hF g rfl, (hl g rfl).2, fun j u hu => by have := hc (g := g) rfl j u hu; rwa [Addr.add_lit] at this⟩⟩
/-- the scores of lines, only read -/
def lnA (ls : List LnI) : Asr where
  holds w F := ∀ x ∈ ls, Rd w F 1 (.slice x.a 1 x.c) 1 [.int .i64 x.s]
  loc := fun h hs hk x hx => Rd.loc (h x hx) hs hk
  mono := fun h hh x hx => Rd.mono (h x hx) fun b _ => hh b
theorem lnA_new {W w : World} {L : List Asr} (h : St W w L) : St W w (L ++ [lnA []]) := h.push (A := lnA []) (F := fun _ => False) (Below.refl _ _) (fun x hx => by cases hx) (fun _ h => h.elim)
theorem lnA_push {W w : World} {A B C : Asr} {ls : List LnI} {t : TypeId} {g : Nat} {nm : ByteArray} {s : Int} (h : St W w [A, B, lnA ls, C, row t 1 (.slice (some ⟨g, 0, none⟩) 1 1) 1 [.int .i64 s]]) :
    St W w [A, B, lnA (ls ++ [⟨nm, some ⟨g, 0, none⟩, 1, s⟩]), C] := by
  obtain ⟨hb, F1, a1, a2, F2, b1, b2, F3, c1, c2, F4, d1, d2, F5, e1, e2, _⟩ := h
  refine ⟨hb, F1, a1, a2, F2, b1, b2, fun b => F3 b ∨ F5 b, fun b hbb => hbb.elim (c1 b) (fun h5 => ?_), fun x hx => ?_, F4, fun b h4 => ⟨(d1 b h4).1, fun h35 => h35.elim (d1 b h4).2 (fun h5 => (e1 b h5).2 h4)⟩, d2, trivial⟩
  · exact (e1 b h5).1.1
  · rcases List.mem_append.1 hx with hx | hx
    · exact (c2 x hx).mono fun b _ hb3 => .inl hb3
    · obtain rfl := List.mem_singleton.1 hx
      exact (row_holds_rd7 e2).mono fun b _ hb5 => .inr hb5
theorem eltLine : Elt Tryz.prog 45 89 (.agg #[.string ⟨#[]⟩, .bool false, .slice none 0 0, .string ⟨#[]⟩]) 4 64 := ⟨Tryz.underlying45, by kernel_rfl, rfl, by decide⟩
theorem rd_four7 {w : World} {a b c d : Value} {t : TypeId} {g : Nat} (hg : w.heap.size = g) : Rd (w.alloc (.cells #[a, b, c, d] t)) (fun _ => True) 4 (.slice (some ⟨g, 0, none⟩) 1 1) 1 [a, b, c, d] :=
  hg ▸ rd_new (m := 1) w #[a, b, c, d] t rfl (by omega) (fun _ => True) trivial
/-- what the lines of a field are -/
structure FldOk (ps : List PI) (k : Nat) (ls : List LnI) : Prop where
  good : ∀ x ∈ ls, 1 ≤ x.s ∧ x.s ≤ 9999
  nms : GoodNs (lnNames ls) ls.length
  from_ : ∀ x ∈ ls, ∃ j, j < k ∧ x.name = (pAt ps j).name
theorem lnNames_lt {ls : List LnI} {x : LnI} {i : Nat} (h : i < ls.length) : lnNames (ls ++ [x]) i = lnNames ls i := by
  unfold lnNames
  rw [List.getD_eq_getElem?_getD, List.getD_eq_getElem?_getD, List.getElem?_append_left h]
theorem lnNames_eq {ls : List LnI} {x : LnI} : lnNames (ls ++ [x]) ls.length = x.name := by
  unfold lnNames
  rw [List.getD_eq_getElem?_getD, List.getElem?_append_right (Nat.le_refl _), Nat.sub_self]; rfl
theorem FldOk.push {hs : List HI} {ps : List PI} {m k : Nat} {ls : List LnI} {x : LnI} (h : FldOk ps k ls) (hg : GoodPs hs ps m) (hk : k < m) (hx : x.name = (pAt ps k).name) (hsz : x.name.size ≤ 9223372036854775807) (hs1 : 1 ≤ x.s ∧ x.s ≤ 9999) : FldOk ps (k + 1) (ls ++ [x]) := by
  refine ⟨fun y hy => ?_, ⟨fun i hi => ?_, fun i j hi hj => ?_⟩, fun y hy => ?_⟩
  · rcases List.mem_append.1 hy with hy | hy
    · exact h.good y hy
    · obtain rfl := List.mem_singleton.1 hy; exact hs1
  · rw [List.length_append] at hi
    rcases Nat.lt_or_ge i ls.length with h1 | h1
    · rw [lnNames_lt h1]; exact h.nms.ok i h1
    · obtain rfl : i = ls.length := by have : i < ls.length + 1 := hi; omega
      rw [lnNames_eq, hx]
      exact ⟨(hg.ok k hk).1.2.1, by rw [← hx]; exact hsz⟩
  · rw [List.length_append] at hi
    rcases Nat.lt_or_ge i ls.length with h1 | h1
    · rw [lnNames_lt h1, lnNames_lt (by omega)]; exact h.nms.two i j h1 hj
    · obtain rfl : i = ls.length := by have : i < ls.length + 1 := hi; omega
      rw [lnNames_eq, lnNames_lt hj, hx]
      have hm : ls[j] ∈ ls := List.getElem_mem hj
      obtain ⟨j', hj', e⟩ := h.from_ _ hm
      have e2 : lnNames ls j = (ls[j]).name := by unfold lnNames; rw [List.getD_eq_getElem?_getD, List.getElem?_eq_getElem hj]; rfl
      rw [e2, e]
      exact hg.two k j' hk hj'
  · rcases List.mem_append.1 hy with hy | hy
    · obtain ⟨j, hj, e⟩ := h.from_ y hy; exact ⟨j, by omega, e⟩
    · obtain rfl := List.mem_singleton.1 hy; exact ⟨k, by omega, hx⟩
theorem FldOk.skip {ps : List PI} {k : Nat} {ls : List LnI} (h : FldOk ps k ls) : FldOk ps (k + 1) ls := ⟨h.good, h.nms, fun y hy => let ⟨j, hj, e⟩ := h.from_ y hy; ⟨j, by omega, e⟩⟩
set_option maxRecDepth 100000 in
set_option maxHeartbeats 8000000 in
theorem divotField_ok (W : World) (v vp : Value) (n m : Nat) (hs : List HI) (ps : List PI) (hm : m ≤ 200) (h : Rd W (· < W.heap.size) 2 v n (hs.flatMap HI.cells)) (hp : RdPl W (· < W.heap.size) vp m ps) (hgh : GoodH hs) (hgp : GoodPs hs ps m) :
    Calls Tryz.prog 13 #[.agg #[v, vp]] W fun e w' => ∃ (vl vs : Value) (ls : List LnI), e = .returned (.tuple #[vl, vs, .bool true]) ∧ ls.length ≤ m ∧ FldOk ps m ls ∧
      St W w' [row 89 4 vl ls.length (ls.flatMap LnI.cells), lnA ls, row 3 1 vs ls.length (intsI (ls.map LnI.s))] := by
  have hl := h.count (f := HI.cells) (size := 2) (fun _ => rfl) (by decide)
  obtain ⟨A, c, rfl, _, _, _⟩ := h.open_
  obtain ⟨Ap, cp, rfl, _, _, _⟩ := hp.1.open_
  have HP := Lib.hid hp
  have HGP := Lib.hid hgp
  have HENV : Hid (∀ k x, k < m → ps[k]? = some x → ∀ w, Below W.heap.size W w → x.m = n ∧ CEnv w (.slice A n c) (.slice x.a n x.c) n hs x.es x.name) := fun k x hk hx w hw => by
    have hg := hgp.ok k hk
    rw [pAt_eq hx] at hg
    have em : x.m = n := by rw [hl]; exact hg.1.2.2.1
    have hr := (hp.2 _ (List.mem_of_getElem? hx)).1.later hw
    rw [em] at hr
    exact ⟨em, h.later hw, hr, hgh, hg.1.2.1, (hp.2 _ (List.mem_of_getElem? hx)).2, fun i hi => hg.1.2.2.2 i (by omega)⟩
  clear h hp hgh hgp hl
  have S0 := (St.refl W).blk_new #[.slice A n c, .slice Ap m cp] 25
  simp only [List.nil_append] at S0
  have S1 := (lnA_new (S0.row_nil 89 4)).row_nil 3 1
  simp only [List.cons_append, List.nil_append] at S1
  obtain ⟨gc, hgc⟩ : ∃ g, g = W.heap.size := ⟨_, rfl⟩
  rw [← hgc] at S1
  have d0 := S1.blk_cell (i := 0) rfl 0
  have d1 := S1.blk_cell (i := 0) rfl 1
  have HS1 := Lib.hid S1
  clear S0 S1
  go_enter Tryz.func13, Tryz.ntmps13
  go_wp2_with fail
  rw [← hgc]
  generalize W.alloc (.cells #[.slice A n c, .slice Ap m cp] 25) = w1 at *
  clear hgc
  go_wp2_with fail
  go_loopw [14, 5, 6] (fun i lv sv w' => ∃ (k : Nat) (ls : List LnI), k ≤ m ∧ i = .int .i64 k ∧ ls.length ≤ k ∧ Hid (FldOk ps k ls) ∧ St W w' [blk gc 25 #[.slice A n c, .slice Ap m cp], row 89 4 lv ls.length (ls.flatMap LnI.cells), lnA ls, row 3 1 sv ls.length (intsI (ls.map LnI.s))]) (fun i _ _ _ => m - (intOf i).toNat)
  case atStart => exact ⟨0, [], Nat.zero_le _, rfl, Nat.le_refl _, ⟨(fun x hx => by cases hx), ⟨fun i hi => absurd hi (Nat.not_lt_zero i), fun i j hi => absurd hi (Nat.not_lt_zero i)⟩, (fun x hx => by cases hx)⟩, HS1.out⟩
  case round =>
    obtain ⟨k, ls, hk, rfl, hlk, hfo, S⟩ := hrel
    clear HS1 d0 d1
    by_cases hlt : k < m
    · obtain ⟨b, o, x, hA, hx, c0, c1, c2⟩ := (HP.out.later S.bel).elem hlt
      subst hA
      have hco := (HGP.out.ok k hlt).2
      rw [pAt_eq hx] at hco
      have hnx := pAt_eq hx
      have S2 := S.blk_new #[.string x.name, .slice x.a x.m x.c, .int .i64 x.co] 37
      simp only [List.cons_append, List.nil_append] at S2
      obtain ⟨em, henv⟩ := HENV.out k x hlt hx _ S2.bel
      have HSC := Lib.hid (score_any _ _ _ n hs x.es x.name x.co hco henv)
      have HPU : Hid (∀ s g, 1 ≤ s ∧ s ≤ 9999 → FldOk ps (k + 1) (ls ++ [⟨x.name, some ⟨g, 0, none⟩, 1, s⟩])) := fun s g hs1 => hfo.out.push HGP.out hlt (by rw [hnx]) henv.sz hs1
      obtain ⟨xn, xa, xm, xc, xes, xco⟩ := x
      simp only at c0 c1 c2 S2 HSC HPU em
      subst em
      generalize sumTo (fun i => (netF hs xes xco i).s) xm = sc at *
      generalize allO (netF hs xes xco) xm = ao at *
      obtain ⟨gp, hgp2⟩ : ∃ g, g = wr.heap.size := ⟨_, rfl⟩
      rw [← hgp2] at S2
      have e0 := S2.blk_cell (i := 0) rfl 0
      have e1 := S2.blk_cell (i := 0) rfl 1
      have f0 := (S.blk_cell (i := 0) rfl 0)
      have f1 := (S.blk_cell (i := 0) rfl 1)
      have HS2 := Lib.hid S2
      clear S S2 hx hnx henv
      go_wp2_with fail
      rw [← hgp2]
      generalize wr.alloc (.cells #[.string xn, .slice xa xm xc, .int .i64 xco] 37) = w2 at *
      clear hgp2 c0 c1 c2 f0 f1
      have g0 := HS2.out.blk_cell (i := 4) rfl 0
      have g1 := HS2.out.blk_cell (i := 4) rfl 1
      have g2 := HS2.out.blk_cell (i := 4) rfl 2
      have HFS := Lib.hid hfo.out.skip
      cases ao
      · have HSC2 : Hid (Calls Tryz.prog 33 #[.slice A xm c, .agg #[.string xn, .slice xa xm xc, .int .i64 xco]] w2 fun e w' => e = .returned (.tuple #[.int .i64 0, .int .i64 7]) ∧ Below w2.heap.size w2 w') := HSC.out
        clear HSC HPU
        go_wp2_with fail
        go_at_call 33
        refine HSC2.out.mono ?_
        rintro e w3 ⟨rfl, hb3⟩
        have HS3 := Lib.hid (HS2.out.ext hb3)
        clear hb3 HS2 g0 g1 g2 e0 e1
        go_wp2_with fail
        go_roundw
        case rel => exact ⟨k + 1, ls, by omega, by go_num, by omega, HFS, HS3.out.sub (List.sublist_append_left [_, _, _, _] [_])⟩
        case measure => simp [intOf]; omega
      · have HSC2 : Hid (Calls Tryz.prog 33 #[.slice A xm c, .agg #[.string xn, .slice xa xm xc, .int .i64 xco]] w2 fun e w' => e = .returned (.tuple #[.int .i64 sc, .int .i64 0]) ∧ Below w2.heap.size w2 w') := HSC.out
        clear HSC
        go_wp2_with fail
        go_at_call 33
        refine HSC2.out.mono ?_
        rintro e w3 ⟨rfl, hb3⟩
        have S3 := HS2.out.ext hb3
        have g0 := S3.blk_cell (i := 4) rfl 0
        have HS3 := Lib.hid S3
        clear hb3 HS2 S3 g1 g2 e0 e1 HSC2
        by_cases h1 : sc < 1
        · have s1 : decide ((1 : Int) ≤ sc) = false := decide_eq_false (by omega)
          clear HPU
          go_wp2_with fail
          go_roundw
          case rel => exact ⟨k + 1, ls, by omega, by go_num, by omega, HFS, HS3.out.sub (List.sublist_append_left [_, _, _, _] [_])⟩
          case measure => simp [intOf]; omega
        have s1 : decide ((1 : Int) ≤ sc) = true := decide_eq_true (by omega)
        by_cases h2 : 9999 < sc
        · have s2 : decide (sc ≤ 9999) = false := decide_eq_false (by omega)
          clear HPU
          go_wp2_with fail
          go_roundw
          case rel => exact ⟨k + 1, ls, by omega, by go_num, by omega, HFS, HS3.out.sub (List.sublist_append_left [_, _, _, _] [_])⟩
          case measure => simp [intOf]; omega
        have s2 : decide (sc ≤ 9999) = true := decide_eq_true (by omega)
        have HPU2 := Lib.hid (HPU.out sc w3.heap.size ⟨by omega, by omega⟩)
        have S4 := (HS3.out.sub (L' := [_, _, _, _]) (List.sublist_append_left [_, _, _, _] [_])).row_new (e := 3) (size := 1) (n := 1) #[.int .i64 sc] (by decide) rfl
        simp only [List.cons_append, List.nil_append] at S4
        have S5 := lnA_push (nm := xn) S4
        have HS5 := Lib.hid S5
        have HS6 := Lib.hid (S5.alloc (.cells #[.string xn, .bool false, .slice (some ⟨w3.heap.size, 0, none⟩) 1 1, .string ⟨#[]⟩] 89))
        clear S4 S5 HPU HS3
        have g0' := g0
        go_wp2_with (first
          | (at_builtin; refine wpList_append_st eltLine rfl _ _ rfl rfl HS6.out (k := 1) rfl rfl (rd_four7 (by simp)) (by simp [Value.oneCell']) (by omega) (by omega) ?_; intro v' w4 S7 _; simp only [List.set_cons_zero, List.set_cons_succ] at S7; have HS7 := Lib.hid (S7.alloc (.cells #[.int .i64 sc] 3)); clear S7)
          | (at_builtin; refine wpList_append_st eltI rfl _ _ rfl rfl HS7.out (k := 3) rfl rfl (rd_one (by simp)) (one_int _ _) (by omega) (by omega) ?_; intro v2' w5 S8 _; simp only [List.set_cons_zero, List.set_cons_succ] at S8; have HS8 := Lib.hid S8; clear S8))
        go_roundw
        case rel =>
          refine ⟨k + 1, ls ++ [⟨xn, some ⟨w3.heap.size, 0, none⟩, 1, sc⟩], by omega, by go_num, by rw [List.length_append]; show ls.length + 1 ≤ k + 1; omega, HPU2, ?_⟩
          have e1 : (ls ++ [(⟨xn, some ⟨w3.heap.size, 0, none⟩, 1, sc⟩ : LnI)]).length = ls.length + 1 := List.length_append
          rw [e1, List.flatMap_append, List.map_append]
          have S9 := HS8.out
          have e2 : intsI (ls.map LnI.s ++ [(⟨xn, some ⟨w3.heap.size, 0, none⟩, 1, sc⟩ : LnI)].map LnI.s) = intsI (ls.map LnI.s) ++ [.int .i64 sc] := by unfold intsI; rw [List.map_append]; rfl
          rw [e2]
          exact S9
        case measure => simp [intOf]; omega
    · obtain rfl : m = k := by omega
      have HS2 := Lib.hid (S.sub (L' := [_, _, _]) (.cons _ (List.Sublist.refl _)))
      clear S
      go_wp2_with fail
      go_ret3
      exact ⟨_, _, ls, rfl, hlk, hfo.out, HS2.out⟩
end Go.Proofs.YtkkkfjinflepmaaGreatDoor
/- TopDivotShared, plain: all prizes together are the amounts; a greater purse. -/
namespace Go.Proofs.YtkkkfjinflepmaaGreatDoor
open Go.RowKit Go.Mem Go.Sheet Go.Adj
theorem sum_congr {f h : Nat → Int} : ∀ {n}, (∀ i, i < n → f i = h i) → sumTo f n = sumTo h n
  | 0, _ => rfl
  | n + 1, e => by
    show sumTo f n + f n = sumTo h n + h n
    rw [sum_congr (fun i hi => e i (by omega)), e n (by omega)]
theorem sum_add (f h : Nat → Int) : ∀ n, sumTo (fun i => f i + h i) n = sumTo f n + sumTo h n
  | 0 => rfl
  | n + 1 => by
    show sumTo (fun i => f i + h i) n + (f n + h n) = (sumTo f n + f n) + (sumTo h n + h n)
    rw [sum_add f h n]; omega
theorem sum_zero : ∀ n, sumTo (fun _ => (0 : Int)) n = 0
  | 0 => rfl
  | n + 1 => by show sumTo _ n + 0 = 0; rw [sum_zero n]; rfl
theorem sum_swap (f : Nat → Nat → Int) (m : Nat) : ∀ n, sumTo (fun i => sumTo (f i) m) n = sumTo (fun j => sumTo (fun i => f i j) n) m
  | 0 => by
    show 0 = _
    have : (fun j => sumTo (fun i => f i j) 0) = fun _ => (0 : Int) := rfl
    rw [this, sum_zero]
  | n + 1 => by
    show sumTo (fun i => sumTo (f i) m) n + sumTo (f n) m = _
    rw [sum_swap f m n, ← sum_add]
    rfl
/-- one of m numbers is x -/
theorem sum_one {m x : Nat} (c : Int) : ∀ {n}, sumTo (fun i => if x = i then c else 0) n = if x < n then c else 0
  | 0 => rfl
  | n + 1 => by
    show sumTo (fun i => if x = i then c else 0) n + (if x = n then c else 0) = _
    rw [sum_one (m := m) c]
    by_cases h1 : x < n
    · rw [if_pos h1, if_neg (by omega), if_pos (by omega)]; omega
    · by_cases h2 : x = n
      · rw [if_neg h1, if_pos h2, if_pos (by omega)]; omega
      · rw [if_neg h1, if_neg h2, if_neg (by omega)]; rfl
/-- a sum over the members of a rank, member by member -/
theorem sum_mem (rk : Nat → Nat) (r : Nat) (φ : Nat → Int) : ∀ m, sumTo (fun i => if rk i = r then φ i else 0) m = sumTo (fun k => φ ((memR rk r m).getD k 0)) (memR rk r m).length
  | 0 => rfl
  | m + 1 => by
    show sumTo (fun i => if rk i = r then φ i else 0) m + (if rk m = r then φ m else 0) = _
    rw [sum_mem rk r φ m, memR_snoc]
    by_cases h : rk m = r
    · rw [if_pos h, if_pos h, List.length_append]
      show _ = sumTo _ (memR rk r m).length + _
      have e1 : sumTo (fun k => φ ((memR rk r m ++ [m]).getD k 0)) (memR rk r m).length = sumTo (fun k => φ ((memR rk r m).getD k 0)) (memR rk r m).length := sum_congr fun i hi => by
        rw [List.getD_eq_getElem?_getD, List.getElem?_append_left hi, ← List.getD_eq_getElem?_getD]
      rw [e1]
      have e2 : (memR rk r m ++ [m]).getD (memR rk r m).length 0 = m := by
        rw [List.getD_eq_getElem?_getD, List.getElem?_append_right (Nat.le_refl _), Nat.sub_self]; rfl
      show _ = _ + φ ((memR rk r m ++ [m]).getD (memR rk r m).length 0)
      rw [e2]
    · rw [if_neg h, if_neg h, List.append_nil, Int.add_zero]
/-- the shares of a number are this number -/
theorem shares_sum {q : Nat} {S : Int} (hq : 1 ≤ q) (hS : 0 ≤ S) : sumTo (shareF q S) q = S := by
  have hr : 0 ≤ S.tmod q ∧ S.tmod q < q := by
    rw [Int.tmod_eq_emod_of_nonneg hS]
    exact ⟨Int.emod_nonneg _ (by omega), Int.emod_lt_of_pos _ (by omega)⟩
  have h1 : ∀ k : Nat, sumTo (shareF q S) k = k * S.tdiv q + min (k : Int) (S.tmod q) := fun k => by
    induction k with
    | zero => show (0 : Int) = ((0 : Nat) : Int) * S.tdiv q + min ((0 : Nat) : Int) (S.tmod q); simp; omega
    | succ k ih =>
      show sumTo (shareF q S) k + shareF q S k = _
      rw [ih]
      unfold shareF
      push_cast
      rw [Int.add_mul, Int.one_mul]
      split <;> omega
  rw [h1 q]
  have := Int.mul_tdiv_add_tmod S q
  omega
end Go.Proofs.YtkkkfjinflepmaaGreatDoor
/- TopDivotShared, plain: places in an order; all prizes together are the amounts. -/
namespace Go.Proofs.YtkkkfjinflepmaaGreatDoor
open Go.RowKit Go.Mem Go.Sheet Go.Adj
/-- how many of the first k -/
def cN (P : Nat → Bool) : Nat → Nat
  | 0 => 0
  | k + 1 => cN P k + (if P k then 1 else 0)
theorem cN_le (P : Nat → Bool) : ∀ k, cN P k ≤ k
  | 0 => Nat.le_refl _
  | k + 1 => by have := cN_le P k; unfold cN; split <;> omega
theorem cN_mono {P Q : Nat → Bool} : ∀ {k}, (∀ j, j < k → P j = true → Q j = true) → cN P k ≤ cN Q k
  | 0, _ => Nat.le_refl _
  | k + 1, h => by
    have ih := cN_mono (k := k) (fun j hj => h j (by omega))
    have hk := h k (by omega)
    unfold cN
    cases hp : P k with
    | false => simp; split <;> omega
    | true => rw [hk hp]; simp; omega
theorem cN_lt {P Q : Nat → Bool} : ∀ {k x}, (∀ j, j < k → P j = true → Q j = true) → x < k → P x = false → Q x = true → cN P k < cN Q k
  | k + 1, x, h, hx, hp, hq => by
    have hk := h k (by omega)
    rcases Nat.lt_or_ge x k with h1 | h1
    · have ih := cN_lt (k := k) (fun j hj => h j (by omega)) h1 hp hq
      unfold cN
      cases hp : P k with
      | false => simp; split <;> omega
      | true => rw [hk hp]; simp; omega
    · obtain rfl : x = k := by omega
      have ih := cN_mono (k := x) (P := P) (Q := Q) (fun j hj => h j (by omega))
      unfold cN
      rw [hp, hq]; simp; omega
theorem cN_congr {P Q : Nat → Bool} : ∀ {k}, (∀ j, j < k → P j = Q j) → cN P k = cN Q k
  | 0, _ => rfl
  | k + 1, h => by unfold cN; rw [cN_congr (k := k) (fun j hj => h j (by omega)), h k (by omega)]
/-- the amounts at the places of an order are the amounts -/
theorem order_sum (lt : Nat → Nat → Bool) : ∀ (m : Nat), (∀ i, i < m → lt i i = false) → (∀ i j, i < m → j < m → i ≠ j → (lt i j = true ∨ lt j i = true)) → (∀ i j k, i < m → j < m → k < m → lt i j = true → lt j k = true → lt i k = true) →
    ∀ g : Nat → Int, sumTo (fun i => g (cN (fun j => lt j i) m)) m = sumTo g m
  | 0, _, _, _, _ => rfl
  | m + 1, hi, ht, hr, g => by
    have ih := order_sum lt m (fun i h => hi i (by omega)) (fun i j h1 h2 => ht i j (by omega) (by omega)) (fun i j k h1 h2 h3 => hr i j k (by omega) (by omega) (by omega))
    obtain ⟨c, hc⟩ : ∃ c, c = cN (fun j => lt j m) m := ⟨_, rfl⟩
    have hcm : c ≤ m := by rw [hc]; exact cN_le _ _
    have hlast : cN (fun j => lt j m) (m + 1) = c := by
      show cN (fun j => lt j m) m + (if lt m m then 1 else 0) = c
      rw [hi m (by omega), hc]; rfl
    have hstep : ∀ i, i < m → cN (fun j => lt j i) (m + 1) = (fun p => if c ≤ p then p + 1 else p) (cN (fun j => lt j i) m) := fun i him => by
      show cN (fun j => lt j i) m + (if lt m i then 1 else 0) = if c ≤ cN (fun j => lt j i) m then cN (fun j => lt j i) m + 1 else cN (fun j => lt j i) m
      cases hmi : lt m i with
      | true =>
        have : c ≤ cN (fun j => lt j i) m := by rw [hc]; exact cN_mono fun j hj h => hr j m i (by omega) (by omega) (by omega) h hmi
        rw [if_pos this]; rfl
      | false =>
        have him2 : lt i m = true := (ht i m (by omega) (by omega) (by omega)).resolve_right (by rw [hmi]; simp)
        have : cN (fun j => lt j i) m < c := by
          rw [hc]
          exact cN_lt (x := i) (fun j hj h => hr j i m (by omega) (by omega) (by omega) h him2) him (hi i (by omega)) him2
        rw [if_neg (show ¬ c ≤ cN (fun j => lt j i) m by omega)]; rfl
    show sumTo (fun i => g (cN (fun j => lt j i) (m + 1))) m + g (cN (fun j => lt j m) (m + 1)) = sumTo g (m + 1)
    rw [hlast, sum_congr (h := fun i => (fun p => g (if c ≤ p then p + 1 else p)) (cN (fun j => lt j i) m)) (fun i h => by rw [hstep i h]), ih (fun p => g (if c ≤ p then p + 1 else p))]
    have hsh : ∀ k, sumTo (fun p => g (if c ≤ p then p + 1 else p)) k = if k ≤ c then sumTo g k else sumTo g (k + 1) - g c := fun k => by
      induction k with
      | zero => rw [if_pos (by omega)]; rfl
      | succ k ihk =>
        show sumTo (fun p => g (if c ≤ p then p + 1 else p)) k + g (if c ≤ k then k + 1 else k) = _
        rw [ihk]
        by_cases h1 : k + 1 ≤ c
        · rw [if_pos (by omega), if_neg (by omega), if_pos h1]; rfl
        · rw [if_neg h1]
          by_cases h2 : k ≤ c
          · obtain rfl : k = c := by omega
            rw [if_pos h2, if_pos (Nat.le_refl _)]
            show _ = sumTo g k + g k + g (k + 1) - g k
            omega
          · rw [if_neg h2, if_pos (by omega)]
            show _ = sumTo g (k + 1) + g (k + 1) - g c
            omega
    rw [hsh m]
    by_cases h : m ≤ c
    · obtain rfl : m = c := by omega
      rw [if_pos h]; rfl
    · rw [if_neg h]; omega
end Go.Proofs.YtkkkfjinflepmaaGreatDoor
/- TopDivotShared, plain: the prizes of all lines are the amounts. -/
namespace Go.Proofs.YtkkkfjinflepmaaGreatDoor
open Go.RowKit Go.Mem Go.Sheet Go.Adj
def sc (ls : List LnI) (i : Nat) : Int := (lnAt ls i).s
theorem bfL_cN (ls : List LnI) (a : Int) : ∀ k, k ≤ ls.length → bfL (ls.take k) a = cN (fun j => decide (sc ls j < a)) k
  | 0, _ => rfl
  | k + 1, hk => by
    have hx : ls[k]? = some (lnAt ls k) := by
      rw [List.getElem?_eq_getElem (by omega)]
      exact congrArg some (lnAt_some (List.getElem?_eq_getElem (by omega))).symm
    rw [bfL_take hx, bfL_cN ls a k (by omega)]
    show _ = cN _ k + (if decide ((lnAt ls k).s < a) = true then 1 else 0)
    by_cases h : (lnAt ls k).s < a <;> simp [h]
theorem rkN_cN (ls : List LnI) (i : Nat) : rkN ls i = 1 + cN (fun j => decide (sc ls j < sc ls i)) ls.length := by
  unfold rkN
  rw [← bfL_cN ls _ ls.length (Nat.le_refl _), List.take_length]; rfl
theorem memR_cN (rk : Nat → Nat) (r : Nat) : ∀ k, (memR rk r k).length = cN (fun i => rk i == r) k
  | 0 => rfl
  | k + 1 => by
    rw [memR_snoc, List.length_append, memR_cN rk r k]
    show _ = cN _ k + (if (rk k == r) = true then 1 else 0)
    by_cases h : rk k = r <;> simp [h]
theorem cN_upto (P : Nat → Bool) (i : Nat) : ∀ m, cN (fun j => P j && decide (j < i)) m = cN P (min i m)
  | 0 => by rw [Nat.min_zero]; rfl
  | m + 1 => by
    show cN (fun j => P j && decide (j < i)) m + _ = _
    rw [cN_upto P i m]
    by_cases h : m < i
    · rw [Nat.min_eq_right (by omega), Nat.min_eq_right (by omega)]
      show _ = cN P m + _
      simp [h]
    · rw [Nat.min_eq_left (by omega), Nat.min_eq_left (by omega)]
      simp [h]
theorem cN_or {P Q : Nat → Bool} (h : ∀ j, P j = true → Q j = false) : ∀ m, cN (fun j => P j || Q j) m = cN P m + cN Q m
  | 0 => rfl
  | m + 1 => by
    show cN (fun j => P j || Q j) m + (if (P m || Q m) = true then 1 else 0) = (cN P m + (if P m = true then 1 else 0)) + (cN Q m + (if Q m = true then 1 else 0))
    rw [cN_or h m]
    have hm := h m
    cases hp : P m <;> cases hq : Q m
    · rfl
    · simp; omega
    · simp; omega
    · rw [hp] at hm; rw [hm rfl] at hq; cases hq
/-- the same rank is the same score -/
theorem rk_same {ls : List LnI} {i j : Nat} (hi : i < ls.length) (hj : j < ls.length) : rkN ls j = rkN ls i ↔ sc ls j = sc ls i := by
  have key : ∀ a b, a < ls.length → b < ls.length → sc ls a < sc ls b → rkN ls a < rkN ls b := fun a b ha hb h => by
    rw [rkN_cN, rkN_cN]
    have := cN_lt (P := fun j => decide (sc ls j < sc ls a)) (Q := fun j => decide (sc ls j < sc ls b)) (k := ls.length) (x := a) (fun j _ hj => by
      have h1 : sc ls j < sc ls a := by simpa using hj
      have : sc ls j < sc ls b := by omega
      simpa using this) ha (by simp) (by simpa using h)
    omega
  refine ⟨fun h => ?_, fun h => by rw [rkN_cN, rkN_cN, h]⟩
  rcases Int.lt_trichotomy (sc ls j) (sc ls i) with h1 | h1 | h1
  · have := key j i hj hi h1; omega
  · exact h1
  · have := key i j hi hj h1; omega
/-- who is ahead of a line -/
def ahead (ls : List LnI) (j i : Nat) : Bool := decide (sc ls j < sc ls i) || (decide (sc ls j = sc ls i) && decide (j < i))
def posL (ls : List LnI) (i : Nat) : Nat := rkN ls i - 1 + (memR (rkN ls) (rkN ls i) i).length
theorem posL_cN {ls : List LnI} {i : Nat} (hi : i < ls.length) : posL ls i = cN (fun j => ahead ls j i) ls.length := by
  unfold posL
  have h1 : cN (fun j => ahead ls j i) ls.length = cN (fun j => decide (sc ls j < sc ls i)) ls.length + cN (fun j => decide (sc ls j = sc ls i) && decide (j < i)) ls.length :=
    cN_or (fun j hj => by
      have : sc ls j < sc ls i := by simpa using hj
      have : ¬ sc ls j = sc ls i := by omega
      simp [this]) _
  rw [h1, cN_upto, Nat.min_eq_left (by omega), memR_cN, rkN_cN]
  have h2 : cN (fun j => rkN ls j == 1 + cN (fun j => decide (sc ls j < sc ls i)) ls.length) i = cN (fun j => decide (sc ls j = sc ls i)) i := cN_congr fun j hj => by
    have := rk_same (ls := ls) (i := i) (j := j) hi (by omega)
    rw [← rkN_cN]
    by_cases h : sc ls j = sc ls i
    · simp [h, this.2 h]
    · have h3 : ¬ rkN ls j = rkN ls i := fun e => h (this.1 e)
      simp [h, h3]
  rw [h2]
  omega
theorem sum_split {rk : Nat → Nat} {m t : Nat} (φ : Nat → Int) (h : ∀ i, i < m → rk i < t) : sumTo φ m = sumTo (fun r => sumTo (fun i => if rk i = r then φ i else 0) m) t := by
  rw [← sum_swap (fun i r => if rk i = r then φ i else 0) t m]
  exact sum_congr fun i hi => by
    show φ i = sumTo (fun r => if rk i = r then φ i else 0) t
    rw [sum_one (m := t), if_pos (h i hi)]
theorem prize_sum {ls : List LnI} {g : Nat → Int} {n : Nat} (hg : GoodPu g n) : sumTo (prizeF (rkN ls) ls.length g n) ls.length = sumTo (fun i => if i < n then g i else 0) ls.length := by
  obtain ⟨m, hm⟩ : ∃ m, m = ls.length := ⟨_, rfl⟩
  rw [← hm]
  have hrk : ∀ i, i < m → rkN ls i < m + 2 := fun i _ => by
    have := bfL_le ls (lnAt ls i).s
    unfold rkN; omega
  have h1 : sumTo (prizeF (rkN ls) m g n) m = sumTo (fun i => (fun p => if p < n then g p else 0) (posL ls i)) m := by
    rw [sum_split (t := m + 2) _ hrk, sum_split (t := m + 2) (fun i => (fun p => if p < n then g p else 0) (posL ls i)) hrk]
    refine sum_congr fun r _ => ?_
    rw [sum_mem, sum_mem]
    obtain ⟨q, hq⟩ : ∃ q, q = (memR (rkN ls) r m).length := ⟨_, rfl⟩
    rw [← hq]
    have hat : ∀ k, k < q → ∃ i, (memR (rkN ls) r m).getD k 0 = i ∧ (memR (rkN ls) r i).length = k ∧ rkN ls i = r := fun k hk => by
      have h1 : (memR (rkN ls) r m)[k]? = some ((memR (rkN ls) r m)[k]'(by omega)) := List.getElem?_eq_getElem _
      obtain ⟨a1, a2, a3⟩ := memR_at h1
      exact ⟨_, by rw [List.getD_eq_getElem?_getD, h1]; rfl, a1, a3⟩
    have e1 : sumTo (fun k => prizeF (rkN ls) m g n ((memR (rkN ls) r m).getD k 0)) q = sumTo (shareF q (sumG g n r q)) q := sum_congr fun k hk => by
      obtain ⟨i, h1, h2, h3⟩ := hat k hk
      rw [h1]
      unfold prizeF
      rw [h3, h2, ← hq]
    have e2 : sumTo (fun k => (fun p => if p < n then g p else 0) (posL ls ((memR (rkN ls) r m).getD k 0))) q = sumG g n r q := sum_congr fun k hk => by
      obtain ⟨i, h1, h2, h3⟩ := hat k hk
      show (if posL ls ((memR (rkN ls) r m).getD k 0) < n then g (posL ls ((memR (rkN ls) r m).getD k 0)) else 0) = _
      rw [h1]
      unfold posL
      rw [h3, h2]
    rw [e1, e2]
    rcases Nat.eq_zero_or_pos q with h0 | h0
    · rw [h0]; rfl
    · exact shares_sum h0 (sumG_bd hg r q).1
  rw [h1, sum_congr (h := fun i => (fun p => if p < n then g p else 0) (cN (fun j => ahead ls j i) m)) (fun i hi => by rw [posL_cN (by omega), hm])]
  exact order_sum (ahead ls) m (fun i _ => by unfold ahead; simp) (fun i j _ _ hij => by
    unfold ahead
    rcases Int.lt_trichotomy (sc ls i) (sc ls j) with h | h | h
    · exact .inl (by simp [h])
    · rcases Nat.lt_or_ge i j with h2 | h2
      · exact .inl (by simp [h, h2])
      · exact .inr (by simp [h]; omega)
    · exact .inr (by simp [h])) (fun i j k _ _ _ h1 h2 => by
    unfold ahead at *
    simp only [Bool.or_eq_true, Bool.and_eq_true, decide_eq_true_eq] at *
    omega) (fun p => if p < n then g p else 0)
end Go.Proofs.YtkkkfjinflepmaaGreatDoor
/- TopDivotShared, plain: a greater purse. -/
namespace Go.Proofs.YtkkkfjinflepmaaGreatDoor
open Go.RowKit Go.Mem Go.Sheet Go.Adj
theorem sumTo_le6 {f h : Nat → Int} : ∀ {n}, (∀ i, i < n → f i ≤ h i) → sumTo f n ≤ sumTo h n
  | 0, _ => Int.le_refl _
  | n + 1, e => by
    have h1 := sumTo_le6 (n := n) (fun i hi => e i (by omega))
    have h2 := e n (by omega)
    show sumTo f n + f n ≤ sumTo h n + h n
    omega
theorem share_le {q k : Nat} {S S' : Int} (h0 : 0 ≤ S) (h : S ≤ S') : shareF q S k - 1 ≤ shareF q S' k := by
  have h1 : S.tdiv q ≤ S'.tdiv q := by
    rw [Int.tdiv_eq_ediv_of_nonneg h0, Int.tdiv_eq_ediv_of_nonneg (by omega)]
    rcases Nat.eq_zero_or_pos q with h2 | h2
    · subst h2; simp
    · exact Int.ediv_le_ediv (by omega) h
  unfold shareF
  split <;> split <;> omega
theorem prize_more {rk : Nat → Nat} {m n : Nat} {g g' : Nat → Int} (hg : GoodPu g n) (h : ∀ p, p < n → g p ≤ g' p) (i : Nat) : prizeF rk m g n i - 1 ≤ prizeF rk m g' n i := by
  unfold prizeF
  refine share_le (sumG_bd hg _ _).1 ?_
  unfold sumG
  refine sumTo_le6 fun j _ => ?_
  show (if rk i - 1 + j < n then g (rk i - 1 + j) else 0) ≤ (if rk i - 1 + j < n then g' (rk i - 1 + j) else 0)
  split
  · rename_i hl; exact h _ hl
  · exact Int.le_refl _
theorem sum_upd (g : Nat → Int) (x : Int) : ∀ n, 0 < n → sumTo (updF g 0 x) n = sumTo g n + (x - g 0)
  | 0, h => absurd h (Nat.lt_irrefl 0)
  | 1, _ => by
    show 0 + updF g 0 x 0 = 0 + g 0 + (x - g 0)
    unfold updF; simp; omega
  | n + 2, _ => by
    show sumTo (updF g 0 x) (n + 1) + updF g 0 x (n + 1) = sumTo g (n + 1) + g (n + 1) + (x - g 0)
    rw [sum_upd g x (n + 1) (by omega)]
    have : updF g 0 x (n + 1) = g (n + 1) := by unfold updF; rw [if_neg (by omega)]
    rw [this]; omega
/-- the purse with 100 more for the first -/
theorem more_ok {g : Nat → Int} {n : Nat} (h : GoodPu g n) (hn : 0 < n) (h0 : g 0 < 999998999) (hs : sumTo g n ≤ 999998999) : GoodPu (updF g 0 (g 0 + 100)) n := by
  refine ⟨fun i hi => ?_, fun i hi => ?_, ?_⟩
  · unfold updF
    have := h.bd i hi
    have := h.bd 0 hn
    split <;> omega
  · unfold updF
    have := h.dn i hi
    rw [if_neg (by omega)]
    split
    · rename_i e; subst e; omega
    · exact this
  · rw [sum_upd g _ n hn]; omega
theorem more_ge {g : Nat → Int} (p : Nat) : g p ≤ updF g 0 (g 0 + 100) p := by
  unfold updF
  split
  · rename_i e; subst e; omega
  · exact Int.le_refl _
end Go.Proofs.YtkkkfjinflepmaaGreatDoor
/- TopDivotShared: the sum of a group's amounts stays below the largest number (plain). -/
namespace Go.Proofs.YtkkkfjinflepmaaGreatDoor
open Go.RowKit Go.Mem Go.Sheet Go.Adj
def inP (g : Nat → Int) (n : Nat) (i : Nat) : Int := if i < n then g i else 0
theorem inP_nn {g : Nat → Int} {n : Nat} (h : GoodPu g n) (i : Nat) : 0 ≤ inP g n i := by
  unfold inP
  split
  · rename_i h1; exact (h.bd i h1).1
  · omega
theorem inP_sum {g : Nat → Int} {n : Nat} : ∀ k, k ≤ n → sumTo (inP g n) k = sumTo g k
  | 0, _ => rfl
  | k + 1, h => by
    show sumTo (inP g n) k + inP g n k = sumTo g k + g k
    rw [inP_sum k (by omega)]
    unfold inP
    rw [if_pos (by omega)]
theorem inP_le {g : Nat → Int} {n : Nat} (h : GoodPu g n) : ∀ k, 0 ≤ sumTo (inP g n) k ∧ sumTo (inP g n) k ≤ sumTo g n
  | 0 => ⟨Int.le_refl 0, (sumTo_nn (fun i hi => (h.bd i hi).1) n (Nat.le_refl _)).1⟩
  | k + 1 => by
    have ih := inP_le h k
    by_cases hk : k + 1 ≤ n
    · rw [inP_sum _ hk]
      exact sumTo_nn (fun i hi => (h.bd i hi).1) (k + 1) hk
    · show 0 ≤ sumTo (inP g n) k + inP g n k ∧ sumTo (inP g n) k + inP g n k ≤ sumTo g n
      have : inP g n k = 0 := by unfold inP; rw [if_neg (by omega)]
      rw [this]; omega
theorem inP_split (f : Nat → Int) (a : Nat) : ∀ q, sumTo f a + sumTo (fun j => f (a + j)) q = sumTo f (a + q)
  | 0 => by show sumTo f a + 0 = sumTo f a; omega
  | q + 1 => by
    have ih := inP_split f a q
    show sumTo f a + (sumTo (fun j => f (a + j)) q + f (a + q)) = sumTo f (a + q) + f (a + q)
    omega
theorem sumG_le {g : Nat → Int} {n : Nat} (h : GoodPu g n) (r q : Nat) : sumG g n r q ≤ 999999999 := by
  have h1 := inP_split (inP g n) (r - 1) q
  have h2 := inP_le h (r - 1)
  have h3 := inP_le h (r - 1 + q)
  have h4 := h.sm
  have h5 : sumG g n r q = sumTo (fun j => inP g n (r - 1 + j)) q := rfl
  omega
theorem sumG_stop {g : Nat → Int} {n r d : Nat} (h : n ≤ r - 1 + d) : ∀ q, d ≤ q → sumG g n r q = sumG g n r d
  | 0, hq => by obtain rfl : d = 0 := by omega
                rfl
  | q + 1, hq => by
    by_cases hd : d = q + 1
    · rw [hd]
    · have ih := sumG_stop (g := g) h q (by omega)
      show sumG g n r q + (if r - 1 + q < n then g (r - 1 + q) else 0) = _
      rw [ih, if_neg (by omega)]; omega
end Go.Proofs.YtkkkfjinflepmaaGreatDoor
/- The reference's check that players are few: with any limit. -/
namespace Go.Proofs.YtkkkfjinflepmaaGreatDoor
open Go.RowKit Go.Mem Go.Sheet Go.Adj
set_option maxRecDepth 100000 in
set_option maxHeartbeats 4000000 in
theorem shortPlayers_n (mx : Nat) (hmx : mx ≤ 200) (W : World) (v : Value) (n : Nat) (ps : List PI) (h : RdPl W (· < W.heap.size) v n ps) :
    Calls Tryz.prog 30 #[v, .int .i64 mx] W fun e w' => IsBo (n ≤ mx ∨ 200 < n) e ∧ Below W.heap.size W w' := by
  have hn := h.1.le
  obtain ⟨A, c, rfl, _, _, _⟩ := h.1.open_
  have H := Lib.hid h
  clear h
  go_enter Tryz.func30, Tryz.ntmps30
  by_cases h1 : (mx : Int) < (n : Int)
  · have t1 : decide ((mx : Int) < (n : Int)) = true := by simpa using h1
    have t1' : decide (mx < n) = true := by simp; omega
    by_cases h2 : (n : Int) ≤ 200
    · have t2 : decide ((n : Int) ≤ 200) = true := by simpa using h2
      go_wp2
      go_ret
      exact ⟨isBo_no, Below.refl _ _⟩
    · have t2 : decide ((n : Int) ≤ 200) = false := by simpa using h2
      have HN : Hid (n ≤ mx ∨ 200 < n) := .inr (by omega)
      by_cases h3 : 203 < (n : Int)
      · have t3 : decide (203 < (n : Int)) = true := by simpa using h3
        go_wp2
        go_ret
        exact ⟨isBo_no, Below.refl _ _⟩
      have t3 : decide (203 < (n : Int)) = false := by simpa using h3
      clear h1 h2 h3
      go_wp2
      go_loopw [5] (fun i w' => ∃ k : Nat, k ≤ n ∧ i = .int .i64 k ∧ Below W.heap.size W w') (fun i _ => n - (intOf i).toNat)
      case atStart => exact ⟨0, Nat.zero_le _, rfl, Below.refl _ _⟩
      case round =>
        obtain ⟨k, hk, rfl, hbw⟩ := hrel
        have HB := Lib.hid hbw
        by_cases hlt : k < n
        · obtain ⟨b, o, x, rfl, hx, d0, d1, d2⟩ := (H.out.later hbw).elem hlt
          have HS := Lib.hid (shortPlayer_any wr x.name x.a x.m x.c x.es x.co ((H.out.later hbw).2 x (List.mem_of_getElem? hx)).1)
          clear hx hbw
          go_wp2_with (go_at_call 77; refine HS.out.mono ?_; rintro e w' ⟨⟨bo, rfl, _⟩, hb2⟩; have HB2 := Lib.hid hb2; clear hb2)
          · go_ret
            exact ⟨isBo_no, HB.out.trans (HB2.out.mono HB.out.size)⟩
          · go_roundw
            case rel => exact ⟨k + 1, by omega, by go_num, HB.out.trans (HB2.out.mono HB.out.size)⟩
            case measure => simp [intOf]; omega
        · clear hbw
          go_wp2
          go_ret
          exact ⟨isBo_yes HN.out, HB.out⟩
  · have t1 : decide ((mx : Int) < (n : Int)) = false := by simpa using h1
    have t1' : decide (mx < n) = false := by simp; omega
    have HN : Hid (n ≤ mx ∨ 200 < n) := .inl (by omega)
    have t3 : decide (203 < (n : Int)) = false := by simp; omega
    clear h1
    go_wp2
    go_loopw [5] (fun i w' => ∃ k : Nat, k ≤ n ∧ i = .int .i64 k ∧ Below W.heap.size W w') (fun i _ => n - (intOf i).toNat)
    case atStart => exact ⟨0, Nat.zero_le _, rfl, Below.refl _ _⟩
    case round =>
      obtain ⟨k, hk, rfl, hbw⟩ := hrel
      have HB := Lib.hid hbw
      by_cases hlt : k < n
      · obtain ⟨b, o, x, rfl, hx, d0, d1, d2⟩ := (H.out.later hbw).elem hlt
        have HS := Lib.hid (shortPlayer_any wr x.name x.a x.m x.c x.es x.co ((H.out.later hbw).2 x (List.mem_of_getElem? hx)).1)
        clear hx hbw
        go_wp2_with (go_at_call 77; refine HS.out.mono ?_; rintro e w' ⟨⟨bo, rfl, _⟩, hb2⟩; have HB2 := Lib.hid hb2; clear hb2)
        · go_ret
          exact ⟨isBo_no, HB.out.trans (HB2.out.mono HB.out.size)⟩
        · go_roundw
          case rel => exact ⟨k + 1, by omega, by go_num, HB.out.trans (HB2.out.mono HB.out.size)⟩
          case measure => simp [intOf]; omega
      · clear hbw
        go_wp2
        go_ret
        exact ⟨isBo_yes HN.out, HB.out⟩
end Go.Proofs.YtkkkfjinflepmaaGreatDoor
/- Chapter 5: the reference's check of a field; few players, with any limit. -/
namespace Go.Proofs.YtkkkfjinflepmaaGreatDoor
open Go.RowKit Go.Mem Go.Sheet Go.Adj
theorem eltRP : Elt Tryz.prog 26 82 (.agg #[.string ⟨#[]⟩, .slice none 0 0, .int .i64 0]) 3 48 := ⟨Tryz.underlying26, by kernel_rfl, rfl, by decide⟩
theorem rd_three {w : World} {a b c : Value} {t : TypeId} {g : Nat} (hg : w.heap.size = g) : Rd (w.alloc (.cells #[a, b, c] t)) (fun _ => True) 3 (.slice (some ⟨g, 0, none⟩) 1 1) 1 [a, b, c] :=
  hg ▸ rd_new (m := 1) w #[a, b, c] t rfl (by omega) (fun _ => True) trivial
theorem one_play (s : ByteArray) (A : Option Addr) (m c : Nat) (k : IntKind) (x : Int) : ∀ u ∈ [Value.string s, Value.slice A m c, Value.int k x], u.oneCell' = true := by simp [Value.oneCell']
set_option maxRecDepth 100000 in
set_option maxHeartbeats 4000000 in
theorem refCheckField_any (W : World) (v vp : Value) (n m : Nat) (hs : List HI) (ps : List PI) (h : Rd W (· < W.heap.size) 2 v n (hs.flatMap HI.cells)) (hp : RdPl W (· < W.heap.size) vp m ps) :
    Calls Tryz.prog 31 #[.agg #[v, vp]] W fun e w' => IsE (GoodH hs ∧ m ≤ 200 ∧ GoodPs hs ps m) e ∧ Below W.heap.size W w' := by
  have hm := hp.1.le
  obtain ⟨A, c, rfl, _, _, _⟩ := h.open_
  obtain ⟨Ap, cp, rfl, _, _, _⟩ := hp.1.open_
  have hb := (Below.refl W.heap.size W).alloc (Nat.le_refl _) (.cells #[.slice A n c, .slice Ap m cp] 28)
  have c0 : (W.alloc (.cells #[.slice A n c, .slice Ap m cp] 28)).cell? ⟨W.heap.size, 0, none⟩ = some (.slice A n c) := by simp
  have c1 : (W.alloc (.cells #[.slice A n c, .slice Ap m cp] 28)).cell? ⟨W.heap.size, 1, none⟩ = some (.slice Ap m cp) := by simp
  have H := Lib.hid (h.later hb)
  have HPL := Lib.hid (hp.later hb)
  have HB := Lib.hid hb
  clear h hp hb
  go_enter Tryz.func31, Tryz.ntmps31
  go_wp2_with fail
  generalize W.alloc (.cells #[.slice A n c, .slice Ap m cp] 28) = W1 at *
  have hlt := World.block_lt_of_cell? _ _ c0
  have HCH := Lib.hid (refCheckHoles_any W1 _ n hs H.out)
  go_at_call 78
  refine HCH.out.mono ?_
  rintro e w2 ⟨⟨ec, rfl, hg⟩, q, rfl⟩
  have hb2 := below_drewN (Below.refl W1.heap.size W1) q
  have d0 := (hb2.cell (p := ⟨W.heap.size, 0, none⟩) hlt).trans c0
  have d1 := (hb2.cell (p := ⟨W.heap.size, 1, none⟩) hlt).trans c1
  have H2 := Lib.hid (H.out.later hb2)
  have HPL2 := Lib.hid (HPL.out.later hb2)
  have HB2 := Lib.hid (HB.out.trans (hb2.mono HB.out.size))
  have HG := Lib.hid hg
  clear hg hb2 c0 c1 HB HCH hlt H HPL
  generalize W1.drewN q = w2 at *
  by_cases h0 : ec = 0
  case neg =>
    have e0 : (ec == 0) = false := by simpa using h0
    have H0 := Lib.hid h0
    clear h0
    go_wp2
    go_ret
    exact ⟨isE_ne H0.out, HB2.out⟩
  subst h0
  have HG2 := Lib.hid (HG.out rfl)
  clear HG
  by_cases h2 : 200 < m
  · have t2 : decide (200 < (m : Int)) = true := by simp; omega
    clear h2
    go_wp2
    go_ret
    exact ⟨isE_ne (by decide), HB2.out⟩
  have t2 : decide (200 < (m : Int)) = false := by simp; omega
  have HM : Hid (m ≤ 200) := by show m ≤ 200; omega
  have HCP := Lib.hid (refCheckPlayers_any w2 _ _ n m hs ps H2.out HPL2.out)
  clear h2 H2 HPL2
  go_wp2_with (go_at_call 79; refine HCP.out.mono ?_; rintro e w3 ⟨⟨ed, rfl, hg3⟩, hb3⟩; have HG3 := Lib.hid hg3; have HB3 := Lib.hid hb3; clear hg3 hb3)
  go_ret
  exact ⟨ret_isE (fun h => ⟨HG2.out, HM.out, HG3.out h⟩), HB2.out.trans (HB3.out.mono HB2.out.size)⟩
set_option maxRecDepth 100000 in
set_option maxHeartbeats 4000000 in
theorem refFew_n (mx : Nat) (hmx : mx ≤ 200) (W : World) (v vp : Value) (n m : Nat) (hs : List HI) (ps : List PI) (h : Rd W (· < W.heap.size) 2 v n (hs.flatMap HI.cells)) (hp : RdPl W (· < W.heap.size) vp m ps) :
    Calls Tryz.prog 8 #[.agg #[v, vp], .int .i64 mx] W fun e w' => IsBo (GoodH hs ∧ m ≤ mx ∧ GoodPs hs ps m) e ∧ Below W.heap.size W w' := by
  have hm := hp.1.le
  have hn := h.le
  obtain ⟨A, c, rfl, _, _, _⟩ := h.open_
  obtain ⟨Ap, cp, rfl, _, _, _⟩ := hp.1.open_
  have hb := (Below.refl W.heap.size W).alloc (Nat.le_refl _) (.cells #[.slice A n c, .slice Ap m cp] 28)
  have c0 : (W.alloc (.cells #[.slice A n c, .slice Ap m cp] 28)).cell? ⟨W.heap.size, 0, none⟩ = some (.slice A n c) := by simp
  have c1 : (W.alloc (.cells #[.slice A n c, .slice Ap m cp] 28)).cell? ⟨W.heap.size, 1, none⟩ = some (.slice Ap m cp) := by simp
  have H := Lib.hid (h.later hb)
  have HPL := Lib.hid (hp.later hb)
  have HB := Lib.hid hb
  clear h hp hb
  go_enter Tryz.func8, Tryz.ntmps8
  generalize hW1 : W.alloc (.cells #[.slice A n c, .slice Ap m cp] 28) = W1 at *
  by_cases h1 : 36 < n
  · have t1 : decide ((n : Int) ≤ 36) = false := by simp; omega
    clear h1
    subst hW1
    go_wp2_with fail
    go_ret
    exact ⟨isBo_no, HB.out⟩
  have t1 : decide ((n : Int) ≤ 36) = true := by simp; omega
  clear h1
  subst hW1
  go_wp2_with fail
  generalize W.alloc (.cells #[.slice A n c, .slice Ap m cp] 28) = W1 at *
  have hlt := World.block_lt_of_cell? _ _ c0
  have HSP := Lib.hid (shortPlayers_n mx hmx W1 _ m ps HPL.out)
  go_at_call 30
  refine HSP.out.mono ?_
  rintro e w2 ⟨⟨b, rfl, hg⟩, hb2⟩
  have d0 := (hb2.cell (p := ⟨W.heap.size, 0, none⟩) hlt).trans c0
  have d1 := (hb2.cell (p := ⟨W.heap.size, 1, none⟩) hlt).trans c1
  have H2 := Lib.hid (H.out.later hb2)
  have HPL2 := Lib.hid (HPL.out.later hb2)
  have HB2 := Lib.hid (HB.out.trans (hb2.mono HB.out.size))
  have HG := Lib.hid hg
  clear hg hb2 c0 c1 HB HSP hlt H HPL
  cases b
  · go_wp2
    go_ret
    exact ⟨isBo_no, HB2.out⟩
  have HG2 := Lib.hid (HG.out rfl)
  clear HG
  have HCF := Lib.hid (refCheckField_any w2 _ _ n m hs ps H2.out HPL2.out)
  clear H2 HPL2
  go_wp2_with (go_at_call 31; refine HCF.out.mono ?_; rintro e w3 ⟨⟨ed, rfl, hg3⟩, hb3⟩; have HG3 := Lib.hid hg3; have HB3 := Lib.hid hb3; clear hg3 hb3)
  go_ret
  refine ⟨isBo_of fun h => ?_, HB2.out.trans (HB3.out.mono HB2.out.size)⟩
  have h0 : ed = 0 := by simpa using h
  obtain ⟨g1, g2, g3⟩ := HG3.out h0
  exact ⟨g1, by have := HG2.out; omega, g3⟩
end Go.Proofs.YtkkkfjinflepmaaGreatDoor
/- divotOwn: the field for the reference. -/
namespace Go.Proofs.YtkkkfjinflepmaaGreatDoor
open Go.RowKit Go.Mem Go.Sheet Go.Adj
theorem res_own (tmps : Array Value) (w : World) (g2 : Nat) (a b : Value) (h2 : tmps.getD 2 undef = .pointer (some ⟨g2, 0, none⟩)) (c0 : w.cell? ⟨g2, 0, none⟩ = some a) (c1 : w.cell? ⟨g2, 1, none⟩ = some b) : (results Tryz.f7 tmps).run Tryz.prog w = .ok (.agg #[a, b]) w := by
  have e2 : tmps[2]?.getD undef = .pointer (some ⟨g2, 0, none⟩) := by simpa using h2
  simp [results, Tryz.results7, e2, c0, c1, go_sem]
set_option maxRecDepth 100000 in
set_option maxHeartbeats 4000000 in
theorem divotOwn_any (W : World) (v vp : Value) (n m : Nat) (hs : List HI) (ps : List PI) (hbd : m * 48 ≤ 140737488351232) (h : Rd W (· < W.heap.size) 2 v n (hs.flatMap HI.cells)) (hp : RdPl W (· < W.heap.size) vp m ps) :
    Calls Tryz.prog 7 #[.agg #[v, vp]] W fun e w' => ∃ B d, e = .returned (.agg #[v, .slice B m d]) ∧ St W w' [row 82 3 (.slice B m d) m (ps.flatMap PI.cells)] := by
  have hl := hp.count
  obtain ⟨A, c, rfl, _, _, _⟩ := h.open_
  obtain ⟨Ap, cp, rfl, _, _, _⟩ := hp.1.open_
  have H := Lib.hid h
  have HPL := Lib.hid hp
  have HL := Lib.hid hl
  clear h hp hl
  go_enter Tryz.func7, Tryz.ntmps7
  go_wp2_with fail
  have S0 := ((((St.refl W).alloc (.cells #[.slice A n c, .slice Ap m cp] 25)).blk_new #[.slice none 0 0, .slice none 0 0] 28).blk_new #[.slice A n c, .slice none 0 0] 28).row_nil 82 3
  simp only [List.cons_append, List.nil_append, World.size_alloc] at S0
  generalize ((W.alloc (.cells #[.slice A n c, .slice Ap m cp] 25)).alloc (.cells #[.slice none 0 0, .slice none 0 0] 28)).alloc (.cells #[.slice A n c, .slice none 0 0] 28) = W1 at *
  obtain ⟨gr, hgr⟩ : ∃ g, g = W.heap.size + 1 := ⟨_, rfl⟩
  obtain ⟨gq, hgq⟩ : ∃ g, g = W.heap.size + 1 + 1 := ⟨_, rfl⟩
  rw [← hgq, ← hgr] at S0 ⊢
  have hrq : gr ≠ gq := by omega
  have hqr : gq ≠ gr := by omega
  clear hgr hgq
  go_loopw [12] (fun i w' => ∃ (k : Nat) (B : Option Addr) (d : Nat), k ≤ m ∧ i = .int .i64 k ∧ St W w' [blk gr 28 #[.slice none 0 0, .slice none 0 0], blk gq 28 #[.slice A n c, .slice B k d], row 82 3 (.slice B k d) k ((ps.take k).flatMap PI.cells)]) (fun i _ => m - (intOf i).toNat)
  case atStart => exact ⟨0, none, 0, Nat.zero_le _, rfl, S0⟩
  case round =>
    obtain ⟨k, B, d, hk, rfl, S⟩ := hrel
    clear S0
    by_cases hlt : k < m
    · obtain ⟨b, o, x, hA, hx, c0, c1, c2⟩ := (HPL.out.later S.bel).elem hlt
      subst hA
      have HT := Lib.hid (take_at hx)
      have SA := S.blk_new #[.string x.name, .slice x.a x.m x.c, .int .i64 x.co] 37
      simp only [List.cons_append, List.nil_append] at SA
      have a0 := SA.blk_cell (i := 1) rfl 1
      obtain ⟨xn, xa, xm, xc, xes, xco⟩ := x
      simp only at c0 c1 c2 HT SA
      have HS := Lib.hid SA
      have hbd1 : (k + 1) * 48 ≤ 140737488351232 := by omega
      clear hx S SA
      go_wp2_with (at_builtin; refine wpList_append_st eltRP rfl _ _ rfl rfl (HS.out.alloc _) (k := 2) rfl rfl (rd_three (by simp)) (one_play _ _ _ _ _ _) (by omega) (by omega) ?_; intro v' w4 S4 _; simp only [List.set_cons_succ, List.set_cons_zero] at S4; obtain ⟨B2, d2, rfl, _, _, _⟩ := (S4.row_rd (i := 2) rfl).open_; have HS4 := Lib.hid S4; have b1 := S4.blk_cell (i := 1) rfl 1; have f1 := S4.blk_frozen (i := 1) rfl 1; clear S4)
      have S5 := HS4.out.blk_set (i := 1) rfl 1 (.slice B2 (k + 1) d2)
      simp only [List.set_cons_succ, List.set_cons_zero] at S5
      have S6 := S5.sub (L' := [_, _, _]) (List.sublist_append_left [_, _, _] [_])
      clear S5 b1 f1
      go_roundw
      case rel =>
        refine ⟨k + 1, B2, d2, by omega, by go_num, ?_⟩
        rw [HT.out, List.flatMap_append]
        simpa [PI.cells] using S6
      case measure => simp [intOf]; omega
    · obtain rfl : k = m := by omega
      have ht : ps.take k = ps := List.take_of_length_le (by rw [← HL.out]; exact Nat.le_refl _)
      rw [ht] at S
      have a0 := S.blk_cell (i := 1) rfl 0
      have a1 := S.blk_cell (i := 1) rfl 1
      have r0 := S.blk_cell (i := 0) rfl 0
      have r1 := S.blk_cell (i := 0) rfl 1
      have f0 := S.blk_frozen (i := 0) rfl 0
      have f1 := S.blk_frozen (i := 0) rfl 1
      have HS := Lib.hid S
      clear S ht
      go_wp2_with fail
      have S8 := (HS.out.blk_set (i := 0) rfl 0 (.slice A n c)).blk_set (i := 0) rfl 1 (.slice B k d)
      refine bodyPost_ret (res_own _ _ gr _ _ rfl (S8.blk_cell (i := 0) rfl 0) (S8.blk_cell (i := 0) rfl 1)) rfl ?_
      exact ⟨B, d, rfl, S8.sub (L' := [_]) (.cons _ (.cons _ (List.Sublist.refl _)))⟩
end Go.Proofs.YtkkkfjinflepmaaGreatDoor
/- What the statement's arguments are: holes, entries, a card, opened from the row's data. -/
namespace Go.Mem
open Go.RowKit Go.Deep Go.Adj Go.ChangeShapes Go.WideShapes
section
variable {H : Type} {enc : TypeId × Value → H} {P : Program} {w : World} {base : Nat} {spare : Nat → Bool} {held : Bool}
theorem cell_spot {w : World} {a : Addr} {v : Value} (h : w.cell? a = some v) : a.spot = none := by
  unfold World.cell? at h
  split at h
  · cases hs : a.spot with
    | none => rfl
    | some x => rw [hs] at h; simp at h
  · cases h
theorem weights_all {e : TypeId} {u : Nat} {d : DataW H} : ∀ {l : List (DataW H)}, d ∈ l → u ∈ d.weights P e → u ∈ DataW.weightsAll P e l
  | [], h, _ => by cases h
  | x :: l, h, hu => by
    rw [DataW.weightsAll, List.mem_append]
    rcases List.mem_cons.1 h with rfl | h
    · exact .inl hu
    · exact .inr (weights_all h hu)
/-- a slice opened: what its elements are, by a function from data to cells -/
theorem rd_of_slice {α : Type} [Inhabited α] {f : α → List Value} {R : α → Prop} {size : Nat} (h0 : 0 < size) {t e : TypeId} {fuel : Nat} {v : Value} {x : DataW H × List MemPlace}
    (ht : P.underlying t = some (.slice e)) (hc : P.cellsOf e = size) (hs : ∀ z, (f z).length = size)
    (hf : ∀ n cs y, cs.length = size → DataW.trod enc P w base spare held n e cs = some y → (∀ u ∈ y.1.weights P e, u ≤ reachBytes) → ∃ z, cs = f z ∧ R z)
    (h : DataW.trod enc P w base spare held fuel t [v] = some x) (hw : ∀ u ∈ x.1.weights P t, u ≤ reachBytes) :
    ∃ (n : Nat) (l : List α), Rd w (· < w.heap.size) size v n (l.flatMap f) ∧ (∀ z ∈ l, R z) ∧ n * P.bytesOf e ≤ reachBytes := by
  rcases open_slice ht h with ⟨h1, _⟩ | ⟨a, len, cap, m, n, D, Pl, hv, hb, hl, hm, hmm, hxe, hx⟩
  · cases h1
    exact ⟨0, [], Rd.nil _ _ _, by simp, by rw [Nat.zero_mul]; exact Nat.zero_le _⟩
  · cases hv
    have hlm : len ≤ m := by rw [hmm]; split <;> omega
    subst hxe
    have hw2 : ∀ u, u ∈ DataW.weightsAll P e ((List.range len).map D) → u ≤ reachBytes := fun u hu => hw u (by
      simp only [DataW.weights, ht]
      rw [List.mem_cons, List.mem_append]
      exact .inr (.inl hu))
    have hw1 : len * P.bytesOf e ≤ reachBytes := by
      have := hw ((((List.range len).map D).length + ((List.range (m - len)).map fun j => D (len + j)).length) * P.bytesOf e) (by
        simp only [DataW.weights, ht]
        exact List.mem_cons_self ..)
      rw [List.length_map, List.length_map, List.length_range, List.length_range] at this
      exact Nat.le_trans (Nat.mul_le_mul_right _ (by omega)) this
    obtain ⟨Z, hZ⟩ := choose_lt (α := α) (n := len) (p := fun i z => R z ∧ ∀ j u, (f z)[j]? = some u → w.cell? (a.add (i * size + j)) = some u) (fun i hi => by
      obtain ⟨cs', h1, h2⟩ := hx i (by omega)
      rw [hc] at h1
      obtain ⟨_, hlen, hcell⟩ := World.cells?_some h1
      obtain ⟨z, rfl, hz⟩ := hf _ _ _ hlen h2 (fun u hu => hw2 u (weights_all (List.mem_map_of_mem (List.mem_range.2 hi)) hu))
      refine ⟨z, hz, fun j u hj => ?_⟩
      have hjl : j < size := by rw [← hs z]; exact (List.getElem?_eq_some_iff.1 hj).1
      rw [← add_of_add, hcell j hjl, hj])
    refine ⟨len, (List.range len).map Z, ⟨some a, cap, rfl, hl, hm, ?_, (fun h => by cases h), fun hn => ?_⟩, fun z hz => ?_, hw1⟩
    · rw [flatMap_len hs, List.length_map, List.length_range]
    · have hz0 : 0 < (f (Z 0)).length := by rw [hs]; exact h0
      have c0 := (hZ 0 hn).2 0 _ (List.getElem?_eq_getElem hz0)
      rw [Nat.zero_mul, Nat.add_zero] at c0
      have ha0 : a.add 0 = a := by unfold Addr.add; simp
      rw [ha0] at c0
      have hsp := cell_spot c0
      obtain ⟨b, o, sp⟩ := a
      simp only at hsp
      subst hsp
      refine ⟨b, o, rfl, ?_, World.block_lt_of_cell? w _ c0, fun j u hj => ?_⟩
      · exact World.block_lt_of_cell? w _ c0
      · have hjl := (List.getElem?_eq_some_iff.1 hj).1
        rw [flatMap_len hs, List.length_map, List.length_range] at hjl
        have hi : j / size < len := Nat.div_lt_of_lt_mul (by rw [Nat.mul_comm]; exact hjl)
        have hm2 : j % size < size := Nat.mod_lt _ h0
        have hzi : ((List.range len).map Z)[j / size]? = some (Z (j / size)) := by simp [List.getElem?_range hi]
        obtain ⟨u', hu'⟩ : ∃ u', (f (Z (j / size)))[j % size]? = some u' := ⟨_, List.getElem?_eq_getElem (by rw [hs]; exact hm2)⟩
        have h3 := flatMap_at (f := f) (s := size) (fun y _ => hs y) hzi hu'
        have hjj : j / size * size + j % size = j := by rw [Nat.mul_comm]; exact Nat.div_add_mod j size
        rw [hjj] at h3
        rw [hj] at h3
        cases h3
        have h4 := (hZ _ hi).2 _ _ hu'
        rw [hjj] at h4
        have : (⟨b, o, none⟩ : Addr).add j = ⟨b, o + j, none⟩ := by unfold Addr.add; split <;> simp_all
        rwa [this] at h4
    · obtain ⟨i, hi, rfl⟩ := List.mem_map.1 hz
      exact (hZ i (List.mem_range.1 hi)).1
theorem rd_of_holes {t e : TypeId} {f0 f1 : Field} {fuel : Nat} {v : Value} {x : DataW H × List MemPlace} (ht : P.underlying t = some (.slice e)) (he : P.underlying e = some (.struct #[f0, f1])) (hc : P.cellsOf e = 2)
    (ho : f0.offset = 0 ∧ f1.offset = 1) (hs : P.cellsOf f0.type = 1 ∧ P.cellsOf f1.type = 1) (hi : P.underlying f0.type = some (.int .i64) ∧ P.underlying f1.type = some (.int .i64))
    (h : DataW.trod enc P w base spare held fuel t [v] = some x) (hw : ∀ u ∈ x.1.weights P t, u ≤ reachBytes) :
    ∃ (n : Nat) (l : List HI), Rd w (· < w.heap.size) 2 v n (l.flatMap HI.cells) ∧ (∀ z ∈ l, (Lit.int .i64 z.par).wf = true ∧ (Lit.int .i64 z.idx).wf = true) ∧ n * P.bytesOf e ≤ reachBytes :=
  rd_of_slice (size := 2) (by omega) ht hc (fun _ => rfl) (fun n cs y hl hy _ => by
    obtain ⟨y0, y1, m, _, _, h0, h1⟩ := trod_struct2 he hy
    match cs, hl with
    | [a, b], _ =>
      rw [ho.1, hs.1] at h0
      rw [ho.2, hs.2] at h1
      obtain ⟨z0, e0, _, k0⟩ := DataW.trod_int hi.1 h0
      obtain ⟨z1, e1, _, k1⟩ := DataW.trod_int hi.2 h1
      simp at e0 e1
      subst e0 e1
      exact ⟨⟨z0, z1⟩, rfl, k0, k1⟩) h hw
theorem rd_of_entries {t e : TypeId} {f0 f1 : Field} {fuel : Nat} {v : Value} {x : DataW H × List MemPlace} (ht : P.underlying t = some (.slice e)) (he : P.underlying e = some (.struct #[f0, f1])) (hc : P.cellsOf e = 2)
    (ho : f0.offset = 0 ∧ f1.offset = 1) (hs : P.cellsOf f0.type = 1 ∧ P.cellsOf f1.type = 1) (hi : P.underlying f0.type = some (.int .i64) ∧ P.underlying f1.type = some .string)
    (h : DataW.trod enc P w base spare held fuel t [v] = some x) (hw : ∀ u ∈ x.1.weights P t, u ≤ reachBytes) :
    ∃ (n : Nat) (l : List EI), Rd w (· < w.heap.size) 2 v n (l.flatMap EI.cells) ∧ (∀ z ∈ l, (Lit.int .i64 z.s).wf = true ∧ z.m.size ≤ 9223372036854775807) ∧ n * P.bytesOf e ≤ reachBytes :=
  rd_of_slice (size := 2) (by omega) ht hc (fun _ => rfl) (fun n cs y hl hy _ => by
    obtain ⟨y0, y1, m, _, _, h0, h1⟩ := trod_struct2 he hy
    match cs, hl with
    | [a, b], _ =>
      rw [ho.1, hs.1] at h0
      rw [ho.2, hs.2] at h1
      obtain ⟨z0, e0, _, k0⟩ := DataW.trod_int hi.1 h0
      obtain ⟨z1, e1, _, k1⟩ := DataW.trod_string hi.2 h1
      simp at e0 e1
      subst e0 e1
      exact ⟨⟨z0, z1⟩, rfl, k0, by unfold maxLen at k1; omega⟩) h hw
theorem rd_of_card {t te e : TypeId} {f0 f1 g0 g1 : Field} {fuel : Nat} {cs : Array Value} {x : DataW H × List MemPlace} (ht : P.underlying t = some (.struct #[f0, f1])) (hct : P.cellsOf t = 2) (hsz : cs.size = P.cellsOf t)
    (ho : f0.offset = 0 ∧ f1.offset = 1) (hs : P.cellsOf f0.type = 1 ∧ P.cellsOf f1.type = 1) (hty : P.underlying f0.type = some .string ∧ f1.type = te)
    (hte : P.underlying te = some (.slice e)) (he : P.underlying e = some (.struct #[g0, g1])) (hc : P.cellsOf e = 2)
    (hog : g0.offset = 0 ∧ g1.offset = 1) (hsg : P.cellsOf g0.type = 1 ∧ P.cellsOf g1.type = 1) (hi : P.underlying g0.type = some (.int .i64) ∧ P.underlying g1.type = some .string)
    (h : DataW.trod enc P w base spare held fuel t cs.toList = some x) (hw : ∀ u ∈ x.1.weights P t, u ≤ reachBytes) :
    ∃ (s : ByteArray) (ve : Value) (n : Nat) (l : List EI), cs = #[.string s, ve] ∧ s.size ≤ 9223372036854775807 ∧ Rd w (· < w.heap.size) 2 ve n (l.flatMap EI.cells) ∧ (∀ z ∈ l, (Lit.int .i64 z.s).wf = true ∧ z.m.size ≤ 9223372036854775807) ∧ n * P.bytesOf e ≤ reachBytes := by
  obtain ⟨y0, y1, m, hye, _, h0, h1⟩ := trod_struct2 ht h
  have hwa : ∀ u, u ∈ y1.1.weights P te → u ≤ reachBytes := fun u hu => hw u (by
    rw [hye]
    simp only [DataW.weights, ht, List.map_cons, List.map_nil, DataW.weightsEach, hty.2]
    simp only [List.mem_append]
    exact .inr (.inl hu))
  rw [hct] at hsz
  match cs, hsz with
  | ⟨[a, b]⟩, _ =>
    simp only at h0 h1
    rw [ho.1, hs.1] at h0
    rw [ho.2, hs.2, hty.2] at h1
    obtain ⟨z0, e0, _, k0⟩ := DataW.trod_string hty.1 h0
    obtain ⟨n, l, r1, r2, r3⟩ := rd_of_entries hte he hc hog hsg hi (show DataW.trod enc P w base spare held m te [b] = some y1 from h1) hwa
    simp at e0
    subst e0
    exact ⟨z0, b, n, l, rfl, by unfold maxLen at k0; omega, r1, r2, r3⟩
end
end Go.Mem
