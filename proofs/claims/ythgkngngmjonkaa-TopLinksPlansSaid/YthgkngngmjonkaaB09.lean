/- Part 9 of the walks of the golf union's program: KO. -/
import Derived.Test.YthgkngngmjonkaaB08
import Derived.WalkMore
set_option linter.unusedVariables false
set_option linter.unusedSimpArgs false
set_option linter.unusedSectionVars false
set_option linter.constructorNameAsVariable false
/- TopLinksPlans: simple, of a polygon that is. Printed by gen_simple.py. -/
namespace Go.Plan
def bendP (a b c : Pl) : Bool := (turnP a b c == 0) && decide (0 < dotP (minusP a b) (minusP c b))
/-- what simple asks of two sides -/
def pairOk (n : Nat) (s t : Nat × Pl × Pl) : Bool :=
  if t.1 ≤ s.1 then true else if t.1 = s.1 + 1 then !bendP s.2.1 s.2.2 t.2.2 else if s.1 = 0 ∧ t.1 + 1 = n then !bendP t.2.1 t.2.2 s.2.2 else !meetsP s.2.1 s.2.2 t.2.1 t.2.2
def SimpleP (ps : List Pl) : Prop := (∀ s ∈ sidesTo ps ps.length, s.2.1 ≠ s.2.2) ∧ ∀ s ∈ sidesTo ps ps.length, ∀ t ∈ sidesTo ps ps.length, pairOk ps.length s t = true
end Go.Plan
namespace Go.Proofs.Ythgkngngmjonkaa
open Go.RowKit Go.Mem Go.Sheet Go.Plan Go.Shelf
attribute [local go_sem] Oper.semAt_some
def sideC (a b : Pl) : Array Value := #[.int .i64 a.x, .int .i64 a.y, .int .i64 b.x, .int .i64 b.y]
/-- the frame of an outer round -/
def RoundO (g B5 : Nat) (i : Nat) (a b : Pl) (t : Act) (X : World) : Prop :=
  t.tmps.size = 89 ∧ t.tmps.getD 1 undef = .pointer (some ⟨g, 0, none⟩) ∧ t.tmps.getD 2 undef = .pointer (some ⟨g + 1, 0, none⟩) ∧ t.tmps.getD 3 undef = .pointer (some ⟨g + 1 + 1, 0, none⟩) ∧ t.defers = [] ∧
    ∃ Bi Bx, B5 ≤ Bi ∧ B5 ≤ Bx ∧ t.tmps.getD 4 undef = .pointer (some ⟨Bi, 0, none⟩) ∧ t.tmps.getD 5 undef = .pointer (some ⟨Bx, 0, none⟩) ∧ X.heap[Bi]? = some (.cells #[.int .i64 i] 3 (0, 0)) ∧ X.heap[Bx]? = some (.cells (sideC a b) 65 (0, 0))
/-- the frame of an inner round -/
def RoundI (g Bi Bx B6 : Nat) (k : Nat) (a b : Pl) (t : Act) (X : World) : Prop :=
  t.tmps.size = 89 ∧ t.tmps.getD 1 undef = .pointer (some ⟨g, 0, none⟩) ∧ t.tmps.getD 2 undef = .pointer (some ⟨g + 1, 0, none⟩) ∧ t.tmps.getD 3 undef = .pointer (some ⟨g + 1 + 1, 0, none⟩) ∧ t.tmps.getD 4 undef = .pointer (some ⟨Bi, 0, none⟩) ∧ t.tmps.getD 5 undef = .pointer (some ⟨Bx, 0, none⟩) ∧ t.tmps.getD 6 undef = .int .i64 k ∧ t.defers = [] ∧
    ∃ Bt, B6 ≤ Bt ∧ t.tmps.getD 7 undef = .pointer (some ⟨Bt, 0, none⟩) ∧ X.heap[Bt]? = some (.cells (sideC a b) 65 (0, 0))
theorem res_simple (tmps : Array Value) (w : World) (g : Nat) (v : Bool) (hp : tmps.getD 2 undef = .pointer (some ⟨g, 0, none⟩)) (hc : w.cell? ⟨g, 0, none⟩ = some (.bool v)) :
    (results Try.f34 tmps).run Try.prog w = .ok (.bool v) w := by
  have hp' : tmps[2]?.getD undef = .pointer (some ⟨g, 0, none⟩) := by simpa using hp
  simp [results, Try.results34, hp', hc, go_sem]
def sL (g n : Nat) (vl : Value) (b : Bool) : List Asr := [blk g 41 #[vl], blk (g + 1) 4 #[.bool b], blk (g + 1 + 1) 3 #[.int .i64 n], blk (g + 1 + 1 + 1) 41 #[vl]]
def RetB (W : World) (s : Bool) (e : Ending) (w' : World) : Prop := e = .returned (.bool s) ∧ Below W.heap.size W w'
set_option maxRecDepth 100000 in
set_option maxHeartbeats 4000000 in
theorem simple_any (W : World) (A : Option Addr) (n c : Nat) (ps : List Pl) (h : Rd W (· < W.heap.size) 2 (.slice A n c) n (ps.flatMap Pl.cells)) (hn : n ≤ 100) (hok : ∀ q ∈ ps, q.ok 1000) (hs : SimpleP ps) :
    Calls Try.prog 34 #[.slice A n c] W (RetB W true) := by
  have HN := Lib.hid (h.count (f := Pl.cells) (size := 2) (fun _ => rfl) (by decide))
  have HR := Lib.hid h
  have HOK := Lib.hid hok
  have HSM := Lib.hid hs
  clear h hok hs
  refine (callsIn_wide (n := 8)).1 (callsIn_of_wp_marks Try.func34 rfl trivial (wpIn_wide.2 ?_) rfl)
  simp only [Try.ntmps34, List.size_toArray, List.length_cons, List.length_nil, Nat.reduceAdd, Nat.reduceSub, Array.replicate_succ, Array.replicate_zero, List.push_toArray, List.append_toArray, List.nil_append, List.cons_append]
  have S0 := (((St.refl W).blk_new #[.slice A n c] 41).blk_new #[.bool false] 4).blk_new #[.int .i64 n] 3
  simp only [List.nil_append, World.size_alloc, List.cons_append] at S0
  go_wp2
  go_step3
  go_wp2
  go_step3
  go_wp2_with fail
  refine (sides_any _ _ _ _).mono ?_
  rintro e w3 ⟨rfl, hw3⟩
  have S1 := S0.blk_new #[.slice A n c] 41
  simp only [World.size_alloc, List.cons_append, List.nil_append] at S1 hw3
  rw [← hw3] at S1
  clear hw3 S0
  simp only [World.size_alloc]
  have HS1 : Hid (St W w3 (sL W.heap.size n (.slice A n c) false)) := S1
  have hbx : w3.cell? ⟨W.heap.size + 1 + 1 + 1, 0, none⟩ = some (.slice A n c) := S1.blk_cell (i := 3) rfl 0
  have hB2 := (S1.blk_at (i := 3) rfl).2.1
  have hrd : Rd w3 (· < W.heap.size) 2 (.slice A n c) n (ps.flatMap Pl.cells) := HR.out.below S1.bel
  clear S1
  go_wp2
  generalize hgp : W.heap.size = gp at *
  generalize hB5 : w3.heap.size = B5 at *
  refine (wpIn_wide (n := 7)).1 ?_
  refine wpIn_rangeFunc_ownH (F := Fence.wide) rfl (by decide) (gf := 35) (lb := #[.pointer (some ⟨gp + 1 + 1 + 1, 0, none⟩)]) rfl trivial (enters Try.func35 (by kernel_rfl) rfl)
    (sides1_stops 6 (by decide) w3 (gp + 1 + 1 + 1) gp n c A ps hbx hrd (by omega) (by omega)) KpS.trans (kpS_b (by omega) (by omega)) (Below.refl _ _) (fun _ => rfl)
    (fun (pre : List (SideOf ps)) X => StB W B5 X (sL gp n (.slice A n c) false))
    (fun _ _ _ => False) (fun s X Y row hs hg hr => hs.turn hg fun r e => by have := (hr r e).1; omega) (fun _ _ _ _ _ h _ _ => h.elim) (by rw [← hB5]; exact HS1.out.toB)
    (fun q a' X => RoundO gp B5 q.1.1 q.1.2.1 q.1.2.2 a' X)
    (fun q a' _ X Y row hs hg hr => ?hax) ?assign ?body ?done ?stop
  case hax =>
    obtain ⟨h1, h2, h3, h4, h5, Bi, Bx, h6, h7, h8, h9, h10, h11⟩ := hs
    exact ⟨h1, h2, h3, h4, h5, Bi, Bx, h6, h7, h8, h9, (hg.block Bi (Array.getElem?_eq_some_iff.1 h10).1 (fun e => by obtain ⟨_, o, ho, hc⟩ := hr Bi e.symm; rw [h10] at ho; cases ho; cases hc)).trans h10,
      (hg.block Bx (Array.getElem?_eq_some_iff.1 h11).1 (fun e => by obtain ⟨_, o, ho, hc⟩ := hr Bx e.symm; rw [h11] at ho; cases ho; cases hc)).trans h11⟩
  case assign =>
    intro lp pre q X K hi hK
    unfold encSd Sd
    have hXB := hi.hi
    have hXW := hi.bel.size
    gi_wp2
    have hb : Below X.heap.size X ((X.alloc (.cells #[.int .i64 q.1.1] 3)).alloc (.cells #[.int .i64 q.1.2.1.x, .int .i64 q.1.2.1.y, .int .i64 q.1.2.2.x, .int .i64 q.1.2.2.y] 65)) := ((Below.refl _ X).alloc (Nat.le_refl _) _).alloc (by simp) _
    exact hK _ _ (keeps_below hb) (KpS.of_below hb (by omega) (by omega)) (hi.ext hb) ⟨rfl, rfl, rfl, rfl, rfl, X.heap.size, X.heap.size + 1, hXB, by omega, rfl, rfl, (Below.heap_alloc _ _ _ (by simp)).trans (heap_alloc_new X _), heap_alloc_at _ _ _ (by simp)⟩
  case stop =>
    intro D cc pre X _ _ h _
    exact h.elim
  case done =>
    intro D xs X hD hS hI hK
    have S6 := hI.push_obj (by omega) hK
    have HS6 := Lib.hid S6
    have d1 := S6.blk_cell (i := 1) rfl 0
    have d2 := S6.blk_frozen (i := 1) rfl 0
    have HS7 := Lib.hid (S6.blk_set (i := 1) rfl 0 (.bool true))
    clear hI hK hS S6
    go_wp2
    have hK := HS7.out.obj_at (i := 4) rfl
    have HEND := (HS7.out.obj_set (i := 4) rfl (.deferred none))
    refine ⟨by simp, .inl ⟨_, _, rfl, run_takeDeferred hK, ?_⟩⟩
    exact ⟨_, res_simple _ _ (gp + 1) true rfl (HEND.blk_cell (i := 1) rfl 0), rfl, HEND.bel⟩
  case body =>
    intro lp pre q a' X hlp hrec hI hA5 hlen5
    obtain ⟨h1, h2, h3, h4, h5, Bi, Bx, hBi, hBx, h8, h9, h10, h11⟩ := hA5
    obtain ⟨T, dfs⟩ := a'
    dsimp only at h1 h2 h3 h4 h5 h8 h9
    subst h5
    obtain ⟨f, rfl⟩ := frame89 h1 h2 h3 h4 h8 h9
    clear h1 h2 h3 h4 h8 h9
    obtain ⟨r, hr⟩ := hrec
    have hsd := side_ok HOK.out q.2
    have hne := HSM.out.1 q.1 q.2
    have HPAIR := Lib.hid (fun t ht => HSM.out.2 q.1 q.2 t ht)
    have hbi : Bi < X.heap.size := (Array.getElem?_eq_some_iff.1 h10).1
    have hbx2 : Bx < X.heap.size := (Array.getElem?_eq_some_iff.1 h11).1
    have HBI : Hid (∀ w, Below X.heap.size X w → w.heap[Bi]? = some (.cells #[.int .i64 q.1.1] 3 (0, 0))) := fun w hb => (hb.block Bi hbi).trans h10
    have HBX : Hid (∀ w, Below X.heap.size X w → w.heap[Bx]? = some (.cells (sideC q.1.2.1 q.1.2.2) 65 (0, 0))) := fun w hb => (hb.block Bx hbx2).trans h11
    have HSD := Lib.hid hsd
    have hi100 : q.1.1 < n := by rw [HN.out]; exact hsd.1
    clear h10 h11 hsd
    obtain ⟨⟨si, sa, sb⟩, hq⟩ := q
    dsimp only at *
    have hx := HBX.out X (Below.refl _ _)
    unfold sideC at hx
    have c0 : X.cell? ⟨Bx, 0, none⟩ = some (.int .i64 sa.x) := by rw [cell_of_row X Bx 0 _ _ _ hx]; rfl
    have c1 : X.cell? ⟨Bx, 1, none⟩ = some (.int .i64 sa.y) := by rw [cell_of_row X Bx 1 _ _ _ hx]; rfl
    have c2 : X.cell? ⟨Bx, 2, none⟩ = some (.int .i64 sb.x) := by rw [cell_of_row X Bx 2 _ _ _ hx]; rfl
    have c3 : X.cell? ⟨Bx, 3, none⟩ = some (.int .i64 sb.y) := by rw [cell_of_row X Bx 3 _ _ _ hx]; rfl
    have d0 := hI.st.blk_cell (i := 0) rfl 0
    have HI := Lib.hid hI
    have hXB := hI.hi
    have hXW := hI.bel.size
    clear hI hx
    have hxy : sa.x = sb.x → sa.y ≠ sb.y := fun e1 e2 => hne (by cases sa; cases sb; dsimp only at e1 e2; subst e1; subst e2; rfl)
    clear hne
    by_cases hx : sa.x = sb.x
    · have hy := hxy hx
      gi_wp2
      clear hx hy hxy
      refine ⟨trivial, ?_⟩
      refine (CallsIn.inRound lp (callsIn_wide.2 (sides_any _ _ _ _))).mono ?_
      rintro e w5 ⟨rfl, hw5⟩
      have hb5 : Below X.heap.size X w5 := by rw [hw5]; exact (Below.refl _ _).alloc (Nat.le_refl _) _
      have hs5 : X.heap.size < w5.heap.size := by rw [hw5]; simp
      have hbx5 : w5.cell? ⟨X.heap.size, 0, none⟩ = some (.slice A n c) := by rw [hw5]; simp
      have hr5 : w5.heap[lp]? = some (.loop r) := (hb5.block lp (Array.getElem?_eq_some_iff.1 hr).1).trans hr
      have hrd5 : Rd w5 (· < gp) 2 (.slice A n c) n (ps.flatMap Pl.cells) := by
        have := (HI.out.bel.trans (hb5.mono HI.out.bel.size))
        rw [hgp] at this
        exact HR.out.below this
      clear hw5 c0 c1 c2 c3 d0 hr
      gi_wp2
      refine wpIn_rangeFunc_ownN (l₀ := lp) (r₀ := r) rfl hr5 (by decide) (gf := 35) (lb := #[.pointer (some ⟨X.heap.size, 0, none⟩)]) rfl trivial (enters Try.func35 (by kernel_rfl) rfl)
        ((sides1_stops 4 (by decide) w5 X.heap.size gp n c A ps hbx5 hrd5 (by omega) (by omega)).inRound lp) KpS.trans (kpS_b (by omega) (by omega)) (Below.refl _ _) (fun _ => rfl)
        (fun (pre' : List (SideOf ps)) Y => Below w5.heap.size w5 Y) (fun cd _ Y => cd = .exit 1 ∧ Below w5.heap.size w5 Y)
        (fun s Y Z row hs hg hr => hs.grown hg hs.size fun k e => (hr k e).1) (fun _ s Y Z row hs hg hr => ⟨hs.1, hs.2.grown hg hs.2.size fun k e => (hr k e).1⟩) (Below.refl _ _)
        (fun q2 a' Y => RoundI gp Bi Bx w5.heap.size q2.1.1 q2.1.2.1 q2.1.2.2 a' Y)
        (fun q2 a' _ Y Z row hs hg hr => ?hax2) ?assign2 ?body2 ?done2 ?stop2
      case hax2 =>
        obtain ⟨g1, g2, g3, g4, g5, g6, g7, g8, Bt, hBt, g9, g10⟩ := hs
        exact ⟨g1, g2, g3, g4, g5, g6, g7, g8, Bt, hBt, g9, (hg.block Bt (Array.getElem?_eq_some_iff.1 g10).1 (fun e => by obtain ⟨_, o, ho, hc⟩ := hr Bt e.symm; rw [g10] at ho; cases ho; cases hc)).trans g10⟩
      case assign2 =>
        intro lq pre' q2 Y K hi hK
        unfold encSd Sd
        have hYs := hi.size
        gi_wp2
        exact hK _ _ ((KeepsOthers.alloc _ _).from _) (KpS.of_below ((Below.refl _ Y).alloc (Nat.le_refl _) _) (by omega) (by omega)) (hi.alloc hYs _) ⟨rfl, rfl, rfl, rfl, rfl, rfl, rfl, rfl, Y.heap.size, hYs, rfl, heap_alloc_new Y _⟩
      case stop2 =>
        intro cd pre' Y _ hIx
        obtain ⟨rfl, hb⟩ := hIx
        have hXY : Below X.heap.size X Y := hb5.trans (hb.mono hb5.size)
        have hI9 := HI.out.ext hXY
        gi_wp2
        exact ⟨keeps_below hXY, KpS.of_below hXY (by omega) (by omega), hI9⟩
      case done2 =>
        intro xs Y hS hb
        have hXY : Below X.heap.size X Y := hb5.trans (hb.mono hb5.size)
        have hI9 := HI.out.ext hXY
        gi_wp2
        exact ⟨keeps_below hXY, KpS.of_below hXY (by omega) (by omega), hI9⟩
      case body2 =>
        intro lq pre' q2 a2 Y hlq hrec2 hI2 hA2 hlen2
        obtain ⟨g1, g2, g3, g4, g5, g6, g7, g8, Bt, hBt, g9, g10⟩ := hA2
        obtain ⟨T2, dfs2⟩ := a2
        dsimp only at g1 g2 g3 g4 g5 g6 g7 g8 g9
        subst g8
        obtain ⟨f2, rfl⟩ := frame89b g1 g2 g3 g4 g5 g6 g7 g9
        clear g1 g2 g3 g4 g5 g6 g7 g9 hrec2
        obtain ⟨⟨tk, ta, tb⟩, hq2⟩ := q2
        dsimp only at *
        have hpk := HPAIR.out _ hq2
        unfold pairOk at hpk
        dsimp only at hpk
        have htk := side_ok HOK.out hq2
        have htn : tk < n := by rw [HN.out]; exact htk.1
        have hta := htk.2.1
        have htb := htk.2.2
        have hsa := HSD.out.2.1
        have hsb := HSD.out.2.2
        dsimp only at hta htb
        rw [← HN.out] at hpk
        have HI2 := Lib.hid hI2
        have hXY : Below X.heap.size X Y := hb5.trans (hI2.mono hb5.size)
        have hYs := hI2.size
        have hYX := hXY.size
        have hltx : Bx < Y.heap.size := by omega
        have hltt : Bt < Y.heap.size := (Array.getElem?_eq_some_iff.1 g10).1
        have hx := HBX.out Y hXY
        unfold sideC at hx g10
        have c0 : Y.cell? ⟨Bx, 0, none⟩ = some (.int .i64 sa.x) := by rw [cell_of_row Y Bx 0 _ _ _ hx]; rfl
        have c1 : Y.cell? ⟨Bx, 1, none⟩ = some (.int .i64 sa.y) := by rw [cell_of_row Y Bx 1 _ _ _ hx]; rfl
        have c2 : Y.cell? ⟨Bx, 2, none⟩ = some (.int .i64 sb.x) := by rw [cell_of_row Y Bx 2 _ _ _ hx]; rfl
        have c3 : Y.cell? ⟨Bx, 3, none⟩ = some (.int .i64 sb.y) := by rw [cell_of_row Y Bx 3 _ _ _ hx]; rfl
        have c4 : Y.cell? ⟨Bt, 0, none⟩ = some (.int .i64 ta.x) := by rw [cell_of_row Y Bt 0 _ _ _ g10]; rfl
        have c5 : Y.cell? ⟨Bt, 1, none⟩ = some (.int .i64 ta.y) := by rw [cell_of_row Y Bt 1 _ _ _ g10]; rfl
        have c6 : Y.cell? ⟨Bt, 2, none⟩ = some (.int .i64 tb.x) := by rw [cell_of_row Y Bt 2 _ _ _ g10]; rfl
        have c7 : Y.cell? ⟨Bt, 3, none⟩ = some (.int .i64 tb.y) := by rw [cell_of_row Y Bt 3 _ _ _ g10]; rfl
        have c8 : Y.cell? ⟨Bi, 0, none⟩ = some (.int .i64 si) := by rw [cell_of_row Y Bi 0 _ _ _ (HBI.out Y hXY)]; rfl
        have d0 : Y.cell? ⟨gp + 1 + 1, 0, none⟩ = some (.int .i64 n) := (HI.out.ext hXY).st.blk_cell (i := 2) rfl 0
        clear hx g10 hI2
        by_cases hk0 : tk ≤ si
        · have hk0b : decide ((tk : Int) ≤ si) = true := by simp; omega
          clear hpk
          gi_wp2
          exact ⟨KeepsFrom.refl _ _, KpS.refl _ _ _, HI2.out⟩
        · have hk0b : decide ((tk : Int) ≤ si) = false := by simp; omega
          rw [if_neg hk0] at hpk
          by_cases hk1 : tk = si + 1
          · have hk1b : ((tk : Int) == (si : Int) + 1) = true := by simp; omega
            rw [if_pos hk1] at hpk
            have hbd : bendP sa sb tb = false := by simpa using hpk
            have hoa : sa.ok 1000 := by first | exact hsa | exact hsb | exact hta | exact htb
            have hob : sb.ok 1000 := by first | exact hsa | exact hsb | exact hta | exact htb
            have hoc : tb.ok 1000 := by first | exact hsa | exact hsb | exact hta | exact htb
            have CT : Hid (∀ w, Calls Try.prog 39 #[sa.val, sb.val, tb.val] w fun e w' => e = .returned (.int .i64 (turnP sa sb tb)) ∧ Below w.heap.size w w') := fun w => turn_any w _ _ _ hoa hob hoc
            have CM1 : Hid (∀ w, Calls Try.prog 42 #[sa.val, sb.val] w fun e w' => e = .returned (minusP sa sb).val ∧ Below w.heap.size w w') := fun w => minus_any w _ _ (ok_mono hoa (by omega)) (ok_mono hob (by omega))
            have CM2 : Hid (∀ w, Calls Try.prog 42 #[tb.val, sb.val] w fun e w' => e = .returned (minusP tb sb).val ∧ Below w.heap.size w w') := fun w => minus_any w _ _ (ok_mono hoc (by omega)) (ok_mono hob (by omega))
            have CD : Hid (∀ w, Calls Try.prog 41 #[(minusP sa sb).val, (minusP tb sb).val] w fun e w' => e = .returned (.int .i64 (dotP (minusP sa sb) (minusP tb sb))) ∧ Below w.heap.size w w') := fun w => dot_any w _ _ (ok_mono (minus_ok hoa hob) (by omega)) (ok_mono (minus_ok hoc hob) (by omega))
            unfold bendP at hbd
            unfold Pl.val at CT CM1 CM2 CD
            generalize dotP (minusP sa sb) (minusP tb sb) = dd at *
            generalize minusP sa sb = mm1 at *
            generalize minusP tb sb = mm2 at *
            generalize turnP sa sb tb = tt at *
            gi_wp2
            refine wpIn_cls 21 (fun w' => Below Y.heap.size Y w') (by kernel_rfl) (by kernel_rfl) (by kernel_rfl) (Below.refl _ _).drew ?_
            simp only [List.take_succ_cons, List.take_zero, List.drop_succ_cons, List.drop_zero]
            have hK2 : ∀ w w' : World, Below Y.heap.size Y w → Below w.heap.size w w' → Below Y.heap.size Y w' := fun w w' h h' => h.trans (h'.mono h.size)
            generalize hK : (fun w' => Below Y.heap.size Y w') = K
            intro hne2
            have kb : ∀ y : Wd K, Below Y.heap.size Y y.w := by subst hK; exact fun y => y.h
            have hK3 : ∀ w w' : World, K w → Below w.heap.size w w' → K w' := by subst hK; exact hK2
            have k0 : ∀ y : Wd K, y.w.cell? ⟨Bx, 0, none⟩ = some (.int .i64 sa.x) := fun y => ((kb y).cell (p := ⟨Bx, 0, none⟩) hltx).trans c0
            have k1 : ∀ y : Wd K, y.w.cell? ⟨Bx, 1, none⟩ = some (.int .i64 sa.y) := fun y => ((kb y).cell (p := ⟨Bx, 1, none⟩) hltx).trans c1
            have k2 : ∀ y : Wd K, y.w.cell? ⟨Bx, 2, none⟩ = some (.int .i64 sb.x) := fun y => ((kb y).cell (p := ⟨Bx, 2, none⟩) hltx).trans c2
            have k3 : ∀ y : Wd K, y.w.cell? ⟨Bx, 3, none⟩ = some (.int .i64 sb.y) := fun y => ((kb y).cell (p := ⟨Bx, 3, none⟩) hltx).trans c3
            have k4 : ∀ y : Wd K, y.w.cell? ⟨Bt, 0, none⟩ = some (.int .i64 ta.x) := fun y => ((kb y).cell (p := ⟨Bt, 0, none⟩) hltt).trans c4
            have k5 : ∀ y : Wd K, y.w.cell? ⟨Bt, 1, none⟩ = some (.int .i64 ta.y) := fun y => ((kb y).cell (p := ⟨Bt, 1, none⟩) hltt).trans c5
            have k6 : ∀ y : Wd K, y.w.cell? ⟨Bt, 2, none⟩ = some (.int .i64 tb.x) := fun y => ((kb y).cell (p := ⟨Bt, 2, none⟩) hltt).trans c6
            have k7 : ∀ y : Wd K, y.w.cell? ⟨Bt, 3, none⟩ = some (.int .i64 tb.y) := fun y => ((kb y).cell (p := ⟨Bt, 3, none⟩) hltt).trans c7
            clear hK hK2 hoa hob hoc c0 c1 c2 c3 c4 c5 c6 c7 c8 d0
            by_cases hz : tt = 0
            · have hzb : (tt == 0) = true := by simpa using hz
              rw [hz] at CT
              have hdd : decide (0 < dd) = false := by rw [hzb] at hbd; simpa using hbd
              clear hbd hz
              iterate 6 (go_big_quiet_step ((fail)))
              go_big_quiet_step ((go_at_call 39; exact cls_below hK3 (CT.out _)))
              iterate 2 (go_big_quiet_step ((fail)))
              iterate 4 (go_big_quiet_step ((fail)))
              go_big_quiet_step ((go_at_call 42; exact cls_below hK3 (CM1.out _)))
              iterate 4 (go_big_quiet_step ((fail)))
              go_big_quiet_step ((go_at_call 42; exact cls_below hK3 (CM2.out _)))
              go_big_quiet_step ((go_at_call 41; exact cls_below hK3 (CD.out _)))
              iterate 1 (go_big_quiet_step ((fail)))
              refine wpQuiet_nil ?_
              intro y
              have hby := kb y
              clear k0 k1 k2 k3 k4 k5 k6 k7 kb hK3 hne2
              generalize y.w = w7 at *
              have HBY := Lib.hid hby
              clear hby
              gi_wp2
              exact ⟨keeps_below HBY.out, KpS.of_below HBY.out (by omega) (by omega), HI2.out.trans (HBY.out.mono HI2.out.size)⟩
            · have hzb : (tt == 0) = false := by simpa using hz
              clear hbd hz
              iterate 6 (go_big_quiet_step ((fail)))
              go_big_quiet_step ((go_at_call 39; exact cls_below hK3 (CT.out _)))
              iterate 2 (go_big_quiet_step ((fail)))
              iterate 12 (go_big_quiet_step ((fail)))
              refine wpQuiet_nil ?_
              intro y
              have hby := kb y
              clear k0 k1 k2 k3 k4 k5 k6 k7 kb hK3 hne2
              generalize y.w = w7 at *
              have HBY := Lib.hid hby
              clear hby
              gi_wp2
              exact ⟨keeps_below HBY.out, KpS.of_below HBY.out (by omega) (by omega), HI2.out.trans (HBY.out.mono HI2.out.size)⟩
          · have hk1b : ((tk : Int) == (si : Int) + 1) = false := by simp; omega
            rw [if_neg hk1] at hpk
            by_cases hs0 : si = 0
            · have hs0b : ((si : Int) == 0) = true := by simp; omega
              by_cases hkn : tk + 1 = n
              · have hknb : ((tk : Int) == (n : Int) - 1) = true := by simp; omega
                rw [if_pos ⟨hs0, hkn⟩] at hpk
                have hbd : bendP ta tb sb = false := by simpa using hpk
                have hoa : ta.ok 1000 := by first | exact hsa | exact hsb | exact hta | exact htb
                have hob : tb.ok 1000 := by first | exact hsa | exact hsb | exact hta | exact htb
                have hoc : sb.ok 1000 := by first | exact hsa | exact hsb | exact hta | exact htb
                have CT : Hid (∀ w, Calls Try.prog 39 #[ta.val, tb.val, sb.val] w fun e w' => e = .returned (.int .i64 (turnP ta tb sb)) ∧ Below w.heap.size w w') := fun w => turn_any w _ _ _ hoa hob hoc
                have CM1 : Hid (∀ w, Calls Try.prog 42 #[ta.val, tb.val] w fun e w' => e = .returned (minusP ta tb).val ∧ Below w.heap.size w w') := fun w => minus_any w _ _ (ok_mono hoa (by omega)) (ok_mono hob (by omega))
                have CM2 : Hid (∀ w, Calls Try.prog 42 #[sb.val, tb.val] w fun e w' => e = .returned (minusP sb tb).val ∧ Below w.heap.size w w') := fun w => minus_any w _ _ (ok_mono hoc (by omega)) (ok_mono hob (by omega))
                have CD : Hid (∀ w, Calls Try.prog 41 #[(minusP ta tb).val, (minusP sb tb).val] w fun e w' => e = .returned (.int .i64 (dotP (minusP ta tb) (minusP sb tb))) ∧ Below w.heap.size w w') := fun w => dot_any w _ _ (ok_mono (minus_ok hoa hob) (by omega)) (ok_mono (minus_ok hoc hob) (by omega))
                unfold bendP at hbd
                unfold Pl.val at CT CM1 CM2 CD
                generalize dotP (minusP ta tb) (minusP sb tb) = dd at *
                generalize minusP ta tb = mm1 at *
                generalize minusP sb tb = mm2 at *
                generalize turnP ta tb sb = tt at *
                gi_wp2
                refine wpIn_cls 21 (fun w' => Below Y.heap.size Y w') (by kernel_rfl) (by kernel_rfl) (by kernel_rfl) (Below.refl _ _).drew ?_
                simp only [List.take_succ_cons, List.take_zero, List.drop_succ_cons, List.drop_zero]
                have hK2 : ∀ w w' : World, Below Y.heap.size Y w → Below w.heap.size w w' → Below Y.heap.size Y w' := fun w w' h h' => h.trans (h'.mono h.size)
                generalize hK : (fun w' => Below Y.heap.size Y w') = K
                intro hne2
                have kb : ∀ y : Wd K, Below Y.heap.size Y y.w := by subst hK; exact fun y => y.h
                have hK3 : ∀ w w' : World, K w → Below w.heap.size w w' → K w' := by subst hK; exact hK2
                have k0 : ∀ y : Wd K, y.w.cell? ⟨Bx, 0, none⟩ = some (.int .i64 sa.x) := fun y => ((kb y).cell (p := ⟨Bx, 0, none⟩) hltx).trans c0
                have k1 : ∀ y : Wd K, y.w.cell? ⟨Bx, 1, none⟩ = some (.int .i64 sa.y) := fun y => ((kb y).cell (p := ⟨Bx, 1, none⟩) hltx).trans c1
                have k2 : ∀ y : Wd K, y.w.cell? ⟨Bx, 2, none⟩ = some (.int .i64 sb.x) := fun y => ((kb y).cell (p := ⟨Bx, 2, none⟩) hltx).trans c2
                have k3 : ∀ y : Wd K, y.w.cell? ⟨Bx, 3, none⟩ = some (.int .i64 sb.y) := fun y => ((kb y).cell (p := ⟨Bx, 3, none⟩) hltx).trans c3
                have k4 : ∀ y : Wd K, y.w.cell? ⟨Bt, 0, none⟩ = some (.int .i64 ta.x) := fun y => ((kb y).cell (p := ⟨Bt, 0, none⟩) hltt).trans c4
                have k5 : ∀ y : Wd K, y.w.cell? ⟨Bt, 1, none⟩ = some (.int .i64 ta.y) := fun y => ((kb y).cell (p := ⟨Bt, 1, none⟩) hltt).trans c5
                have k6 : ∀ y : Wd K, y.w.cell? ⟨Bt, 2, none⟩ = some (.int .i64 tb.x) := fun y => ((kb y).cell (p := ⟨Bt, 2, none⟩) hltt).trans c6
                have k7 : ∀ y : Wd K, y.w.cell? ⟨Bt, 3, none⟩ = some (.int .i64 tb.y) := fun y => ((kb y).cell (p := ⟨Bt, 3, none⟩) hltt).trans c7
                clear hK hK2 hoa hob hoc c0 c1 c2 c3 c4 c5 c6 c7 c8 d0
                by_cases hz : tt = 0
                · have hzb : (tt == 0) = true := by simpa using hz
                  rw [hz] at CT
                  have hdd : decide (0 < dd) = false := by rw [hzb] at hbd; simpa using hbd
                  clear hbd hz
                  iterate 6 (go_big_quiet_step ((fail)))
                  go_big_quiet_step ((go_at_call 39; exact cls_below hK3 (CT.out _)))
                  iterate 2 (go_big_quiet_step ((fail)))
                  iterate 4 (go_big_quiet_step ((fail)))
                  go_big_quiet_step ((go_at_call 42; exact cls_below hK3 (CM1.out _)))
                  iterate 4 (go_big_quiet_step ((fail)))
                  go_big_quiet_step ((go_at_call 42; exact cls_below hK3 (CM2.out _)))
                  go_big_quiet_step ((go_at_call 41; exact cls_below hK3 (CD.out _)))
                  iterate 1 (go_big_quiet_step ((fail)))
                  refine wpQuiet_nil ?_
                  intro y
                  have hby := kb y
                  clear k0 k1 k2 k3 k4 k5 k6 k7 kb hK3 hne2
                  generalize y.w = w7 at *
                  have HBY := Lib.hid hby
                  clear hby
                  gi_wp2
                  exact ⟨keeps_below HBY.out, rfl, HI2.out.trans (HBY.out.mono HI2.out.size)⟩
                · have hzb : (tt == 0) = false := by simpa using hz
                  clear hbd hz
                  iterate 6 (go_big_quiet_step ((fail)))
                  go_big_quiet_step ((go_at_call 39; exact cls_below hK3 (CT.out _)))
                  iterate 2 (go_big_quiet_step ((fail)))
                  iterate 12 (go_big_quiet_step ((fail)))
                  refine wpQuiet_nil ?_
                  intro y
                  have hby := kb y
                  clear k0 k1 k2 k3 k4 k5 k6 k7 kb hK3 hne2
                  generalize y.w = w7 at *
                  have HBY := Lib.hid hby
                  clear hby
                  gi_wp2
                  exact ⟨keeps_below HBY.out, rfl, HI2.out.trans (HBY.out.mono HI2.out.size)⟩
              · have hknb : ((tk : Int) == (n : Int) - 1) = false := by simp; omega
                rw [if_neg (fun h => hkn h.2)] at hpk
                have CMT : Hid (∀ w, Calls Try.prog 43 #[Sd sa sb, Sd ta tb] w fun e w' => e = .returned (.bool false) ∧ Below w.heap.size w w') := fun w => meets_any w _ _ _ _ hsa hsb hta htb (by simpa using hpk)
                unfold Sd at CMT
                clear hpk
                gi_wp2
                refine ⟨trivial, ?_⟩
                refine (CallsIn.inRound lq (callsIn_wide.2 (CMT.out _))).mono ?_
                rintro e w7 ⟨rfl, hby⟩
                have HBY := Lib.hid hby
                clear hby c0 c1 c2 c3 c4 c5 c6 c7 c8 d0
                gi_wp2
                exact ⟨keeps_below HBY.out, KpS.of_below HBY.out (by omega) (by omega), HI2.out.trans (HBY.out.mono HI2.out.size)⟩
            · have hs0b : ((si : Int) == 0) = false := by simp; omega
              rw [if_neg (fun h => hs0 h.1)] at hpk
              have CMT : Hid (∀ w, Calls Try.prog 43 #[Sd sa sb, Sd ta tb] w fun e w' => e = .returned (.bool false) ∧ Below w.heap.size w w') := fun w => meets_any w _ _ _ _ hsa hsb hta htb (by simpa using hpk)
              unfold Sd at CMT
              clear hpk
              gi_wp2
              refine ⟨trivial, ?_⟩
              refine (CallsIn.inRound lq (callsIn_wide.2 (CMT.out _))).mono ?_
              rintro e w7 ⟨rfl, hby⟩
              have HBY := Lib.hid hby
              clear hby c0 c1 c2 c3 c4 c5 c6 c7 c8 d0
              gi_wp2
              exact ⟨keeps_below HBY.out, KpS.of_below HBY.out (by omega) (by omega), HI2.out.trans (HBY.out.mono HI2.out.size)⟩
    · gi_wp2
      clear hx hxy
      refine ⟨trivial, ?_⟩
      refine (CallsIn.inRound lp (callsIn_wide.2 (sides_any _ _ _ _))).mono ?_
      rintro e w5 ⟨rfl, hw5⟩
      have hb5 : Below X.heap.size X w5 := by rw [hw5]; exact (Below.refl _ _).alloc (Nat.le_refl _) _
      have hs5 : X.heap.size < w5.heap.size := by rw [hw5]; simp
      have hbx5 : w5.cell? ⟨X.heap.size, 0, none⟩ = some (.slice A n c) := by rw [hw5]; simp
      have hr5 : w5.heap[lp]? = some (.loop r) := (hb5.block lp (Array.getElem?_eq_some_iff.1 hr).1).trans hr
      have hrd5 : Rd w5 (· < gp) 2 (.slice A n c) n (ps.flatMap Pl.cells) := by
        have := (HI.out.bel.trans (hb5.mono HI.out.bel.size))
        rw [hgp] at this
        exact HR.out.below this
      clear hw5 c0 c1 c2 c3 d0 hr
      gi_wp2
      refine wpIn_rangeFunc_ownN (l₀ := lp) (r₀ := r) rfl hr5 (by decide) (gf := 35) (lb := #[.pointer (some ⟨X.heap.size, 0, none⟩)]) rfl trivial (enters Try.func35 (by kernel_rfl) rfl)
        ((sides1_stops 4 (by decide) w5 X.heap.size gp n c A ps hbx5 hrd5 (by omega) (by omega)).inRound lp) KpS.trans (kpS_b (by omega) (by omega)) (Below.refl _ _) (fun _ => rfl)
        (fun (pre' : List (SideOf ps)) Y => Below w5.heap.size w5 Y) (fun cd _ Y => cd = .exit 1 ∧ Below w5.heap.size w5 Y)
        (fun s Y Z row hs hg hr => hs.grown hg hs.size fun k e => (hr k e).1) (fun _ s Y Z row hs hg hr => ⟨hs.1, hs.2.grown hg hs.2.size fun k e => (hr k e).1⟩) (Below.refl _ _)
        (fun q2 a' Y => RoundI gp Bi Bx w5.heap.size q2.1.1 q2.1.2.1 q2.1.2.2 a' Y)
        (fun q2 a' _ Y Z row hs hg hr => ?hax2) ?assign2 ?body2 ?done2 ?stop2
      case hax2 =>
        obtain ⟨g1, g2, g3, g4, g5, g6, g7, g8, Bt, hBt, g9, g10⟩ := hs
        exact ⟨g1, g2, g3, g4, g5, g6, g7, g8, Bt, hBt, g9, (hg.block Bt (Array.getElem?_eq_some_iff.1 g10).1 (fun e => by obtain ⟨_, o, ho, hc⟩ := hr Bt e.symm; rw [g10] at ho; cases ho; cases hc)).trans g10⟩
      case assign2 =>
        intro lq pre' q2 Y K hi hK
        unfold encSd Sd
        have hYs := hi.size
        gi_wp2
        exact hK _ _ ((KeepsOthers.alloc _ _).from _) (KpS.of_below ((Below.refl _ Y).alloc (Nat.le_refl _) _) (by omega) (by omega)) (hi.alloc hYs _) ⟨rfl, rfl, rfl, rfl, rfl, rfl, rfl, rfl, Y.heap.size, hYs, rfl, heap_alloc_new Y _⟩
      case stop2 =>
        intro cd pre' Y _ hIx
        obtain ⟨rfl, hb⟩ := hIx
        have hXY : Below X.heap.size X Y := hb5.trans (hb.mono hb5.size)
        have hI9 := HI.out.ext hXY
        gi_wp2
        exact ⟨keeps_below hXY, KpS.of_below hXY (by omega) (by omega), hI9⟩
      case done2 =>
        intro xs Y hS hb
        have hXY : Below X.heap.size X Y := hb5.trans (hb.mono hb5.size)
        have hI9 := HI.out.ext hXY
        gi_wp2
        exact ⟨keeps_below hXY, KpS.of_below hXY (by omega) (by omega), hI9⟩
      case body2 =>
        intro lq pre' q2 a2 Y hlq hrec2 hI2 hA2 hlen2
        obtain ⟨g1, g2, g3, g4, g5, g6, g7, g8, Bt, hBt, g9, g10⟩ := hA2
        obtain ⟨T2, dfs2⟩ := a2
        dsimp only at g1 g2 g3 g4 g5 g6 g7 g8 g9
        subst g8
        obtain ⟨f2, rfl⟩ := frame89b g1 g2 g3 g4 g5 g6 g7 g9
        clear g1 g2 g3 g4 g5 g6 g7 g9 hrec2
        obtain ⟨⟨tk, ta, tb⟩, hq2⟩ := q2
        dsimp only at *
        have hpk := HPAIR.out _ hq2
        unfold pairOk at hpk
        dsimp only at hpk
        have htk := side_ok HOK.out hq2
        have htn : tk < n := by rw [HN.out]; exact htk.1
        have hta := htk.2.1
        have htb := htk.2.2
        have hsa := HSD.out.2.1
        have hsb := HSD.out.2.2
        dsimp only at hta htb
        rw [← HN.out] at hpk
        have HI2 := Lib.hid hI2
        have hXY : Below X.heap.size X Y := hb5.trans (hI2.mono hb5.size)
        have hYs := hI2.size
        have hYX := hXY.size
        have hltx : Bx < Y.heap.size := by omega
        have hltt : Bt < Y.heap.size := (Array.getElem?_eq_some_iff.1 g10).1
        have hx := HBX.out Y hXY
        unfold sideC at hx g10
        have c0 : Y.cell? ⟨Bx, 0, none⟩ = some (.int .i64 sa.x) := by rw [cell_of_row Y Bx 0 _ _ _ hx]; rfl
        have c1 : Y.cell? ⟨Bx, 1, none⟩ = some (.int .i64 sa.y) := by rw [cell_of_row Y Bx 1 _ _ _ hx]; rfl
        have c2 : Y.cell? ⟨Bx, 2, none⟩ = some (.int .i64 sb.x) := by rw [cell_of_row Y Bx 2 _ _ _ hx]; rfl
        have c3 : Y.cell? ⟨Bx, 3, none⟩ = some (.int .i64 sb.y) := by rw [cell_of_row Y Bx 3 _ _ _ hx]; rfl
        have c4 : Y.cell? ⟨Bt, 0, none⟩ = some (.int .i64 ta.x) := by rw [cell_of_row Y Bt 0 _ _ _ g10]; rfl
        have c5 : Y.cell? ⟨Bt, 1, none⟩ = some (.int .i64 ta.y) := by rw [cell_of_row Y Bt 1 _ _ _ g10]; rfl
        have c6 : Y.cell? ⟨Bt, 2, none⟩ = some (.int .i64 tb.x) := by rw [cell_of_row Y Bt 2 _ _ _ g10]; rfl
        have c7 : Y.cell? ⟨Bt, 3, none⟩ = some (.int .i64 tb.y) := by rw [cell_of_row Y Bt 3 _ _ _ g10]; rfl
        have c8 : Y.cell? ⟨Bi, 0, none⟩ = some (.int .i64 si) := by rw [cell_of_row Y Bi 0 _ _ _ (HBI.out Y hXY)]; rfl
        have d0 : Y.cell? ⟨gp + 1 + 1, 0, none⟩ = some (.int .i64 n) := (HI.out.ext hXY).st.blk_cell (i := 2) rfl 0
        clear hx g10 hI2
        by_cases hk0 : tk ≤ si
        · have hk0b : decide ((tk : Int) ≤ si) = true := by simp; omega
          clear hpk
          gi_wp2
          exact ⟨KeepsFrom.refl _ _, KpS.refl _ _ _, HI2.out⟩
        · have hk0b : decide ((tk : Int) ≤ si) = false := by simp; omega
          rw [if_neg hk0] at hpk
          by_cases hk1 : tk = si + 1
          · have hk1b : ((tk : Int) == (si : Int) + 1) = true := by simp; omega
            rw [if_pos hk1] at hpk
            have hbd : bendP sa sb tb = false := by simpa using hpk
            have hoa : sa.ok 1000 := by first | exact hsa | exact hsb | exact hta | exact htb
            have hob : sb.ok 1000 := by first | exact hsa | exact hsb | exact hta | exact htb
            have hoc : tb.ok 1000 := by first | exact hsa | exact hsb | exact hta | exact htb
            have CT : Hid (∀ w, Calls Try.prog 39 #[sa.val, sb.val, tb.val] w fun e w' => e = .returned (.int .i64 (turnP sa sb tb)) ∧ Below w.heap.size w w') := fun w => turn_any w _ _ _ hoa hob hoc
            have CM1 : Hid (∀ w, Calls Try.prog 42 #[sa.val, sb.val] w fun e w' => e = .returned (minusP sa sb).val ∧ Below w.heap.size w w') := fun w => minus_any w _ _ (ok_mono hoa (by omega)) (ok_mono hob (by omega))
            have CM2 : Hid (∀ w, Calls Try.prog 42 #[tb.val, sb.val] w fun e w' => e = .returned (minusP tb sb).val ∧ Below w.heap.size w w') := fun w => minus_any w _ _ (ok_mono hoc (by omega)) (ok_mono hob (by omega))
            have CD : Hid (∀ w, Calls Try.prog 41 #[(minusP sa sb).val, (minusP tb sb).val] w fun e w' => e = .returned (.int .i64 (dotP (minusP sa sb) (minusP tb sb))) ∧ Below w.heap.size w w') := fun w => dot_any w _ _ (ok_mono (minus_ok hoa hob) (by omega)) (ok_mono (minus_ok hoc hob) (by omega))
            unfold bendP at hbd
            unfold Pl.val at CT CM1 CM2 CD
            generalize dotP (minusP sa sb) (minusP tb sb) = dd at *
            generalize minusP sa sb = mm1 at *
            generalize minusP tb sb = mm2 at *
            generalize turnP sa sb tb = tt at *
            gi_wp2
            refine wpIn_cls 21 (fun w' => Below Y.heap.size Y w') (by kernel_rfl) (by kernel_rfl) (by kernel_rfl) (Below.refl _ _).drew ?_
            simp only [List.take_succ_cons, List.take_zero, List.drop_succ_cons, List.drop_zero]
            have hK2 : ∀ w w' : World, Below Y.heap.size Y w → Below w.heap.size w w' → Below Y.heap.size Y w' := fun w w' h h' => h.trans (h'.mono h.size)
            generalize hK : (fun w' => Below Y.heap.size Y w') = K
            intro hne2
            have kb : ∀ y : Wd K, Below Y.heap.size Y y.w := by subst hK; exact fun y => y.h
            have hK3 : ∀ w w' : World, K w → Below w.heap.size w w' → K w' := by subst hK; exact hK2
            have k0 : ∀ y : Wd K, y.w.cell? ⟨Bx, 0, none⟩ = some (.int .i64 sa.x) := fun y => ((kb y).cell (p := ⟨Bx, 0, none⟩) hltx).trans c0
            have k1 : ∀ y : Wd K, y.w.cell? ⟨Bx, 1, none⟩ = some (.int .i64 sa.y) := fun y => ((kb y).cell (p := ⟨Bx, 1, none⟩) hltx).trans c1
            have k2 : ∀ y : Wd K, y.w.cell? ⟨Bx, 2, none⟩ = some (.int .i64 sb.x) := fun y => ((kb y).cell (p := ⟨Bx, 2, none⟩) hltx).trans c2
            have k3 : ∀ y : Wd K, y.w.cell? ⟨Bx, 3, none⟩ = some (.int .i64 sb.y) := fun y => ((kb y).cell (p := ⟨Bx, 3, none⟩) hltx).trans c3
            have k4 : ∀ y : Wd K, y.w.cell? ⟨Bt, 0, none⟩ = some (.int .i64 ta.x) := fun y => ((kb y).cell (p := ⟨Bt, 0, none⟩) hltt).trans c4
            have k5 : ∀ y : Wd K, y.w.cell? ⟨Bt, 1, none⟩ = some (.int .i64 ta.y) := fun y => ((kb y).cell (p := ⟨Bt, 1, none⟩) hltt).trans c5
            have k6 : ∀ y : Wd K, y.w.cell? ⟨Bt, 2, none⟩ = some (.int .i64 tb.x) := fun y => ((kb y).cell (p := ⟨Bt, 2, none⟩) hltt).trans c6
            have k7 : ∀ y : Wd K, y.w.cell? ⟨Bt, 3, none⟩ = some (.int .i64 tb.y) := fun y => ((kb y).cell (p := ⟨Bt, 3, none⟩) hltt).trans c7
            clear hK hK2 hoa hob hoc c0 c1 c2 c3 c4 c5 c6 c7 c8 d0
            by_cases hz : tt = 0
            · have hzb : (tt == 0) = true := by simpa using hz
              rw [hz] at CT
              have hdd : decide (0 < dd) = false := by rw [hzb] at hbd; simpa using hbd
              clear hbd hz
              iterate 6 (go_big_quiet_step ((fail)))
              go_big_quiet_step ((go_at_call 39; exact cls_below hK3 (CT.out _)))
              iterate 2 (go_big_quiet_step ((fail)))
              iterate 4 (go_big_quiet_step ((fail)))
              go_big_quiet_step ((go_at_call 42; exact cls_below hK3 (CM1.out _)))
              iterate 4 (go_big_quiet_step ((fail)))
              go_big_quiet_step ((go_at_call 42; exact cls_below hK3 (CM2.out _)))
              go_big_quiet_step ((go_at_call 41; exact cls_below hK3 (CD.out _)))
              iterate 1 (go_big_quiet_step ((fail)))
              refine wpQuiet_nil ?_
              intro y
              have hby := kb y
              clear k0 k1 k2 k3 k4 k5 k6 k7 kb hK3 hne2
              generalize y.w = w7 at *
              have HBY := Lib.hid hby
              clear hby
              gi_wp2
              exact ⟨keeps_below HBY.out, KpS.of_below HBY.out (by omega) (by omega), HI2.out.trans (HBY.out.mono HI2.out.size)⟩
            · have hzb : (tt == 0) = false := by simpa using hz
              clear hbd hz
              iterate 6 (go_big_quiet_step ((fail)))
              go_big_quiet_step ((go_at_call 39; exact cls_below hK3 (CT.out _)))
              iterate 2 (go_big_quiet_step ((fail)))
              iterate 12 (go_big_quiet_step ((fail)))
              refine wpQuiet_nil ?_
              intro y
              have hby := kb y
              clear k0 k1 k2 k3 k4 k5 k6 k7 kb hK3 hne2
              generalize y.w = w7 at *
              have HBY := Lib.hid hby
              clear hby
              gi_wp2
              exact ⟨keeps_below HBY.out, KpS.of_below HBY.out (by omega) (by omega), HI2.out.trans (HBY.out.mono HI2.out.size)⟩
          · have hk1b : ((tk : Int) == (si : Int) + 1) = false := by simp; omega
            rw [if_neg hk1] at hpk
            by_cases hs0 : si = 0
            · have hs0b : ((si : Int) == 0) = true := by simp; omega
              by_cases hkn : tk + 1 = n
              · have hknb : ((tk : Int) == (n : Int) - 1) = true := by simp; omega
                rw [if_pos ⟨hs0, hkn⟩] at hpk
                have hbd : bendP ta tb sb = false := by simpa using hpk
                have hoa : ta.ok 1000 := by first | exact hsa | exact hsb | exact hta | exact htb
                have hob : tb.ok 1000 := by first | exact hsa | exact hsb | exact hta | exact htb
                have hoc : sb.ok 1000 := by first | exact hsa | exact hsb | exact hta | exact htb
                have CT : Hid (∀ w, Calls Try.prog 39 #[ta.val, tb.val, sb.val] w fun e w' => e = .returned (.int .i64 (turnP ta tb sb)) ∧ Below w.heap.size w w') := fun w => turn_any w _ _ _ hoa hob hoc
                have CM1 : Hid (∀ w, Calls Try.prog 42 #[ta.val, tb.val] w fun e w' => e = .returned (minusP ta tb).val ∧ Below w.heap.size w w') := fun w => minus_any w _ _ (ok_mono hoa (by omega)) (ok_mono hob (by omega))
                have CM2 : Hid (∀ w, Calls Try.prog 42 #[sb.val, tb.val] w fun e w' => e = .returned (minusP sb tb).val ∧ Below w.heap.size w w') := fun w => minus_any w _ _ (ok_mono hoc (by omega)) (ok_mono hob (by omega))
                have CD : Hid (∀ w, Calls Try.prog 41 #[(minusP ta tb).val, (minusP sb tb).val] w fun e w' => e = .returned (.int .i64 (dotP (minusP ta tb) (minusP sb tb))) ∧ Below w.heap.size w w') := fun w => dot_any w _ _ (ok_mono (minus_ok hoa hob) (by omega)) (ok_mono (minus_ok hoc hob) (by omega))
                unfold bendP at hbd
                unfold Pl.val at CT CM1 CM2 CD
                generalize dotP (minusP ta tb) (minusP sb tb) = dd at *
                generalize minusP ta tb = mm1 at *
                generalize minusP sb tb = mm2 at *
                generalize turnP ta tb sb = tt at *
                gi_wp2
                refine wpIn_cls 21 (fun w' => Below Y.heap.size Y w') (by kernel_rfl) (by kernel_rfl) (by kernel_rfl) (Below.refl _ _).drew ?_
                simp only [List.take_succ_cons, List.take_zero, List.drop_succ_cons, List.drop_zero]
                have hK2 : ∀ w w' : World, Below Y.heap.size Y w → Below w.heap.size w w' → Below Y.heap.size Y w' := fun w w' h h' => h.trans (h'.mono h.size)
                generalize hK : (fun w' => Below Y.heap.size Y w') = K
                intro hne2
                have kb : ∀ y : Wd K, Below Y.heap.size Y y.w := by subst hK; exact fun y => y.h
                have hK3 : ∀ w w' : World, K w → Below w.heap.size w w' → K w' := by subst hK; exact hK2
                have k0 : ∀ y : Wd K, y.w.cell? ⟨Bx, 0, none⟩ = some (.int .i64 sa.x) := fun y => ((kb y).cell (p := ⟨Bx, 0, none⟩) hltx).trans c0
                have k1 : ∀ y : Wd K, y.w.cell? ⟨Bx, 1, none⟩ = some (.int .i64 sa.y) := fun y => ((kb y).cell (p := ⟨Bx, 1, none⟩) hltx).trans c1
                have k2 : ∀ y : Wd K, y.w.cell? ⟨Bx, 2, none⟩ = some (.int .i64 sb.x) := fun y => ((kb y).cell (p := ⟨Bx, 2, none⟩) hltx).trans c2
                have k3 : ∀ y : Wd K, y.w.cell? ⟨Bx, 3, none⟩ = some (.int .i64 sb.y) := fun y => ((kb y).cell (p := ⟨Bx, 3, none⟩) hltx).trans c3
                have k4 : ∀ y : Wd K, y.w.cell? ⟨Bt, 0, none⟩ = some (.int .i64 ta.x) := fun y => ((kb y).cell (p := ⟨Bt, 0, none⟩) hltt).trans c4
                have k5 : ∀ y : Wd K, y.w.cell? ⟨Bt, 1, none⟩ = some (.int .i64 ta.y) := fun y => ((kb y).cell (p := ⟨Bt, 1, none⟩) hltt).trans c5
                have k6 : ∀ y : Wd K, y.w.cell? ⟨Bt, 2, none⟩ = some (.int .i64 tb.x) := fun y => ((kb y).cell (p := ⟨Bt, 2, none⟩) hltt).trans c6
                have k7 : ∀ y : Wd K, y.w.cell? ⟨Bt, 3, none⟩ = some (.int .i64 tb.y) := fun y => ((kb y).cell (p := ⟨Bt, 3, none⟩) hltt).trans c7
                clear hK hK2 hoa hob hoc c0 c1 c2 c3 c4 c5 c6 c7 c8 d0
                by_cases hz : tt = 0
                · have hzb : (tt == 0) = true := by simpa using hz
                  rw [hz] at CT
                  have hdd : decide (0 < dd) = false := by rw [hzb] at hbd; simpa using hbd
                  clear hbd hz
                  iterate 6 (go_big_quiet_step ((fail)))
                  go_big_quiet_step ((go_at_call 39; exact cls_below hK3 (CT.out _)))
                  iterate 2 (go_big_quiet_step ((fail)))
                  iterate 4 (go_big_quiet_step ((fail)))
                  go_big_quiet_step ((go_at_call 42; exact cls_below hK3 (CM1.out _)))
                  iterate 4 (go_big_quiet_step ((fail)))
                  go_big_quiet_step ((go_at_call 42; exact cls_below hK3 (CM2.out _)))
                  go_big_quiet_step ((go_at_call 41; exact cls_below hK3 (CD.out _)))
                  iterate 1 (go_big_quiet_step ((fail)))
                  refine wpQuiet_nil ?_
                  intro y
                  have hby := kb y
                  clear k0 k1 k2 k3 k4 k5 k6 k7 kb hK3 hne2
                  generalize y.w = w7 at *
                  have HBY := Lib.hid hby
                  clear hby
                  gi_wp2
                  exact ⟨keeps_below HBY.out, rfl, HI2.out.trans (HBY.out.mono HI2.out.size)⟩
                · have hzb : (tt == 0) = false := by simpa using hz
                  clear hbd hz
                  iterate 6 (go_big_quiet_step ((fail)))
                  go_big_quiet_step ((go_at_call 39; exact cls_below hK3 (CT.out _)))
                  iterate 2 (go_big_quiet_step ((fail)))
                  iterate 12 (go_big_quiet_step ((fail)))
                  refine wpQuiet_nil ?_
                  intro y
                  have hby := kb y
                  clear k0 k1 k2 k3 k4 k5 k6 k7 kb hK3 hne2
                  generalize y.w = w7 at *
                  have HBY := Lib.hid hby
                  clear hby
                  gi_wp2
                  exact ⟨keeps_below HBY.out, rfl, HI2.out.trans (HBY.out.mono HI2.out.size)⟩
              · have hknb : ((tk : Int) == (n : Int) - 1) = false := by simp; omega
                rw [if_neg (fun h => hkn h.2)] at hpk
                have CMT : Hid (∀ w, Calls Try.prog 43 #[Sd sa sb, Sd ta tb] w fun e w' => e = .returned (.bool false) ∧ Below w.heap.size w w') := fun w => meets_any w _ _ _ _ hsa hsb hta htb (by simpa using hpk)
                unfold Sd at CMT
                clear hpk
                gi_wp2
                refine ⟨trivial, ?_⟩
                refine (CallsIn.inRound lq (callsIn_wide.2 (CMT.out _))).mono ?_
                rintro e w7 ⟨rfl, hby⟩
                have HBY := Lib.hid hby
                clear hby c0 c1 c2 c3 c4 c5 c6 c7 c8 d0
                gi_wp2
                exact ⟨keeps_below HBY.out, KpS.of_below HBY.out (by omega) (by omega), HI2.out.trans (HBY.out.mono HI2.out.size)⟩
            · have hs0b : ((si : Int) == 0) = false := by simp; omega
              rw [if_neg (fun h => hs0 h.1)] at hpk
              have CMT : Hid (∀ w, Calls Try.prog 43 #[Sd sa sb, Sd ta tb] w fun e w' => e = .returned (.bool false) ∧ Below w.heap.size w w') := fun w => meets_any w _ _ _ _ hsa hsb hta htb (by simpa using hpk)
              unfold Sd at CMT
              clear hpk
              gi_wp2
              refine ⟨trivial, ?_⟩
              refine (CallsIn.inRound lq (callsIn_wide.2 (CMT.out _))).mono ?_
              rintro e w7 ⟨rfl, hby⟩
              have HBY := Lib.hid hby
              clear hby c0 c1 c2 c3 c4 c5 c6 c7 c8 d0
              gi_wp2
              exact ⟨keeps_below HBY.out, KpS.of_below HBY.out (by omega) (by omega), HI2.out.trans (HBY.out.mono HI2.out.size)⟩
end Go.Proofs.Ythgkngngmjonkaa
