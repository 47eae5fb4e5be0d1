/- Part 8 of the walks of the golf union's program: KK, KM, KN. -/
import Derived.Test.YthgkngngmjonkaaB07
set_option linter.unusedVariables false
set_option linter.unusedSimpArgs false
set_option linter.unusedSectionVars false
set_option linter.constructorNameAsVariable false
/- TopLinksPlans: Twice. -/
namespace Go.Plan
def sumC (l : List (Nat × Pl × Pl)) : Int := l.foldl (fun s p => s + crossP p.2.1 p.2.2) 0
theorem sumC_snoc (l : List (Nat × Pl × Pl)) (p : Nat × Pl × Pl) : sumC (l ++ [p]) = sumC l + crossP p.2.1 p.2.2 := by rw [sumC, List.foldl_append]; rfl
theorem getD_ok {ps : List Pl} {m : Int} (h : ∀ p ∈ ps, p.ok m) {i : Nat} (hi : i < ps.length) : (ps.getD i ⟨0, 0⟩).ok m := by
  rw [List.getD_eq_getElem?_getD, List.getElem?_eq_getElem hi]
  exact h _ (List.getElem_mem hi)
theorem side_ok {ps : List Pl} {m : Int} (h : ∀ p ∈ ps, p.ok m) {p : Nat × Pl × Pl} (hp : IsSide ps p) : p.1 < ps.length ∧ p.2.1.ok m ∧ p.2.2.ok m := by
  obtain ⟨i, hi, rfl⟩ := List.mem_map.1 hp
  have hi' := List.mem_range.1 hi
  exact ⟨hi', getD_ok h hi', getD_ok h (Nat.mod_lt _ (by omega))⟩
theorem cross_bd {a b : Pl} (ha : a.ok 1000) (hb : b.ok 1000) : -2000000 ≤ crossP a b ∧ crossP a b ≤ 2000000 := by
  have h1 := mul_bd (m := 1000) (by omega) ha.1 hb.2
  have h2 := mul_bd (m := 1000) (by omega) ha.2 hb.1
  unfold crossP
  omega
theorem sumC_bd' {ps : List Pl} (h : ∀ p ∈ ps, p.ok 1000) : ∀ (l : List (SideOf ps)) (s : Int), s - 2000000 * (l.length : Int) ≤ (l.map (·.1)).foldl (fun s p => s + crossP p.2.1 p.2.2) s ∧ (l.map (·.1)).foldl (fun s p => s + crossP p.2.1 p.2.2) s ≤ s + 2000000 * (l.length : Int)
  | [], s => by simp
  | p :: l, s => by
    have hp := side_ok h p.2
    have hc := cross_bd hp.2.1 hp.2.2
    have := sumC_bd' h l (s + crossP p.1.2.1 p.1.2.2)
    rw [List.map_cons, List.foldl_cons, List.length_cons]
    omega
theorem sumC_bd {ps : List Pl} (h : ∀ p ∈ ps, p.ok 1000) (l : List (SideOf ps)) : -2000000 * (l.length : Int) ≤ sumC (l.map (·.1)) ∧ sumC (l.map (·.1)) ≤ 2000000 * (l.length : Int) := by
  have := sumC_bd' h l 0
  unfold sumC
  omega
end Go.Plan
namespace Go.Proofs.Ythgkngngmjonkaa
open Go.RowKit Go.Mem Go.Sheet Go.Plan Go.Shelf
attribute [local go_sem] Oper.semAt_some
/-- the frame of a round of Twice -/
def RoundT (gs B5 : Nat) (a b : Pl) (t : Act) (X : World) : Prop :=
  t.tmps.size = 28 ∧ t.tmps.getD 5 undef = .pointer (some ⟨gs, 0, none⟩) ∧ t.defers = [] ∧ ∃ Bx, B5 ≤ Bx ∧ t.tmps.getD 7 undef = .pointer (some ⟨Bx, 0, none⟩) ∧ X.heap[Bx]? = some (.cells #[.int .i64 a.x, .int .i64 a.y, .int .i64 b.x, .int .i64 b.y] 65 (0, 0))
def RetT (W : World) (s : Int) (e : Ending) (w' : World) : Prop := e = .returned (.tuple #[.int .i64 (max s (-s)), .int .i64 0]) ∧ Below W.heap.size W w'
set_option maxRecDepth 100000 in
set_option maxHeartbeats 4000000 in
theorem twice_any (W : World) (A : Option Addr) (n c : Nat) (ps : List Pl) (h : Rd W (· < W.heap.size) 2 (.slice A n c) n (ps.flatMap Pl.cells)) (hn : n ≤ 100) (hok : ∀ p ∈ ps, p.ok 1000)
    (hcp : ∀ w, Below W.heap.size W w → Calls Try.prog 24 #[.slice A n c] w fun e w' => e = .returned (.int .i64 0) ∧ Below w.heap.size w w') :
    Calls Try.prog 11 #[.slice A n c] W (RetT W (sumC (sidesTo ps n))) := by
  have HCP := Lib.hid (hcp W (Below.refl _ _))
  have HR := Lib.hid h
  have HOK := Lib.hid hok
  clear hcp h hok
  refine (callsIn_wide (n := 6)).1 (callsIn_of_wp_marks Try.func11 rfl trivial (wpIn_wide.2 ?_) rfl)
  simp only [Try.ntmps11, List.size_toArray, List.length_cons, List.length_nil, Nat.reduceAdd, Nat.reduceSub, Array.replicate_succ, Array.replicate_zero, List.push_toArray, List.append_toArray, List.nil_append, List.cons_append]
  go_wp2_with fail
  refine HCP.out.mono ?_
  rintro e w1 ⟨rfl, hb1⟩
  have S0 := (St.of_below hb1).blk_new #[.int .i64 0] 3
  simp only [List.nil_append] at S0
  have hsz1 := hb1.size
  clear HCP hb1
  go_wp2_with fail
  refine (sides_any _ _ _ _).mono ?_
  rintro e w3 ⟨rfl, hw3⟩
  have S1 := S0.blk_new #[.slice A n c] 41
  simp only [World.size_alloc, List.cons_append, List.nil_append] at S1 hw3
  rw [← hw3] at S1
  clear hw3 S0
  simp only [World.size_alloc]
  generalize w1.heap.size = gs at *
  have HS1 := Lib.hid S1
  have hbx := S1.blk_cell (i := 1) rfl 0
  have hB2 := (S1.blk_at (i := 1) rfl).2.1
  have hrd : Rd w3 (· < W.heap.size) 2 (.slice A n c) n (ps.flatMap Pl.cells) := HR.out.below S1.bel
  go_wp2
  refine (wpIn_wide (n := 5)).1 ?_
  refine wpIn_rangeFunc_ownH (F := Fence.wide) rfl (by decide) (gf := 35) (lb := #[.pointer (some ⟨gs + 1, 0, none⟩)]) rfl trivial (enters Try.func35 (by kernel_rfl) rfl)
    (sides1_stops 4 (by decide) w3 (gs + 1) W.heap.size n c A ps hbx hrd (HS1.out.size) (by omega)) KpS.trans (kpS_b HS1.out.size hB2) (Below.refl _ _) (fun _ => rfl)
    (fun (pre : List (SideOf ps)) X => StB W w3.heap.size X [blk gs 3 #[.int .i64 (sumC (pre.map (·.1)))], blk (gs + 1) 41 #[.slice A n c]])
    (fun _ _ _ => False) (fun s X Y row hs hg hr => hs.turn hg fun r e => (hr r e).1) (fun _ _ _ _ _ h _ _ => h.elim) HS1.out.toB
    (fun p a' X => RoundT gs w3.heap.size p.1.2.1 p.1.2.2 a' X)
    (fun p a' _ X Y row hs hg hr => ?hax) ?assign ?body ?done ?stop
  case hax =>
    obtain ⟨h1, h2, h3, Bx, h7, h8, h9⟩ := hs
    exact ⟨h1, h2, h3, Bx, h7, h8, (hg.block Bx (Array.getElem?_eq_some_iff.1 h9).1 (fun e => by obtain ⟨_, o, ho, hc⟩ := hr Bx e.symm; rw [h9] at ho; cases ho; cases hc)).trans h9⟩
  case assign =>
    intro lp pre p X K hi hK
    unfold encSd Sd
    gi_wp2
    exact hK _ _ ((KeepsOthers.alloc _ _).from _) (KpS.of_below ((Below.refl _ X).alloc (Nat.le_refl _) _) hi.bel.size (by have := hi.hi; omega)) (hi.ext ((Below.refl _ _).alloc (Nat.le_refl _) _)) ⟨rfl, rfl, rfl, X.heap.size, hi.hi, rfl, heap_alloc_new X _⟩
  case stop =>
    intro D cc pre X _ _ h _
    exact h.elim
  case body =>
    intro lp pre p a' X hlp hrec hI hA5 hlen5
    obtain ⟨h1, h2, h3, Bx, h7, h8, h9⟩ := hA5
    obtain ⟨T, dfs⟩ := a'
    dsimp only at h1 h2 h3 h8
    subst h3
    obtain ⟨f, rfl⟩ := frame28 h1 h2 h8
    clear h1 h2 h8 hrec
    have hsd := side_ok HOK.out p.2
    have hcr := cross_bd hsd.2.1 hsd.2.2
    have HCR : Hid (∀ w, Calls Try.prog 26 #[p.1.2.1.val, p.1.2.2.val] w fun e w' => e = .returned (.int .i64 (crossP p.1.2.1 p.1.2.2)) ∧ Below w.heap.size w w') := fun w => cross_any w _ _ (ok_mono hsd.2.1 (by omega)) (ok_mono hsd.2.2 (by omega))
    have hsm := sumC_bd HOK.out pre
    have hsn := sumC_snoc (pre.map (·.1)) p.1
    have HSN := Lib.hid hsn
    have happ : (pre ++ [p]).map (·.1) = pre.map (·.1) ++ [p.1] := by rw [List.map_append]; rfl
    have HAPP := Lib.hid happ
    clear hsn happ hsd
    generalize hcc : crossP p.1.2.1 p.1.2.2 = cc at *
    generalize hss : sumC (pre.map (·.1)) = ss at *
    have hb0 : X.cell? ⟨Bx, 0, none⟩ = some (.int .i64 p.1.2.1.x) := by rw [cell_of_row X Bx 0 _ _ _ h9]; rfl
    have hb1 : X.cell? ⟨Bx, 1, none⟩ = some (.int .i64 p.1.2.1.y) := by rw [cell_of_row X Bx 1 _ _ _ h9]; rfl
    have hb2 : X.cell? ⟨Bx, 2, none⟩ = some (.int .i64 p.1.2.2.x) := by rw [cell_of_row X Bx 2 _ _ _ h9]; rfl
    have hb3 : X.cell? ⟨Bx, 3, none⟩ = some (.int .i64 p.1.2.2.y) := by rw [cell_of_row X Bx 3 _ _ _ h9]; rfl
    have hbxlt : Bx < X.heap.size := (Array.getElem?_eq_some_iff.1 h9).1
    have hd0 := hI.st.blk_cell (i := 0) rfl 0
    have hdlt := (hI.st.blk_at (i := 0) rfl).2.1
    have HI := Lib.hid hI
    have hlen : (pre.length : Int) < 100 := by omega
    clear h9 hI
    unfold Pl.val at HCR
    generalize p.1.2.1 = pa at *
    generalize p.1.2.2 = pb at *
    gi_wp2
    refine wpIn_cls 7 (fun w' => Below X.heap.size X w') (by kernel_rfl) (by kernel_rfl) (by kernel_rfl) (Below.refl _ _).drew ?_
    simp only [List.take_succ_cons, List.take_zero, List.drop_succ_cons, List.drop_zero]
    have hK2 : ∀ w w' : World, Below X.heap.size X w → Below w.heap.size w w' → Below X.heap.size X w' := fun w w' h h' => h.trans (h'.mono h.size)
    generalize hK : (fun w' => Below X.heap.size X w') = K
    intro hne
    have kb : ∀ y : Wd K, Below X.heap.size X y.w := by subst hK; exact fun y => y.h
    have hK3 : ∀ w w' : World, K w → Below w.heap.size w w' → K w' := by subst hK; exact hK2
    have k0 : ∀ y : Wd K, y.w.cell? ⟨gs, 0, none⟩ = some (.int .i64 ss) := fun y => ((kb y).cell (p := ⟨gs, 0, none⟩) hdlt).trans hd0
    have k1 : ∀ y : Wd K, y.w.cell? ⟨Bx, 0, none⟩ = some (.int .i64 pa.x) := fun y => ((kb y).cell (p := ⟨Bx, 0, none⟩) hbxlt).trans hb0
    have k2 : ∀ y : Wd K, y.w.cell? ⟨Bx, 1, none⟩ = some (.int .i64 pa.y) := fun y => ((kb y).cell (p := ⟨Bx, 1, none⟩) hbxlt).trans hb1
    have k3 : ∀ y : Wd K, y.w.cell? ⟨Bx, 2, none⟩ = some (.int .i64 pb.x) := fun y => ((kb y).cell (p := ⟨Bx, 2, none⟩) hbxlt).trans hb2
    have k4 : ∀ y : Wd K, y.w.cell? ⟨Bx, 3, none⟩ = some (.int .i64 pb.y) := fun y => ((kb y).cell (p := ⟨Bx, 3, none⟩) hbxlt).trans hb3
    clear hK hK2
    iterate 5 (go_big_quiet_step ((fail)))
    go_big_quiet_step ((go_at_call 26; exact cls_below hK3 (HCR.out _)))
    go_big_quiet_step ((fail))
    refine wpQuiet_nil ?_
    intro y
    have hby := kb y
    clear k0 k1 k2 k3 k4 kb hK3 hne hb0 hb1 hb2 hb3 hd0
    generalize y.w = w5 at *
    have S5 := HI.out.ext hby
    have d0 := S5.st.blk_cell (i := 0) rfl 0
    have d1 := S5.st.blk_frozen (i := 0) rfl 0
    have S6 := S5.blk_set (i := 0) rfl 0 (.int .i64 (ss + cc))
    have hkf : KeepsFrom w3.heap.size X w5 := keeps_below hby
    have hbl : KpS W.heap.size (gs + 1) X (w5.setCell ⟨gs, 0, none⟩ (.int .i64 (ss + cc))) := (KpS.of_below hby HI.out.bel.size (by have := HI.out.hi; omega)).trans ⟨(Below.refl _ _).setCell (p := ⟨gs, 0, none⟩) hsz1 _, Below.heap_setCell _ _ _ _ (by show gs + 1 ≠ gs; omega)⟩
    have HS6 : Hid (StB W w3.heap.size (w5.setCell ⟨gs, 0, none⟩ (.int .i64 (ss + cc))) [blk gs 3 #[.int .i64 (sumC ((pre ++ [p]).map (·.1)))], blk (gs + 1) 41 #[.slice A n c]]) := by
      show StB _ _ _ _
      rw [HAPP.out, HSN.out]
      exact S6
    clear S5 S6 hby
    gi_wp2
    exact ⟨hkf.trans ((KeepsOthers.setCell _ _ _).from _), hbl, HS6.out⟩
  case done =>
    intro D xs X hD hS hI hK
    have hS' : xs.map (·.1) = sidesTo ps n := hS
    have hbd := sumC_bd HOK.out xs
    have hlx : xs.length = n := by have := congrArg List.length hS'; simpa [sidesTo] using this
    rw [hS'] at hI hbd
    have S6 := hI.push_obj hD hK
    have HS6 := Lib.hid S6
    have d0 := S6.blk_cell (i := 0) rfl 0
    clear hI hK hS hS' S6 S1
    generalize sumC (sidesTo ps n) = ss at *
    go_wp2
    have hK := HS6.out.obj_at (i := 2) rfl
    have HEND := (HS6.out.obj_set (i := 2) rfl (.deferred none)).bel
    refine ⟨by simp, .inl ⟨_, _, rfl, run_takeDeferred hK, ?_⟩⟩
    exact ⟨_, results_tmp2 rfl _ _ _, rfl, HEND⟩
end Go.Proofs.Ythgkngngmjonkaa
/- TopLinksPlans: meets, where two sides have no point in common. -/
namespace Go.Plan
def meetsP (a b c d : Pl) : Bool := hasP a b c || hasP a b d || hasP c d a || hasP c d b || (decide (turnP a b c * turnP a b d < 0) && decide (turnP c d a * turnP c d b < 0))
theorem turn_mul (a b c a' b' c' : Pl) : -1 ≤ turnP a b c * turnP a' b' c' ∧ turnP a b c * turnP a' b' c' ≤ 1 := by
  rcases turn_cases a b c with h | h | h <;> rcases turn_cases a' b' c' with h' | h' | h' <;> rw [h, h'] <;> decide
end Go.Plan
namespace Go.Proofs.Ythgkngngmjonkaa
open Go.RowKit Go.Mem Go.Sheet Go.Plan
set_option maxRecDepth 100000 in
set_option maxHeartbeats 2000000 in
theorem meets_any (W : World) (a b c d : Pl) (ha : a.ok 1000) (hb : b.ok 1000) (hc : c.ok 1000) (hd : d.ok 1000) (hm : meetsP a b c d = false) : Calls Try.prog 43 #[Sd a b, Sd c d] W fun e w' => e = .returned (.bool false) ∧ Below W.heap.size W w' := by
  unfold meetsP at hm
  simp only [Bool.or_eq_false_iff, Bool.and_eq_false_iff] at hm
  obtain ⟨⟨⟨⟨g1, g2⟩, g3⟩, g4⟩, g5⟩ := hm
  have H1 : Hid (∀ w, Calls Try.prog 38 #[Sd a b, c.val] w fun e w' => e = .returned (.bool false) ∧ Below w.heap.size w w') := fun w => by have := has_any w a b c ha hb hc; rwa [g1] at this
  have H2 : Hid (∀ w, Calls Try.prog 38 #[Sd a b, d.val] w fun e w' => e = .returned (.bool false) ∧ Below w.heap.size w w') := fun w => by have := has_any w a b d ha hb hd; rwa [g2] at this
  have H3 : Hid (∀ w, Calls Try.prog 38 #[Sd c d, a.val] w fun e w' => e = .returned (.bool false) ∧ Below w.heap.size w w') := fun w => by have := has_any w c d a hc hd ha; rwa [g3] at this
  have H4 : Hid (∀ w, Calls Try.prog 38 #[Sd c d, b.val] w fun e w' => e = .returned (.bool false) ∧ Below w.heap.size w w') := fun w => by have := has_any w c d b hc hd hb; rwa [g4] at this
  have T1 : Hid (∀ w, Calls Try.prog 39 #[a.val, b.val, c.val] w fun e w' => e = .returned (.int .i64 (turnP a b c)) ∧ Below w.heap.size w w') := fun w => turn_any w a b c ha hb hc
  have T2 : Hid (∀ w, Calls Try.prog 39 #[a.val, b.val, d.val] w fun e w' => e = .returned (.int .i64 (turnP a b d)) ∧ Below w.heap.size w w') := fun w => turn_any w a b d ha hb hd
  have T3 : Hid (∀ w, Calls Try.prog 39 #[c.val, d.val, a.val] w fun e w' => e = .returned (.int .i64 (turnP c d a)) ∧ Below w.heap.size w w') := fun w => turn_any w c d a hc hd ha
  have T4 : Hid (∀ w, Calls Try.prog 39 #[c.val, d.val, b.val] w fun e w' => e = .returned (.int .i64 (turnP c d b)) ∧ Below w.heap.size w w') := fun w => turn_any w c d b hc hd hb
  have m1 := turn_mul a b c a b d
  have m2 := turn_mul c d a c d b
  generalize turnP a b c = t1 at *
  generalize turnP a b d = t2 at *
  generalize turnP c d a = t3 at *
  generalize turnP c d b = t4 at *
  have S0 := ((St.refl W).blk_new #[.int .i64 a.x, .int .i64 a.y, .int .i64 b.x, .int .i64 b.y] 65).blk_new #[.int .i64 c.x, .int .i64 c.y, .int .i64 d.x, .int .i64 d.y] 65
  simp only [List.nil_append, List.cons_append, World.size_alloc] at S0
  clear g1 g2 g3 g4 ha hb hc hd
  unfold Sd Pl.val at *
  go_enter Try.func43, Try.ntmps43
  have HS0 := Lib.hid S0
  clear S0
  go_wp2_with fail
  generalize ((W.alloc (.cells #[.int .i64 a.x, .int .i64 a.y, .int .i64 b.x, .int .i64 b.y] 65)).alloc (.cells #[.int .i64 c.x, .int .i64 c.y, .int .i64 d.x, .int .i64 d.y] 65)) = w1 at *
  refine (H1.out _).mono ?_
  rintro e w2 ⟨rfl, hb1⟩
  have S1 := HS0.out.ext hb1
  have HS1 := Lib.hid S1
  have d0 := S1.blk_cell (i := 0) rfl 0
  have d1 := S1.blk_cell (i := 0) rfl 1
  have d2 := S1.blk_cell (i := 0) rfl 2
  have d3 := S1.blk_cell (i := 0) rfl 3
  have d4 := S1.blk_cell (i := 1) rfl 0
  have d5 := S1.blk_cell (i := 1) rfl 1
  have d6 := S1.blk_cell (i := 1) rfl 2
  have d7 := S1.blk_cell (i := 1) rfl 3
  clear S1 hb1 HS0
  go_wp2_with fail
  clear d0 d1 d2 d3 d4 d5 d6 d7
  refine (H2.out _).mono ?_
  rintro e w3 ⟨rfl, hb2⟩
  have S2 := HS1.out.ext hb2
  have HS2 := Lib.hid S2
  have d0 := S2.blk_cell (i := 0) rfl 0
  have d1 := S2.blk_cell (i := 0) rfl 1
  have d2 := S2.blk_cell (i := 0) rfl 2
  have d3 := S2.blk_cell (i := 0) rfl 3
  have d4 := S2.blk_cell (i := 1) rfl 0
  have d5 := S2.blk_cell (i := 1) rfl 1
  have d6 := S2.blk_cell (i := 1) rfl 2
  have d7 := S2.blk_cell (i := 1) rfl 3
  clear S2 hb2 HS1
  go_wp2_with fail
  clear d0 d1 d2 d3 d4 d5 d6 d7
  refine (H3.out _).mono ?_
  rintro e w4 ⟨rfl, hb3⟩
  have S3 := HS2.out.ext hb3
  have HS3 := Lib.hid S3
  have d0 := S3.blk_cell (i := 0) rfl 0
  have d1 := S3.blk_cell (i := 0) rfl 1
  have d2 := S3.blk_cell (i := 0) rfl 2
  have d3 := S3.blk_cell (i := 0) rfl 3
  have d4 := S3.blk_cell (i := 1) rfl 0
  have d5 := S3.blk_cell (i := 1) rfl 1
  have d6 := S3.blk_cell (i := 1) rfl 2
  have d7 := S3.blk_cell (i := 1) rfl 3
  clear S3 hb3 HS2
  go_wp2_with fail
  clear d0 d1 d2 d3 d4 d5 d6 d7
  refine (H4.out _).mono ?_
  rintro e w5 ⟨rfl, hb4⟩
  have S4 := HS3.out.ext hb4
  have HS4 := Lib.hid S4
  have d0 := S4.blk_cell (i := 0) rfl 0
  have d1 := S4.blk_cell (i := 0) rfl 1
  have d2 := S4.blk_cell (i := 0) rfl 2
  have d3 := S4.blk_cell (i := 0) rfl 3
  have d4 := S4.blk_cell (i := 1) rfl 0
  have d5 := S4.blk_cell (i := 1) rfl 1
  have d6 := S4.blk_cell (i := 1) rfl 2
  have d7 := S4.blk_cell (i := 1) rfl 3
  clear S4 hb4 HS3
  go_wp2_with fail
  clear d0 d1 d2 d3 d4 d5 d6 d7
  refine wp_cls 34 (fun w' => St W w' [blk W.heap.size 65 #[.int .i64 a.x, .int .i64 a.y, .int .i64 b.x, .int .i64 b.y], blk (W.heap.size + 1) 65 #[.int .i64 c.x, .int .i64 c.y, .int .i64 d.x, .int .i64 d.y]]) (by kernel_rfl) (by kernel_rfl) HS4.out.drew ?_
  simp only [List.take_succ_cons, List.take_zero, List.drop_succ_cons, List.drop_zero]
  generalize hK : (fun w' => St W w' [blk W.heap.size 65 #[.int .i64 a.x, .int .i64 a.y, .int .i64 b.x, .int .i64 b.y], blk (W.heap.size + 1) 65 #[.int .i64 c.x, .int .i64 c.y, .int .i64 d.x, .int .i64 d.y]]) = K
  intro hne
  have kb : ∀ y : Wd K, St W y.w [blk W.heap.size 65 #[.int .i64 a.x, .int .i64 a.y, .int .i64 b.x, .int .i64 b.y], blk (W.heap.size + 1) 65 #[.int .i64 c.x, .int .i64 c.y, .int .i64 d.x, .int .i64 d.y]] := by subst hK; exact fun y => y.h
  have hK3 : ∀ w w', K w → Below w.heap.size w w' → K w' := by subst hK; exact fun w w' h hb => h.ext hb
  have k0 : ∀ y : Wd K, y.w.cell? ⟨W.heap.size, 0, none⟩ = some (.int .i64 a.x) := fun y => (kb y).blk_cell (i := 0) rfl 0
  have k1 : ∀ y : Wd K, y.w.cell? ⟨W.heap.size, 1, none⟩ = some (.int .i64 a.y) := fun y => (kb y).blk_cell (i := 0) rfl 1
  have k2 : ∀ y : Wd K, y.w.cell? ⟨W.heap.size, 2, none⟩ = some (.int .i64 b.x) := fun y => (kb y).blk_cell (i := 0) rfl 2
  have k3 : ∀ y : Wd K, y.w.cell? ⟨W.heap.size, 3, none⟩ = some (.int .i64 b.y) := fun y => (kb y).blk_cell (i := 0) rfl 3
  have k4 : ∀ y : Wd K, y.w.cell? ⟨W.heap.size + 1, 0, none⟩ = some (.int .i64 c.x) := fun y => (kb y).blk_cell (i := 1) rfl 0
  have k5 : ∀ y : Wd K, y.w.cell? ⟨W.heap.size + 1, 1, none⟩ = some (.int .i64 c.y) := fun y => (kb y).blk_cell (i := 1) rfl 1
  have k6 : ∀ y : Wd K, y.w.cell? ⟨W.heap.size + 1, 2, none⟩ = some (.int .i64 d.x) := fun y => (kb y).blk_cell (i := 1) rfl 2
  have k7 : ∀ y : Wd K, y.w.cell? ⟨W.heap.size + 1, 3, none⟩ = some (.int .i64 d.y) := fun y => (kb y).blk_cell (i := 1) rfl 3
  clear hK HS4
  by_cases g6 : t1 * t2 < 0
  · have g7 : decide (t1 * t2 < 0) = true := by simpa using g6
    have g8 : decide (t3 * t4 < 0) = false := by
      rcases g5 with h | h
      · rw [g7] at h; cases h
      · exact h
    clear g5
    iterate 6 (go_big_quiet_step ((fail)))
    go_big_quiet_step ((go_at_call 39; exact cls_below hK3 (T1.out _)))
    iterate 6 (go_big_quiet_step ((fail)))
    go_big_quiet_step ((go_at_call 39; exact cls_below hK3 (T2.out _)))
    iterate 3 (go_big_quiet_step ((fail)))
    iterate 6 (go_big_quiet_step ((fail)))
    go_big_quiet_step ((go_at_call 39; exact cls_below hK3 (T3.out _)))
    iterate 6 (go_big_quiet_step ((fail)))
    go_big_quiet_step ((go_at_call 39; exact cls_below hK3 (T4.out _)))
    iterate 3 (go_big_quiet_step ((fail)))
    refine wpQuiet_nil ?_
    intro y
    have hb1 := (kb y).bel
    clear k0 k1 k2 k3 k4 k5 k6 k7 kb
    go_wp2_with fail
    go_ret
    exact ⟨rfl, hb1⟩
  · have g7 : decide (t1 * t2 < 0) = false := by simpa using g6
    clear g5
    iterate 6 (go_big_quiet_step ((fail)))
    go_big_quiet_step ((go_at_call 39; exact cls_below hK3 (T1.out _)))
    iterate 6 (go_big_quiet_step ((fail)))
    go_big_quiet_step ((go_at_call 39; exact cls_below hK3 (T2.out _)))
    iterate 20 (go_big_quiet_step ((fail)))
    refine wpQuiet_nil ?_
    intro y
    have hb1 := (kb y).bel
    clear k0 k1 k2 k3 k4 k5 k6 k7 kb
    go_wp2_with fail
    go_ret
    exact ⟨rfl, hb1⟩
end Go.Proofs.Ythgkngngmjonkaa
/- TopLinksPlans: contains, where the place is on no side. -/
namespace Go.Plan
def flipP (p a b : Pl) : Bool := (decide (p.y < a.y) != decide (p.y < b.y)) && (decide (0 < turnP a b p) == decide (p.y < b.y))
def inP (p : Pl) (l : List (Nat × Pl × Pl)) : Int := l.foldl (fun s q => if flipP p q.2.1 q.2.2 then -s else s) (-1)
theorem inP_snoc (p : Pl) (l : List (Nat × Pl × Pl)) (q : Nat × Pl × Pl) : inP p (l ++ [q]) = if flipP p q.2.1 q.2.2 then -inP p l else inP p l := by rw [inP, List.foldl_append]; rfl
theorem inP_bd' (p : Pl) : ∀ (l : List (Nat × Pl × Pl)) (s : Int), (-1 ≤ s ∧ s ≤ 1) → -1 ≤ l.foldl (fun s q => if flipP p q.2.1 q.2.2 then -s else s) s ∧ l.foldl (fun s q => if flipP p q.2.1 q.2.2 then -s else s) s ≤ 1
  | [], s, h => h
  | q :: l, s, h => by
    rw [List.foldl_cons]
    refine inP_bd' p l _ ?_
    split <;> omega
theorem inP_bd (p : Pl) (l : List (Nat × Pl × Pl)) : -1 ≤ inP p l ∧ inP p l ≤ 1 := inP_bd' p l (-1) (by omega)
end Go.Plan
namespace Go.Proofs.Ythgkngngmjonkaa
open Go.RowKit Go.Mem Go.Sheet Go.Plan Go.Shelf
attribute [local go_sem] Oper.semAt_some
/-- the frame of a round of contains -/
def RoundN (gp B5 : Nat) (a b : Pl) (t : Act) (X : World) : Prop :=
  t.tmps.size = 44 ∧ t.tmps.getD 3 undef = .pointer (some ⟨gp, 0, none⟩) ∧ t.tmps.getD 4 undef = .pointer (some ⟨gp + 1, 0, none⟩) ∧ t.tmps.getD 5 undef = .pointer (some ⟨gp + 1 + 1, 0, none⟩) ∧ t.defers = [] ∧
    ∃ Bx, B5 ≤ Bx ∧ t.tmps.getD 7 undef = .pointer (some ⟨Bx, 0, none⟩) ∧ X.heap[Bx]? = some (.cells #[.int .i64 a.x, .int .i64 a.y, .int .i64 b.x, .int .i64 b.y] 65 (0, 0))
def RetI (W : World) (s : Int) (e : Ending) (w' : World) : Prop := e = .returned (.int .i64 s) ∧ Below W.heap.size W w'
theorem res_contains (tmps : Array Value) (w : World) (g : Nat) (v : Int) (hp : tmps.getD 4 undef = .pointer (some ⟨g, 0, none⟩)) (hc : w.cell? ⟨g, 0, none⟩ = some (.int .i64 v)) :
    (results Try.f28 tmps).run Try.prog w = .ok (.int .i64 v) w := by
  have hp' : tmps[4]?.getD undef = .pointer (some ⟨g, 0, none⟩) := by simpa using hp
  simp [results, Try.results28, hp', hc, go_sem]
def cL (gp : Nat) (p : Pl) (r s : Int) (vl : Value) : List Asr := [blk gp 40 #[.int .i64 p.x, .int .i64 p.y], blk (gp + 1) 3 #[.int .i64 r], blk (gp + 1 + 1) 3 #[.int .i64 s], blk (gp + 1 + 1 + 1) 41 #[vl]]
set_option maxRecDepth 100000 in
set_option maxHeartbeats 4000000 in
theorem contains_any (W : World) (A : Option Addr) (n c : Nat) (ps : List Pl) (p : Pl) (h : Rd W (· < W.heap.size) 2 (.slice A n c) n (ps.flatMap Pl.cells)) (hn : n ≤ 100) (hok : ∀ q ∈ ps, q.ok 1000) (hp : p.ok 1000)
    (hno : ∀ q ∈ sidesTo ps ps.length, hasP q.2.1 q.2.2 p = false) :
    Calls Try.prog 28 #[.slice A n c, p.val] W (RetI W (inP p (sidesTo ps n))) := by
  have HR := Lib.hid h
  have HOK := Lib.hid hok
  have HNO := Lib.hid hno
  have HPK := Lib.hid hp
  clear h hok hno hp
  refine (callsIn_wide (n := 6)).1 (callsIn_of_wp_marks Try.func28 rfl trivial (wpIn_wide.2 ?_) rfl)
  simp only [Try.ntmps28, List.size_toArray, List.length_cons, List.length_nil, Nat.reduceAdd, Nat.reduceSub, Array.replicate_succ, Array.replicate_zero, List.push_toArray, List.append_toArray, List.nil_append, List.cons_append]
  unfold Pl.val
  have S0 := (((St.refl W).blk_new #[.int .i64 p.x, .int .i64 p.y] 40).blk_new #[.int .i64 0] 3).blk_new #[.int .i64 (-1)] 3
  simp only [List.nil_append, World.size_alloc, List.cons_append] at S0
  go_wp2_with fail
  refine (sides_any _ _ _ _).mono ?_
  rintro e w3 ⟨rfl, hw3⟩
  have S1 := S0.blk_new #[.slice A n c] 41
  simp only [World.size_alloc, List.cons_append, List.nil_append] at S1 hw3
  rw [← hw3] at S1
  clear hw3 S0
  simp only [World.size_alloc]
  have HS1 : Hid (St W w3 (cL W.heap.size p 0 (-1) (.slice A n c))) := S1
  have hbx : w3.cell? ⟨W.heap.size + 1 + 1 + 1, 0, none⟩ = some (.slice A n c) := S1.blk_cell (i := 3) rfl 0
  have hB2 := (S1.blk_at (i := 3) rfl).2.1
  have hrd : Rd w3 (· < W.heap.size) 2 (.slice A n c) n (ps.flatMap Pl.cells) := HR.out.below S1.bel
  clear S1
  go_wp2
  generalize hgp : W.heap.size = gp at *
  refine (wpIn_wide (n := 5)).1 ?_
  refine wpIn_rangeFunc_ownH (F := Fence.wide) rfl (by decide) (gf := 35) (lb := #[.pointer (some ⟨gp + 1 + 1 + 1, 0, none⟩)]) rfl trivial (enters Try.func35 (by kernel_rfl) rfl)
    (sides1_stops 4 (by decide) w3 (gp + 1 + 1 + 1) gp n c A ps hbx hrd (by omega) (by omega)) KpS.trans (kpS_b (by omega) hB2) (Below.refl _ _) (fun _ => rfl)
    (fun (pre : List (SideOf ps)) X => StB W w3.heap.size X (cL gp p 0 (inP p (pre.map Subtype.val)) (.slice A n c)))
    (fun _ _ _ => False) (fun s X Y row hs hg hr => hs.turn hg fun r e => (hr r e).1) (fun _ _ _ _ _ h _ _ => h.elim) HS1.out.toB
    (fun q a' X => RoundN gp w3.heap.size q.1.2.1 q.1.2.2 a' X)
    (fun q a' _ X Y row hs hg hr => ?hax) ?assign ?body ?done ?stop
  case hax =>
    obtain ⟨h1, h2, h4, h5, h3, Bx, h7, h8, h9⟩ := hs
    exact ⟨h1, h2, h4, h5, h3, Bx, h7, h8, (hg.block Bx (Array.getElem?_eq_some_iff.1 h9).1 (fun e => by obtain ⟨_, o, ho, hc⟩ := hr Bx e.symm; rw [h9] at ho; cases ho; cases hc)).trans h9⟩
  case assign =>
    intro lp pre q X K hi hK
    unfold encSd Sd
    gi_wp2
    exact hK _ _ ((KeepsOthers.alloc _ _).from _) (KpS.of_below ((Below.refl _ X).alloc (Nat.le_refl _) _) (by have := hi.bel.size; omega) (by have := hi.hi; omega)) (hi.ext ((Below.refl _ _).alloc (Nat.le_refl _) _)) ⟨rfl, rfl, rfl, rfl, rfl, X.heap.size, hi.hi, rfl, heap_alloc_new X _⟩
  case stop =>
    intro D cc pre X _ _ h _
    exact h.elim
  case done =>
    intro D xs X hD hS hI hK
    have hS' : xs.map Subtype.val = sidesTo ps n := hS
    rw [hS'] at hI
    have hbd := inP_bd p (sidesTo ps n)
    generalize inP p (sidesTo ps n) = ss at *
    have S6 := hI.push_obj hD hK
    have HS6 := Lib.hid S6
    have d0 := S6.blk_cell (i := 2) rfl 0
    have d1 := S6.blk_cell (i := 1) rfl 0
    have d2 := S6.blk_frozen (i := 1) rfl 0
    have S7 := S6.blk_set (i := 1) rfl 0 (.int .i64 ss)
    have HS7 := Lib.hid S7
    clear hI hK hS hS' S6 S7
    go_wp2
    have hK := HS7.out.obj_at (i := 4) rfl
    have HEND := (HS7.out.obj_set (i := 4) rfl (.deferred none))
    refine ⟨by simp, .inl ⟨_, _, rfl, run_takeDeferred hK, ?_⟩⟩
    exact ⟨_, res_contains _ _ (gp + 1) ss rfl (HEND.blk_cell (i := 1) rfl 0), rfl, HEND.bel⟩
  case body =>
    intro lp pre q a' X hlp hrec hI hA5 hlen5
    obtain ⟨h1, h2, h4, h5, h3, Bx, h7, h8, h9⟩ := hA5
    obtain ⟨T, dfs⟩ := a'
    dsimp only at h1 h2 h3 h4 h5 h8
    subst h3
    obtain ⟨f, rfl⟩ := frame44 h1 h2 h4 h5 h8
    clear h1 h2 h4 h5 h8 hrec
    have hsd := side_ok HOK.out q.2
    have hno := HNO.out q.1 q.2
    have HH : Hid (∀ w, Calls Try.prog 38 #[Sd q.1.2.1 q.1.2.2, p.val] w fun e w' => e = .returned (.bool false) ∧ Below w.heap.size w w') := fun w => by have := has_any w _ _ p hsd.2.1 hsd.2.2 HPK.out; rwa [hno] at this
    have HT : Hid (∀ w, Calls Try.prog 39 #[q.1.2.1.val, q.1.2.2.val, p.val] w fun e w' => e = .returned (.int .i64 (turnP q.1.2.1 q.1.2.2 p)) ∧ Below w.heap.size w w') := fun w => turn_any w _ _ p hsd.2.1 hsd.2.2 HPK.out
    have HFL : Hid (flipP p q.1.2.1 q.1.2.2 = ((decide (p.y < q.1.2.1.y) != decide (p.y < q.1.2.2.y)) && (decide (0 < turnP q.1.2.1 q.1.2.2 p) == decide (p.y < q.1.2.2.y)))) := rfl
    have happ : inP p ((pre ++ [q]).map Subtype.val) = if flipP p q.1.2.1 q.1.2.2 then -inP p (pre.map Subtype.val) else inP p (pre.map Subtype.val) := by rw [List.map_append]; exact inP_snoc _ _ _
    have HAPP := Lib.hid happ
    have hbd := inP_bd p (pre.map Subtype.val)
    generalize inP p (pre.map Subtype.val) = ss at *
    have hbxlt : Bx < X.heap.size := (Array.getElem?_eq_some_iff.1 h9).1
    have HBX : Hid (∀ w, Below X.heap.size X w → w.heap[Bx]? = some (.cells #[.int .i64 q.1.2.1.x, .int .i64 q.1.2.1.y, .int .i64 q.1.2.2.x, .int .i64 q.1.2.2.y] 65 (0, 0))) := fun w hb => (hb.block Bx hbxlt).trans h9
    clear h9 happ hno hsd
    generalize turnP q.1.2.1 q.1.2.2 p = tt at *
    generalize flipP p q.1.2.1 q.1.2.2 = fl at *
    generalize q.1.2.1 = pa at *
    generalize q.1.2.2 = pb at *
    unfold Sd Pl.val at *
    have hx := HBX.out X (Below.refl _ _)
    have c0 : X.cell? ⟨Bx, 0, none⟩ = some (.int .i64 pa.x) := by rw [cell_of_row X Bx 0 _ _ _ hx]; rfl
    have c1 : X.cell? ⟨Bx, 1, none⟩ = some (.int .i64 pa.y) := by rw [cell_of_row X Bx 1 _ _ _ hx]; rfl
    have c2 : X.cell? ⟨Bx, 2, none⟩ = some (.int .i64 pb.x) := by rw [cell_of_row X Bx 2 _ _ _ hx]; rfl
    have c3 : X.cell? ⟨Bx, 3, none⟩ = some (.int .i64 pb.y) := by rw [cell_of_row X Bx 3 _ _ _ hx]; rfl
    have d0 := hI.st.blk_cell (i := 0) rfl 0
    have d1 := hI.st.blk_cell (i := 0) rfl 1
    have HI := Lib.hid hI
    clear hI hx
    gi_wp2
    refine ⟨trivial, ?_⟩
    refine (CallsIn.inRound lp (callsIn_wide.2 (HH.out _))).mono ?_
    rintro e w5 ⟨rfl, hbw5⟩
    clear c0 c1 c2 c3 d0 d1
    have hx := HBX.out w5 hbw5
    have c0 : w5.cell? ⟨Bx, 0, none⟩ = some (.int .i64 pa.x) := by rw [cell_of_row w5 Bx 0 _ _ _ hx]; rfl
    have c1 : w5.cell? ⟨Bx, 1, none⟩ = some (.int .i64 pa.y) := by rw [cell_of_row w5 Bx 1 _ _ _ hx]; rfl
    have c2 : w5.cell? ⟨Bx, 2, none⟩ = some (.int .i64 pb.x) := by rw [cell_of_row w5 Bx 2 _ _ _ hx]; rfl
    have c3 : w5.cell? ⟨Bx, 3, none⟩ = some (.int .i64 pb.y) := by rw [cell_of_row w5 Bx 3 _ _ _ hx]; rfl
    have SS := HI.out.ext hbw5
    have d0 := SS.st.blk_cell (i := 0) rfl 0
    have d1 := SS.st.blk_cell (i := 0) rfl 1
    have d2 := SS.st.blk_cell (i := 2) rfl 0
    have d3 := SS.st.blk_frozen (i := 2) rfl 0
    clear hx SS
    by_cases hu : p.y < pb.y
    · have hub : decide (p.y < pb.y) = true := by simpa using hu
      by_cases ht : p.y < pa.y
      · have htb : decide (p.y < pa.y) = true := by simpa using ht
        have HF : Hid (fl = false) := by
          show _ = _
          rw [HFL.out]; simp [*]
        have HA2 := HAPP.out
        rw [HF.out, if_neg (by decide)] at HA2
        have HX := Lib.hid (HI.out.ext hbw5)
        rw [← HA2] at HX
        gi_wp2
        refine ⟨trivial, ?_⟩
        gi_wp2
        exact ⟨keeps_below hbw5, KpS.of_below hbw5 (by have := HI.out.bel.size; omega) (by have := HI.out.hi; omega), HX.out⟩
      · have htb : decide (p.y < pa.y) = false := by simpa using ht
        gi_wp2
        refine ⟨trivial, ?_⟩
        refine (CallsIn.inRound lp (callsIn_wide.2 (HT.out _))).mono ?_
        rintro e w6 ⟨rfl, hb56⟩
        have hbw6 := hbw5.trans (hb56.mono hbw5.size)
        clear c0 c1 c2 c3 d0 d1 d2 d3 hb56
        have hx := HBX.out w6 hbw6
        have c0 : w6.cell? ⟨Bx, 0, none⟩ = some (.int .i64 pa.x) := by rw [cell_of_row w6 Bx 0 _ _ _ hx]; rfl
        have c1 : w6.cell? ⟨Bx, 1, none⟩ = some (.int .i64 pa.y) := by rw [cell_of_row w6 Bx 1 _ _ _ hx]; rfl
        have c2 : w6.cell? ⟨Bx, 2, none⟩ = some (.int .i64 pb.x) := by rw [cell_of_row w6 Bx 2 _ _ _ hx]; rfl
        have c3 : w6.cell? ⟨Bx, 3, none⟩ = some (.int .i64 pb.y) := by rw [cell_of_row w6 Bx 3 _ _ _ hx]; rfl
        have SS := HI.out.ext hbw6
        have d0 := SS.st.blk_cell (i := 0) rfl 0
        have d1 := SS.st.blk_cell (i := 0) rfl 1
        have d2 := SS.st.blk_cell (i := 2) rfl 0
        have d3 := SS.st.blk_frozen (i := 2) rfl 0
        clear hx SS
        by_cases h0 : 0 < tt
        · have h0b : decide (0 < tt) = true := by simpa using h0
          have HF : Hid (fl = true) := by
            show _ = _
            rw [HFL.out]; simp [*]
          have HA2 := HAPP.out
          rw [HF.out, if_pos rfl] at HA2
          have HX := Lib.hid ((HI.out.ext hbw6).blk_set (i := 2) rfl 0 (.int .i64 (-ss)))
          have HKP := Lib.hid ((KpS.of_below (n₀ := gp) (Bs := gp + 1 + 1 + 1) hbw6 (by have := HI.out.bel.size; omega) (by have := HI.out.hi; omega)).trans ⟨(Below.refl _ _).setCell (p := ⟨gp + 1 + 1, 0, none⟩) (by show gp ≤ gp + 1 + 1; omega) (.int .i64 (-ss)), Below.heap_setCell _ _ _ _ (by show gp + 1 + 1 + 1 ≠ gp + 1 + 1; omega)⟩)
          have HA3 := Lib.hid HA2
          clear HA2
          gi_wp2
          exact ⟨(keeps_below hbw6).trans ((KeepsOthers.setCell _ _ _).from _), HKP.out, by show StB _ _ _ (cL gp p 0 (inP p ((pre ++ [q]).map Subtype.val)) _); rw [HA3.out]; exact HX.out⟩
        · have h0b : decide (0 < tt) = false := by simpa using h0
          have HF : Hid (fl = false) := by
            show _ = _
            rw [HFL.out]; simp [*]
          have HA2 := HAPP.out
          rw [HF.out, if_neg (by decide)] at HA2
          have HX := Lib.hid (HI.out.ext hbw6)
          rw [← HA2] at HX
          gi_wp2
          exact ⟨keeps_below hbw6, KpS.of_below hbw6 (by have := HI.out.bel.size; omega) (by have := HI.out.hi; omega), HX.out⟩
    · have hub : decide (p.y < pb.y) = false := by simpa using hu
      by_cases ht : p.y < pa.y
      · have htb : decide (p.y < pa.y) = true := by simpa using ht
        gi_wp2
        refine ⟨trivial, ?_⟩
        refine (CallsIn.inRound lp (callsIn_wide.2 (HT.out _))).mono ?_
        rintro e w6 ⟨rfl, hb56⟩
        have hbw6 := hbw5.trans (hb56.mono hbw5.size)
        clear c0 c1 c2 c3 d0 d1 d2 d3 hb56
        have hx := HBX.out w6 hbw6
        have c0 : w6.cell? ⟨Bx, 0, none⟩ = some (.int .i64 pa.x) := by rw [cell_of_row w6 Bx 0 _ _ _ hx]; rfl
        have c1 : w6.cell? ⟨Bx, 1, none⟩ = some (.int .i64 pa.y) := by rw [cell_of_row w6 Bx 1 _ _ _ hx]; rfl
        have c2 : w6.cell? ⟨Bx, 2, none⟩ = some (.int .i64 pb.x) := by rw [cell_of_row w6 Bx 2 _ _ _ hx]; rfl
        have c3 : w6.cell? ⟨Bx, 3, none⟩ = some (.int .i64 pb.y) := by rw [cell_of_row w6 Bx 3 _ _ _ hx]; rfl
        have SS := HI.out.ext hbw6
        have d0 := SS.st.blk_cell (i := 0) rfl 0
        have d1 := SS.st.blk_cell (i := 0) rfl 1
        have d2 := SS.st.blk_cell (i := 2) rfl 0
        have d3 := SS.st.blk_frozen (i := 2) rfl 0
        clear hx SS
        by_cases h0 : 0 < tt
        · have h0b : decide (0 < tt) = true := by simpa using h0
          have HF : Hid (fl = false) := by
            show _ = _
            rw [HFL.out]; simp [*]
          have HA2 := HAPP.out
          rw [HF.out, if_neg (by decide)] at HA2
          have HX := Lib.hid (HI.out.ext hbw6)
          rw [← HA2] at HX
          gi_wp2
          exact ⟨keeps_below hbw6, KpS.of_below hbw6 (by have := HI.out.bel.size; omega) (by have := HI.out.hi; omega), HX.out⟩
        · have h0b : decide (0 < tt) = false := by simpa using h0
          have HF : Hid (fl = true) := by
            show _ = _
            rw [HFL.out]; simp [*]
          have HA2 := HAPP.out
          rw [HF.out, if_pos rfl] at HA2
          have HX := Lib.hid ((HI.out.ext hbw6).blk_set (i := 2) rfl 0 (.int .i64 (-ss)))
          have HKP := Lib.hid ((KpS.of_below (n₀ := gp) (Bs := gp + 1 + 1 + 1) hbw6 (by have := HI.out.bel.size; omega) (by have := HI.out.hi; omega)).trans ⟨(Below.refl _ _).setCell (p := ⟨gp + 1 + 1, 0, none⟩) (by show gp ≤ gp + 1 + 1; omega) (.int .i64 (-ss)), Below.heap_setCell _ _ _ _ (by show gp + 1 + 1 + 1 ≠ gp + 1 + 1; omega)⟩)
          have HA3 := Lib.hid HA2
          clear HA2
          gi_wp2
          exact ⟨(keeps_below hbw6).trans ((KeepsOthers.setCell _ _ _).from _), HKP.out, by show StB _ _ _ (cL gp p 0 (inP p ((pre ++ [q]).map Subtype.val)) _); rw [HA3.out]; exact HX.out⟩
      · have htb : decide (p.y < pa.y) = false := by simpa using ht
        have HF : Hid (fl = false) := by
          show _ = _
          rw [HFL.out]; simp [*]
        have HA2 := HAPP.out
        rw [HF.out, if_neg (by decide)] at HA2
        have HX := Lib.hid (HI.out.ext hbw5)
        rw [← HA2] at HX
        gi_wp2
        refine ⟨trivial, ?_⟩
        gi_wp2
        exact ⟨keeps_below hbw5, KpS.of_below hbw5 (by have := HI.out.bel.size; omega) (by have := HI.out.hi; omega), HX.out⟩
end Go.Proofs.Ythgkngngmjonkaa
