/- Part 10 of the walks of the golf union's program: KP, KQ, KR, J6, EncP. -/
import Derived.Test.YthgkngngmjonkaaB09
import Derived.Test.YthgkngngmjonkaaB03
import Derived.Test.YthgkngngmjonkaaB05
import Derived.Test.YthgkngngmjonkaaB01
set_option linter.unusedVariables false
set_option linter.unusedSimpArgs false
set_option linter.unusedSectionVars false
set_option linter.constructorNameAsVariable false
/- TopLinksPlans: the checks of a polygon, Contains, Root(25). -/
namespace Go.Proofs.Ythgkngngmjonkaa
open Go.RowKit Go.Mem Go.Sheet Go.Plan
theorem checkPlaces1_any (w : World) (p : Pl) (hp : p.ok 1000) : Calls Try.prog 37 #[p.val] w fun e w' => e = .returned (.bool false) ∧ Below w.heap.size w w' := by
  have H1 : Hid (∀ w, Calls Try.prog 19 #[.int .i64 p.x, .int .i64 (-1000000), .int .i64 1000000] w fun r w' => r = .returned (.bool false) ∧ w = w') := fun w => by
    have := outside_any p.x (-1000000) 1000000 w
    rwa [show (decide (p.x < -1000000) || decide (1000000 < p.x)) = false by have := hp.1; simp; omega] at this
  have H2 : Hid (∀ w, Calls Try.prog 19 #[.int .i64 p.y, .int .i64 (-1000000), .int .i64 1000000] w fun r w' => r = .returned (.bool false) ∧ w = w') := fun w => by
    have := outside_any p.y (-1000000) 1000000 w
    rwa [show (decide (p.y < -1000000) || decide (1000000 < p.y)) = false by have := hp.2; simp; omega] at this
  have hb : ∀ o, Below w.heap.size w (w.alloc o) := fun o => (Below.refl _ _).alloc (Nat.le_refl _) o
  clear hp
  unfold Pl.val
  go_enter Try.func37, Try.ntmps37
  go_wp2_with fail
  refine (H1.out _).mono ?_
  rintro e w' ⟨rfl, rfl⟩
  go_wp2_with fail
  refine (H2.out _).mono ?_
  rintro e w' ⟨rfl, rfl⟩
  go_wp2_with fail
  go_ret
  exact ⟨rfl, hb _⟩
set_option maxRecDepth 100000 in
set_option maxHeartbeats 400000 in
theorem idxPl_any (W : World) (v : Value) (n : Nat) (ps : List Pl) (h : Rd W (· < W.heap.size) 2 v n (ps.flatMap Pl.cells)) (hok : ∀ q ∈ ps, q.ok 1000) :
    Calls Try.prog 44 #[v, .func (.func 37) #[] #[]] W fun e w' => e = .returned (.int .i64 (-1)) ∧ Below W.heap.size W w' := by
  have hn := h.le
  have HN := Lib.hid (h.count (f := Pl.cells) (size := 2) (fun _ => rfl) (by decide))
  have HR := Lib.hid h
  have HOK := Lib.hid hok
  obtain ⟨A, c, rfl, _, _, _⟩ := h.open_
  clear h hok
  have eg := enters Try.func37 (by kernel_rfl) rfl
  unfold Enters at eg
  go_enter Try.func44, Try.ntmps44
  go_wp2
  go_loopw [8] (fun i w => ∃ k : Nat, k ≤ n ∧ i = .int .i64 k ∧ Below W.heap.size W w) (fun i _ => n - (intOf i).toNat)
  case atStart => exact ⟨0, Nat.zero_le _, rfl, Below.refl _ _⟩
  case round =>
    obtain ⟨k, hk, rfl, hb⟩ := hrel
    by_cases hlt : k < n
    · obtain ⟨b, o, hA, c0, c1⟩ := pl_elem (HR.out.below hb) hlt
      subst hA
      have hq := getD_ok HOK.out (i := k) (by rw [← HN.out]; exact hlt)
      generalize ps.getD k ⟨0, 0⟩ = q at *
      have HC := Lib.hid (checkPlaces1_any wr q hq)
      unfold Pl.val at HC
      have HB := Lib.hid hb
      clear hb hq
      go_wp2_with fail
      refine HC.out.mono ?_
      rintro e w' ⟨rfl, hb2⟩
      have HB2 := Lib.hid (HB.out.trans (hb2.mono HB.out.size))
      clear hb2
      go_wp2
      go_roundw
      case rel => exact ⟨k + 1, by omega, by go_num, HB2.out⟩
      case measure => simp [intOf]; omega
    · go_wp2
      go_ret
      exact ⟨rfl, hb⟩
theorem anyPl_any (W : World) (v : Value) (n : Nat) (ps : List Pl) (h : Rd W (· < W.heap.size) 2 v n (ps.flatMap Pl.cells)) (hok : ∀ q ∈ ps, q.ok 1000) :
    Calls Try.prog 36 #[v, .func (.func 37) #[] #[]] W fun e w' => e = .returned (.bool false) ∧ Below W.heap.size W w' := by
  have HC := Lib.hid (idxPl_any W v n ps h hok)
  obtain ⟨A, c, rfl, _, _, _⟩ := h.open_
  clear h hok
  go_enter Try.func36, Try.ntmps36
  go_wp2_with fail
  refine HC.out.mono ?_
  rintro e w2 ⟨rfl, hb⟩
  go_wp2
  go_ret
  exact ⟨rfl, hb⟩
theorem checkPlaces_any (W : World) (v : Value) (n : Nat) (ps : List Pl) (h : Rd W (· < W.heap.size) 2 v n (ps.flatMap Pl.cells)) (hok : ∀ q ∈ ps, q.ok 1000) :
    Calls Try.prog 27 #[v] W fun e w' => e = .returned (.int .i64 0) ∧ Below W.heap.size W w' := by
  have HC := Lib.hid (anyPl_any W v n ps h hok)
  obtain ⟨A, c, rfl, _, _, _⟩ := h.open_
  clear h hok
  go_enter Try.func27, Try.ntmps27
  go_wp2_with fail
  refine HC.out.mono ?_
  rintro e w2 ⟨rfl, hb⟩
  go_wp2_with (go_at_call 16; refine (when_any _ _ _).mono ?_; rintro e w' ⟨rfl, rfl⟩)
  go_ret
  exact ⟨rfl, hb⟩
set_option maxRecDepth 100000 in
set_option maxHeartbeats 1000000 in
theorem checkPolygon_any (W : World) (v : Value) (n : Nat) (ps : List Pl) (h : Rd W (· < W.heap.size) 2 v n (ps.flatMap Pl.cells)) (hn : 3 ≤ n ∧ n ≤ 64) (hok : ∀ q ∈ ps, q.ok 1000) (hs : SimpleP ps) :
    Calls Try.prog 24 #[v] W fun e w' => e = .returned (.int .i64 0) ∧ Below W.heap.size W w' := by
  have HC := Lib.hid (checkPlaces_any W v n ps h hok)
  have HS : Hid (∀ w, Below W.heap.size W w → Calls Try.prog 34 #[v] w fun e w' => e = .returned (.bool true) ∧ Below w.heap.size w w') := fun w hb => by
    obtain ⟨A, c, rfl, _, _, h'⟩ := h.open_
    exact simple_any w A n c ps (h'.later hb) (by omega) hok hs
  obtain ⟨A, c, rfl, _, _, _⟩ := h.open_
  clear h hok hs
  have t1 : decide ((n : Int) < 3) = false := by simp; omega
  have t1' : decide (n < 3) = false := by simp; omega
  have t2 : decide (64 < (n : Int)) = false := by simp; omega
  have t2' : decide (64 < n) = false := by simp; omega
  have hz : fst [whenE false 2, whenE false 5, 0] = 0 := rfl
  go_enter Try.func24, Try.ntmps24
  go_wp2_with (go_at_call 16; refine (when_any _ _ _).mono ?_; rintro e w' ⟨rfl, rfl⟩)
  refine HC.out.mono ?_
  rintro e w2 ⟨rfl, hb⟩
  have HB := Lib.hid hb
  clear hb HC
  go_wp2_with (go_at_call 20; refine (first3 _ _ (whenE false 2) (whenE false 5) 0 (by simp) (by simp) (by simp) (by simp)).mono ?_; rw [hz]; rintro e w' ⟨rfl, rfl⟩)
  have hb3 := HB.out.alloc HB.out.size (.cells #[.int .i64 (whenE false 2), .int .i64 (whenE false 5), .int .i64 0] 30)
  generalize w2.alloc (.cells #[.int .i64 (whenE false 2), .int .i64 (whenE false 5), .int .i64 0] 30) = w3 at *
  refine (HS.out _ hb3).mono ?_
  rintro e w4 ⟨rfl, hb4⟩
  have HB4 := Lib.hid (hb3.trans (hb4.mono hb3.size))
  clear hb3 hb4 HB HS
  go_wp2_with (go_at_call 16; refine (when_any _ _ _).mono ?_; rintro e w' ⟨rfl, rfl⟩)
  go_ret
  exact ⟨rfl, HB4.out⟩
set_option maxRecDepth 100000 in
set_option maxHeartbeats 4000000 in
theorem root25_any (w : World) : Calls Try.prog 13 #[.int .i64 25] w fun e w' => e = .returned (.tuple #[.int .i64 5, .int .i64 0]) ∧ w = w' := by
  have e2 : bits BinOp.or IntKind.u64 0 4 = 4 := by kernel_rfl
  have e3 : bits BinOp.or IntKind.u64 0 8 = 8 := by kernel_rfl
  have e4 : bits BinOp.or IntKind.u64 0 16 = 16 := by kernel_rfl
  have e5 : bits BinOp.or IntKind.u64 0 32 = 32 := by kernel_rfl
  have e6 : bits BinOp.or IntKind.u64 0 64 = 64 := by kernel_rfl
  have e7 : bits BinOp.or IntKind.u64 0 128 = 128 := by kernel_rfl
  have e8 : bits BinOp.or IntKind.u64 0 256 = 256 := by kernel_rfl
  have e9 : bits BinOp.or IntKind.u64 0 512 = 512 := by kernel_rfl
  have e10 : bits BinOp.or IntKind.u64 0 1024 = 1024 := by kernel_rfl
  have e11 : bits BinOp.or IntKind.u64 0 2048 = 2048 := by kernel_rfl
  have e12 : bits BinOp.or IntKind.u64 0 4096 = 4096 := by kernel_rfl
  have e13 : bits BinOp.or IntKind.u64 0 8192 = 8192 := by kernel_rfl
  have e14 : bits BinOp.or IntKind.u64 0 16384 = 16384 := by kernel_rfl
  have e15 : bits BinOp.or IntKind.u64 0 32768 = 32768 := by kernel_rfl
  have e16 : bits BinOp.or IntKind.u64 0 65536 = 65536 := by kernel_rfl
  have e17 : bits BinOp.or IntKind.u64 0 131072 = 131072 := by kernel_rfl
  have e18 : bits BinOp.or IntKind.u64 0 262144 = 262144 := by kernel_rfl
  have e19 : bits BinOp.or IntKind.u64 0 524288 = 524288 := by kernel_rfl
  have e20 : bits BinOp.or IntKind.u64 0 1048576 = 1048576 := by kernel_rfl
  have e21 : bits BinOp.or IntKind.u64 0 2097152 = 2097152 := by kernel_rfl
  have e22 : bits BinOp.or IntKind.u64 0 4194304 = 4194304 := by kernel_rfl
  have e23 : bits BinOp.or IntKind.u64 0 8388608 = 8388608 := by kernel_rfl
  have e24 : bits BinOp.or IntKind.u64 0 16777216 = 16777216 := by kernel_rfl
  have e25 : bits BinOp.or IntKind.u64 0 33554432 = 33554432 := by kernel_rfl
  have e26 : bits BinOp.or IntKind.u64 0 67108864 = 67108864 := by kernel_rfl
  have e27 : bits BinOp.or IntKind.u64 0 134217728 = 134217728 := by kernel_rfl
  have e28 : bits BinOp.or IntKind.u64 0 268435456 = 268435456 := by kernel_rfl
  have e29 : bits BinOp.or IntKind.u64 0 536870912 = 536870912 := by kernel_rfl
  have e30 : bits BinOp.or IntKind.u64 0 1073741824 = 1073741824 := by kernel_rfl
  have e31 : bits BinOp.or IntKind.u64 0 2147483648 = 2147483648 := by kernel_rfl
  have a1 : bits BinOp.or IntKind.u64 4 2 = 6 := by kernel_rfl
  have a2 : bits BinOp.or IntKind.u64 4 1 = 5 := by kernel_rfl
  have a3 : IntKind.u64.wrap (wrap64 4) = 4 := by kernel_rfl
  have a4 : wrap64 4 = 4 := by kernel_rfl
  have a5 : IntKind.u64.wrap 4 = 4 := by kernel_rfl
  have a6 : wrap64 5 = 5 := by kernel_rfl
  go_enter Try.func13, Try.ntmps13
  go_wp2
  refine wp_loop_rounds 33 ?_
  iterate 33 (rw [rounds_succ]; go_wp2)
  go_ret2
  exact ⟨rfl, rfl⟩
end Go.Proofs.Ythgkngngmjonkaa
/- TopLinksPlans: Contains; linksGreen. -/
namespace Go.Proofs.Ythgkngngmjonkaa
open Go.RowKit Go.Mem Go.Sheet Go.Plan
set_option maxRecDepth 100000 in
set_option maxHeartbeats 2000000 in
theorem bigContains_any (W : World) (v : Value) (n : Nat) (ps : List Pl) (p : Pl) (h : Rd W (· < W.heap.size) 2 v n (ps.flatMap Pl.cells)) (hn : 3 ≤ n ∧ n ≤ 64) (hok : ∀ q ∈ ps, q.ok 1000) (hs : SimpleP ps) (hp : p.ok 1000)
    (hno : ∀ q ∈ sidesTo ps ps.length, hasP q.2.1 q.2.2 p = false) :
    Calls Try.prog 12 #[v, p.val] W fun e w' => e = .returned (.tuple #[.int .i64 (inP p (sidesTo ps n)), .int .i64 0]) ∧ Below W.heap.size W w' := by
  have HCP : Hid (∀ w, Below W.heap.size W w → Calls Try.prog 24 #[v] w fun e w' => e = .returned (.int .i64 0) ∧ Below w.heap.size w w') := fun w hb => checkPolygon_any w v n ps (h.later hb) hn hok hs
  have HCC : Hid (∀ w, Below W.heap.size W w → Calls Try.prog 28 #[v, p.val] w fun e w' => e = .returned (.int .i64 (inP p (sidesTo ps n))) ∧ Below w.heap.size w w') := fun w hb => by
    obtain ⟨A, c, rfl, _, _, h'⟩ := h.open_
    exact contains_any w A n c ps p (h'.later hb) (by omega) hok hp hno
  have HPL : Hid (∀ (w : World) (g : Nat), w.heap[g]? = some (.cells #[.int .i64 p.x, .int .i64 p.y] 40 (0, 0)) → Calls Try.prog 27 #[.slice (some ⟨g, 0, none⟩) 1 1] w fun e w' => e = .returned (.int .i64 0) ∧ Below w.heap.size w w') := fun w g hg => by
    have hlt : g < w.heap.size := (Array.getElem?_eq_some_iff.1 hg).1
    refine checkPlaces_any w _ 1 [p] ⟨_, 1, rfl, Nat.le_refl _, by unfold maxLen; omega, rfl, (fun e => by cases e), fun _ => ⟨g, 0, rfl, hlt, hlt, fun j u hu => ?_⟩⟩ (fun q hq => by rw [List.mem_singleton] at hq; subst hq; exact hp)
    rw [Nat.zero_add, cell_of_row w g j _ _ _ hg]
    simpa [Pl.cells] using hu
  generalize inP p (sidesTo ps n) = ii at *
  obtain ⟨A, c, rfl, _, _, _⟩ := h.open_
  clear h hok hs hp hno
  unfold Pl.val at *
  have S0 := (St.refl W).blk_new #[.int .i64 p.x, .int .i64 p.y] 40
  simp only [List.nil_append] at S0
  go_enter Try.func12, Try.ntmps12
  go_wp2_with fail
  generalize W.alloc (.cells #[.int .i64 p.x, .int .i64 p.y] 40) = w1 at S0 ⊢
  refine wp_head_tail3 0 4 2 [] [0, 2] rfl (fun w' => w'.cell? ⟨W.heap.size, 0, none⟩ = some (.int .i64 p.x) ∧ w'.cell? ⟨W.heap.size, 1, none⟩ = some (.int .i64 p.y))
    (fun a a' w' => ∃ g : Nat, a' = (a.put (some 8) (.int .i64 0)).put (some 10) (.slice (some ⟨g, 0, none⟩) 1 1) ∧ St W w' [blk W.heap.size 40 #[.int .i64 p.x, .int .i64 p.y]] ∧ w'.heap[g]? = some (.cells #[.int .i64 p.x, .int .i64 p.y] 40 (0, 0))) (by kernel_rfl) (by kernel_rfl) ⟨S0.drew.blk_cell (i := 0) rfl 0, S0.drew.blk_cell (i := 0) rfl 1⟩ ?_
  simp only [pick, List.filterMap_cons, List.filterMap_nil, List.getElem?_toArray, List.getElem?_cons_succ, List.getElem?_cons_zero]
  have SD := Lib.hid S0.drew
  generalize hK : (fun w' => w'.cell? ⟨W.heap.size, 0, none⟩ = some (.int .i64 p.x) ∧ w'.cell? ⟨W.heap.size, 1, none⟩ = some (.int .i64 p.y) : World → Prop) = K
  have k0 : ∀ y : Wd K, y.w.cell? ⟨W.heap.size, 0, none⟩ = some (.int .i64 p.x) := by subst hK; exact fun y => y.h.1
  have k1 : ∀ y : Wd K, y.w.cell? ⟨W.heap.size, 1, none⟩ = some (.int .i64 p.y) := by subst hK; exact fun y => y.h.2
  have hKd : ∀ (w' : World), St W w' [blk W.heap.size 40 #[.int .i64 p.x, .int .i64 p.y]] → K w' := by
    intro w' h
    subst hK
    exact ⟨h.blk_cell (i := 0) rfl 0, h.blk_cell (i := 0) rfl 1⟩
  have hne : Nonempty (Wd K) := ⟨⟨w1.drew, hKd _ SD.out⟩⟩
  clear hK S0
  generalize w1.drew = w2 at *
  refine wpQuiet_nil ?_
  change wpQuiet _ _ _ _ (_ :: _ :: []) _
  repeat (go_big_quiet_step ((fail)))
  refine wpQuiet_nil ?_
  have S2 := SD.out
  clear SD k0 k1 hne
  refine ⟨?_, ?_⟩
  · as_aux_lemma =>
    refine headW_all (rs := [1, 3]) (by kernel_rfl) (by decide) (by decide) (List.forall_mem_cons.2 ⟨?_, List.forall_mem_cons.2 ⟨?_, List.forall_mem_nil _⟩⟩)
    · refine wpOp_list (o := _) rfl ?_
      intro Q' hQ'
      go_wp2_with fail
      refine (HCP.out _ S2.bel).mono ?_
      rintro e w3 ⟨rfl, hb3⟩
      have S3 := S2.ext hb3
      go_wp2_with fail
      refine ⟨hKd _ S3, ?_⟩
      refine headW_all (rs := [3]) (by kernel_rfl) (by decide) (by decide) (List.forall_mem_cons.2 ⟨?_, List.forall_mem_nil _⟩)
      refine wpOp_list (o := _) rfl ?_
      intro Q' hQ'
      go_wp2_with fail
      have S4 := S3.alloc (.cells #[.int .i64 p.x, .int .i64 p.y] 40)
      have hg4 := heap_alloc_new w3 (.cells #[.int .i64 p.x, .int .i64 p.y] 40)
      refine ⟨hKd _ S4, ?_⟩
      exact ⟨by kernel_rfl, w3.heap.size, by kernel_rfl, S4, hg4⟩
    · refine wpOp_list (o := _) rfl ?_
      intro Q' hQ'
      go_wp2_with fail
      have S4 := S2.alloc (.cells #[.int .i64 p.x, .int .i64 p.y] 40)
      have hg4 := heap_alloc_new w2 (.cells #[.int .i64 p.x, .int .i64 p.y] 40)
      refine ⟨hKd _ S4, ?_⟩
      refine headW_all (rs := [1]) (by kernel_rfl) (by decide) (by decide) (List.forall_mem_cons.2 ⟨?_, List.forall_mem_nil _⟩)
      refine wpOp_list (o := _) rfl ?_
      intro Q' hQ'
      go_wp2_with fail
      refine (HCP.out _ S4.bel).mono ?_
      rintro e w3 ⟨rfl, hb3⟩
      have S3 := S4.ext hb3
      go_wp2_with fail
      refine ⟨hKd _ S3, ?_⟩
      exact ⟨by kernel_rfl, w2.heap.size, by kernel_rfl, S3, (hb3.block _ (by simp)).trans hg4⟩
  · rintro a' w5 ⟨g, rfl, S5, hg5⟩
    have HP5 := Lib.hid (HPL.out w5 g hg5)
    have HS5 := Lib.hid S5
    clear S5 hg5 S2 hKd
    go_wp2_with fail
    refine HP5.out.mono ?_
    rintro e w6 ⟨rfl, hb6⟩
    have HS6 := Lib.hid (HS5.out.ext hb6)
    clear hb6 HP5 HS5
    have hz : fst [0, 0] = 0 := rfl
    go_wp2_with (go_at_call 20; refine (first2 _ _ 0 0 (by simp) (by simp) (by simp)).mono ?_; rw [hz]; rintro e w' ⟨rfl, rfl⟩)
    refine NoPanic.normal ?_
    have HS7 := Lib.hid (HS6.out.alloc (.cells #[.int .i64 0, .int .i64 0] 30))
    generalize w6.alloc (.cells #[.int .i64 0, .int .i64 0] 30) = w7 at *
    have d0 := HS7.out.blk_cell (i := 0) rfl 0
    have d1 := HS7.out.blk_cell (i := 0) rfl 1
    go_wp2_with fail
    refine (HCC.out _ HS7.out.bel).mono ?_
    rintro e w8 ⟨rfl, hb8⟩
    have HS8 := Lib.hid (HS7.out.ext hb8)
    clear hb8 d0 d1
    go_wp2_with fail
    go_ret2
    exact ⟨rfl, HS8.out.bel⟩
end Go.Proofs.Ythgkngngmjonkaa
/- TopLinksPlans: the fixed example. -/
namespace Go.Plan
def ps6 : List Pl := [⟨0, 0⟩, ⟨4, 0⟩, ⟨4, 2⟩, ⟨2, 2⟩, ⟨2, 4⟩, ⟨0, 4⟩]
theorem ps6_ok : ∀ q ∈ ps6, q.ok 1000 := by
  intro q hq
  simp only [ps6, List.mem_cons, List.not_mem_nil, or_false] at hq
  rcases hq with rfl | rfl | rfl | rfl | rfl | rfl <;> (refine ⟨⟨?_, ?_⟩, ?_, ?_⟩ <;> decide)
theorem ps6_simple : SimpleP ps6 := by
  unfold SimpleP
  constructor <;> decide
theorem ps6_out : ∀ q ∈ sidesTo ps6 ps6.length, hasP q.2.1 q.2.2 ⟨3, 3⟩ = false := by decide
theorem ps6_in : ∀ q ∈ sidesTo ps6 ps6.length, hasP q.2.1 q.2.2 ⟨1, 3⟩ = false := by decide
theorem ps6_sum : sumC (sidesTo ps6 6) = 24 := by decide
theorem ps6_inOut : inP ⟨3, 3⟩ (sidesTo ps6 6) = -1 := by decide
theorem ps6_inIn : inP ⟨1, 3⟩ (sidesTo ps6 6) = 1 := by decide
end Go.Plan
namespace Go.Proofs.Ythgkngngmjonkaa
open Go.RowKit Go.Mem Go.Sheet Go.Plan
def cells6 : Array Value := #[.int .i64 0, .int .i64 0, .int .i64 4, .int .i64 0, .int .i64 4, .int .i64 2, .int .i64 2, .int .i64 2, .int .i64 2, .int .i64 4, .int .i64 0, .int .i64 4]
set_option maxRecDepth 100000 in
set_option maxHeartbeats 2000000 in
theorem green_any (W : World) : Calls Try.prog 5 #[] W fun e w' => e = .returned (.bool true) ∧ Below W.heap.size W w' := by
  have hrd0 : Rd (W.alloc (.cells cells6 40)) (fun _ => True) 2 (.slice (some ⟨W.heap.size, 0, none⟩) 6 6) 6 (ps6.flatMap Pl.cells) := rd_new W (size := 2) (m := 6) cells6 40 rfl (by omega) (fun _ => True) trivial
  have hb0 : Below W.heap.size W (W.alloc (.cells cells6 40)) := (Below.refl _ _).alloc (Nat.le_refl _) _
  have HRD := Lib.hid (hrd0.now)
  unfold cells6 at *
  go_enter Try.func5, Try.ntmps5
  go_wp2_with fail
  generalize W.alloc (.cells #[.int .i64 0, .int .i64 0, .int .i64 4, .int .i64 0, .int .i64 4, .int .i64 2, .int .i64 2, .int .i64 2, .int .i64 2, .int .i64 4, .int .i64 0, .int .i64 4] 40) = w1 at *
  have HB1 := Lib.hid hb0
  clear hrd0 hb0
  have HT : Hid (Calls Try.prog 11 #[.slice (some ⟨W.heap.size, 0, none⟩) 6 6] w1 fun e w' => e = .returned (.tuple #[.int .i64 24, .int .i64 0]) ∧ Below w1.heap.size w1 w') := by
    refine (twice_any w1 _ 6 6 ps6 HRD.out (by omega) ps6_ok (fun w hb => checkPolygon_any w _ 6 ps6 (HRD.out.later hb) (by omega) ps6_ok ps6_simple)).mono ?_
    rintro e w' ⟨rfl, hb⟩
    rw [ps6_sum]
    exact ⟨rfl, hb⟩
  have HC1 : Hid (∀ w, Below w1.heap.size w1 w → Calls Try.prog 12 #[.slice (some ⟨W.heap.size, 0, none⟩) 6 6, .agg #[.int .i64 3, .int .i64 3]] w fun e w' => e = .returned (.tuple #[.int .i64 (-1), .int .i64 0]) ∧ Below w.heap.size w w') := fun w hb => by
    have := bigContains_any w _ 6 ps6 ⟨3, 3⟩ (HRD.out.later hb) (by omega) ps6_ok ps6_simple ⟨⟨by decide, by decide⟩, by decide, by decide⟩ ps6_out
    rw [ps6_inOut] at this
    exact this
  have HC2 : Hid (∀ w, Below w1.heap.size w1 w → Calls Try.prog 12 #[.slice (some ⟨W.heap.size, 0, none⟩) 6 6, .agg #[.int .i64 1, .int .i64 3]] w fun e w' => e = .returned (.tuple #[.int .i64 1, .int .i64 0]) ∧ Below w.heap.size w w') := fun w hb => by
    have := bigContains_any w _ 6 ps6 ⟨1, 3⟩ (HRD.out.later hb) (by omega) ps6_ok ps6_simple ⟨⟨by decide, by decide⟩, by decide, by decide⟩ ps6_in
    rw [ps6_inIn] at this
    exact this
  refine HT.out.mono ?_
  rintro e w2 ⟨rfl, hb2⟩
  have HB2 := Lib.hid hb2
  clear hb2 HT HRD
  go_wp2_with fail
  refine (HC1.out _ HB2.out).mono ?_
  rintro e w3 ⟨rfl, hb3⟩
  have HB3 := Lib.hid (HB2.out.trans (hb3.mono HB2.out.size))
  clear hb3 HC1
  go_wp2_with fail
  refine (HC2.out _ HB3.out).mono ?_
  rintro e w4 ⟨rfl, hb4⟩
  have HB4 := Lib.hid (HB3.out.trans (hb4.mono HB3.out.size))
  clear hb4 HC2
  go_wp2_with fail
  refine (root25_any _).mono ?_
  rintro e w5 ⟨rfl, rfl⟩
  go_wp2_with fail
  go_ret
  exact ⟨rfl, HB1.out.trans (HB4.out.mono HB1.out.size)⟩
end Go.Proofs.Ythgkngngmjonkaa
/- TopLinksPlans (plain): what the law asks of least days and of rounds. -/
namespace Go.Plan
theorem getD_map_range (f : Nat → Int) {n x : Nat} (h : x < n) : ((List.range n).map f).getD x 0 = f x := by
  rw [List.getD_eq_getElem?_getD, List.getElem?_map, List.getElem?_range h]; rfl
theorem mem_getD {a : List Int} {n : Nat} (hl : a.length = n) {y : Int} (h : y ∈ a) : ∃ x, x < n ∧ a.getD x 0 = y := by
  obtain ⟨i, hi, rfl⟩ := List.mem_iff_getElem.1 h
  exact ⟨i, by omega, by rw [List.getD_eq_getElem?_getD, List.getElem?_eq_getElem hi]; rfl⟩
theorem fit_fits {n : Nat} {l : List RL} {a : List Int} (hlen : a.length = n) (h : fitF l a = true) : Fits n l (fun x => a.getD x 0) ∧ ∀ x, x < n → 0 ≤ a.getD x 0 ∧ a.getD x 0 ≤ 100000 := by
  unfold fitF at h
  rw [Bool.and_eq_true] at h
  refine ⟨fun r hr _ _ => ?_, fun x hx => ?_⟩
  · have := List.all_eq_true.1 h.2 r hr
    unfold okR at this; simpa using this
  · have hx' : x < a.length := by omega
    have := List.all_eq_true.1 h.1 (a[x]) (List.getElem_mem hx')
    unfold okD at this
    rw [List.getD_eq_getElem?_getD, List.getElem?_eq_getElem hx']
    simpa using this
theorem fits_fit {n : Nat} {l : List RL} {a : List Int} (hlen : a.length = n) (hi : In n l) (hf : Fits n l (fun x => a.getD x 0)) (hb : ∀ x, x < n → 0 ≤ a.getD x 0 ∧ a.getD x 0 ≤ 100000) : fitF l a = true := by
  unfold fitF
  rw [Bool.and_eq_true]
  refine ⟨List.all_eq_true.2 fun y hy => ?_, List.all_eq_true.2 fun r hr => ?_⟩
  · obtain ⟨x, hx, rfl⟩ := mem_getD hlen hy
    have := hb x hx
    unfold okD
    rw [decide_eq_true this.1, decide_eq_true this.2]; rfl
  · have := hf r hr (hi r hr).1 (hi r hr).2
    unfold okR; simpa using this
def zipF (f : Int → Int → Int) (a b : List Int) (n : Nat) : List Int := (List.range n).map fun x => f (a.getD x 0) (b.getD x 0)
theorem zipF_len (f : Int → Int → Int) (a b : List Int) (n : Nat) : (zipF f a b n).length = n := by simp [zipF]
theorem zipF_succ (f : Int → Int → Int) (a b : List Int) (n : Nat) : zipF f a b (n + 1) = zipF f a b n ++ [f (a.getD n 0) (b.getD n 0)] := by rw [zipF, List.range_succ, List.map_append]; rfl
theorem fit_early {n : Nat} {l : List RL} {a b : List Int} (ha : a.length = n) (hb : b.length = n) (hi : In n l) (h1 : fitF l a = true) (h2 : fitF l b = true) : fitF l (zipF min a b n) = true := by
  obtain ⟨f1, b1⟩ := fit_fits ha h1
  obtain ⟨f2, b2⟩ := fit_fits hb h2
  refine fits_fit (zipF_len _ _ _ _) hi (fun r hr h3 h4 => ?_) (fun x hx => ?_)
  · have e1 := f1 r hr h3 h4
    have e2 := f2 r hr h3 h4
    dsimp only at e1 e2 ⊢
    rw [zipF, getD_map_range _ h3, getD_map_range _ h4]
    omega
  · have e1 := b1 x hx
    have e2 := b2 x hx
    rw [zipF, getD_map_range _ hx]
    omega
theorem fit_late {n : Nat} {l : List RL} {a b : List Int} (ha : a.length = n) (hb : b.length = n) (hi : In n l) (h1 : fitF l a = true) (h2 : fitF l b = true) : fitF l (zipF max a b n) = true := by
  obtain ⟨f1, b1⟩ := fit_fits ha h1
  obtain ⟨f2, b2⟩ := fit_fits hb h2
  refine fits_fit (zipF_len _ _ _ _) hi (fun r hr h3 h4 => ?_) (fun x hx => ?_)
  · have e1 := f1 r hr h3 h4
    have e2 := f2 r hr h3 h4
    dsimp only at e1 e2 ⊢
    rw [zipF, getD_map_range _ h3, getD_map_range _ h4]
    omega
  · have e1 := b1 x hx
    have e2 := b2 x hx
    rw [zipF, getD_map_range _ hx]
    omega
/-- the least days as a list -/
def dayL (n : Nat) (D : Nat → Int) : List Int := (List.range n).map D
theorem dayL_len (n : Nat) (D : Nat → Int) : (dayL n D).length = n := by simp [dayL]
theorem dayL_V (n : Nat) (D : Nat → Int) : daysV n D = (dayL n D).map (Value.int .i64) := by rw [daysV, dayL, List.map_map]; rfl
theorem dayL_at {n : Nat} {D : Nat → Int} {x : Nat} (h : x < n) : (dayL n D).getD x 0 = D x := getD_map_range D h
theorem least_le6 {n : Nat} {l : List RL} {D : Nat → Int} (hn : n ≤ 6) (hi : In n l) (hle : ∀ r ∈ l, r.le ≤ 10000) (hD : Least n l D) {x : Nat} (hx : x < n) : 0 ≤ D x ∧ D x ≤ 60000 := by
  have h1 := least_le hi hD (m := 10000) (by omega) hle hx
  have h2 := hD.nonneg x hx
  omega
theorem fit_days {n : Nat} {l : List RL} {D : Nat → Int} (hn : n ≤ 6) (hi : In n l) (hle : ∀ r ∈ l, r.le ≤ 10000) (hD : Least n l D) : fitF l (dayL n D) = true := by
  refine fits_fit (dayL_len n D) hi (fun r hr h3 h4 => ?_) (fun x hx => ?_)
  · have := hD.fits r hr h3 h4
    dsimp only
    rw [dayL_at h3, dayL_at h4]; exact this
  · have := least_le6 hn hi hle hD hx
    rw [dayL_at hx]; omega
theorem fit_moved {n : Nat} {l : List RL} {D : Nat → Int} (hn : n ≤ 6) (hi : In n l) (hle : ∀ r ∈ l, r.le ≤ 10000) (hD : Least n l D) : fitF l (zipF (fun x _ => x + 7) (dayL n D) [] n) = true := by
  refine fits_fit (zipF_len _ _ _ _) hi (fun r hr h3 h4 => ?_) (fun x hx => ?_)
  · have := hD.fits r hr h3 h4
    dsimp only
    rw [zipF, getD_map_range _ h3, getD_map_range _ h4, dayL_at h3, dayL_at h4]; omega
  · have := least_le6 hn hi hle hD hx
    rw [zipF, getD_map_range _ hx, dayL_at hx]; omega
theorem fit_least {n : Nat} {l : List RL} {D : Nat → Int} {a : List Int} (hlen : a.length = n) (hD : Least n l D) (h : fitF l a = true) {x : Nat} (hx : x < n) : D x ≤ a.getD x 0 := by
  obtain ⟨f1, b1⟩ := fit_fits hlen h
  exact hD.least _ f1 (fun y hy => (b1 y hy).1) x hx
theorem fit_none {n : Nat} {l : List RL} {a : List Int} (hlen : a.length = n) (h : ∀ d : Nat → Int, Fits n l d → ¬ ∀ x, x < n → 0 ≤ d x) : fitF l a = false := by
  cases hf : fitF l a
  · rfl
  · obtain ⟨f1, b1⟩ := fit_fits hlen hf
    exact absurd (fun x hx => (b1 x hx).1) (h _ f1)
/-- the flows of the law -/
def flowF (d : Int) : Int := 1 + d.tmod 9
theorem flow_bd {d : Int} (h : 0 ≤ d) : 1 ≤ flowF d ∧ flowF d ≤ 9 := by
  unfold flowF
  rw [Int.tmod_eq_emod_of_nonneg h]
  omega
def limF (m : Int) : List Int → Int
  | [] => m
  | d :: l => limF (max m (flowF d)) l
theorem limF_snoc : ∀ (l : List Int) (m d : Int), limF m (l ++ [d]) = max (limF m l) (flowF d)
  | [], _, _ => rfl
  | x :: l, m, d => by rw [List.cons_append, limF, limF, limF_snoc l]
theorem limF_ge : ∀ (l : List Int) (m : Int), m ≤ limF m l ∧ ∀ d ∈ l, flowF d ≤ limF m l
  | [], m => ⟨Int.le_refl _, fun _ h => by cases h⟩
  | x :: l, m => by
    obtain ⟨h1, h2⟩ := limF_ge l (max m (flowF x))
    refine ⟨by rw [limF]; omega, fun d hd => ?_⟩
    rw [limF]
    rcases List.mem_cons.1 hd with rfl | hd
    · omega
    · exact h2 d hd
theorem limF_le : ∀ (l : List Int) (m : Int), m ≤ 9 → (∀ d ∈ l, 0 ≤ d) → limF m l ≤ 9
  | [], _, h, _ => h
  | x :: l, m, h, hd => by
    rw [limF]
    have := flow_bd (hd x (List.mem_cons_self ..))
    exact limF_le l _ (by omega) fun d h => hd d (List.mem_cons_of_mem _ h)
theorem sumI_snoc : ∀ (l : List Int) (d : Int), sumI (l ++ [d]) = sumI l + d
  | [], d => by simp [sumI]
  | x :: l, d => by rw [List.cons_append, sumI, sumI, sumI_snoc l]; omega
theorem sumI_bd : ∀ (l : List Int), (∀ d ∈ l, 0 ≤ d ∧ d ≤ 9) → 0 ≤ sumI l ∧ sumI l ≤ 9 * l.length
  | [], _ => by simp [sumI]
  | x :: l, h => by
    have h1 := h x (List.mem_cons_self ..)
    have h2 := sumI_bd l fun d hd => h d (List.mem_cons_of_mem _ hd)
    rw [sumI, List.length_cons]; omega
/-- the greatest round, and one -/
def cntF (m : Nat) : List Nat → Nat
  | [] => m
  | k :: l => cntF (max m (k + 1)) l
theorem cntF_snoc : ∀ (l : List Nat) (m k : Nat), cntF m (l ++ [k]) = max (cntF m l) (k + 1)
  | [], _, _ => rfl
  | x :: l, m, k => by rw [List.cons_append, cntF, cntF, cntF_snoc l]
theorem cntF_ge : ∀ (l : List Nat) (m : Nat), m ≤ cntF m l ∧ ∀ k ∈ l, k < cntF m l
  | [], m => ⟨Nat.le_refl _, fun _ h => by cases h⟩
  | x :: l, m => by
    obtain ⟨h1, h2⟩ := cntF_ge l (max m (x + 1))
    refine ⟨by rw [cntF]; omega, fun k hk => ?_⟩
    rw [cntF]
    rcases List.mem_cons.1 hk with rfl | hk
    · omega
    · exact h2 k hk
theorem cntF_le : ∀ (l : List Nat) (m c : Nat), m ≤ c → (∀ k ∈ l, k < c) → cntF m l ≤ c
  | [], _, _, h, _ => h
  | x :: l, m, c, h, hk => by
    rw [cntF]
    have := hk x (List.mem_cons_self ..)
    exact cntF_le l _ c (by omega) fun k h => hk k (List.mem_cons_of_mem _ h)
theorem load_snoc : ∀ (fs : List Int) (ks : List Nat) (f : Int) (k i : Nat), fs.length = ks.length → loadF (fs ++ [f]) (ks ++ [k]) i = loadF fs ks i + if k = i then f else 0
  | [], [], f, k, i, _ => by simp [loadF]
  | x :: fs, y :: ks, f, k, i, h => by
    rw [List.cons_append, List.cons_append, loadF, loadF, load_snoc fs ks f k i (by simpa using h)]; omega
theorem load_bd : ∀ (fs : List Int) (ks : List Nat) (i : Nat), (∀ f ∈ fs, 0 ≤ f ∧ f ≤ 9) → 0 ≤ loadF fs ks i ∧ loadF fs ks i ≤ 9 * fs.length
  | [], _, _, _ => by simp [loadF]
  | x :: fs, [], _, _ => by simp [loadF]; omega
  | x :: fs, y :: ks, i, h => by
    have h1 := h x (List.mem_cons_self ..)
    have h2 := load_bd fs ks i fun d hd => h d (List.mem_cons_of_mem _ hd)
    rw [loadF, List.length_cons]
    split <;> omega
/-- all that the law asks of the rounds -/
theorem rounds_law {n c : Nat} {limit : Int} {fs : List Int} {ks : List Nat} (hn : fs.length = n) (h1 : 1 ≤ n) (hfs : ∀ f ∈ fs, 0 ≤ f ∧ f ≤ limit) (hl : 1 ≤ limit) (hc1 : 1 ≤ c) (hcn : c ≤ n) (hk : fillF limit fs (zeros c) = some ks) (hmin : ∀ q, 1 ≤ q → q < c → fillF limit fs (zeros q) = none) :
    ks.length = n ∧ (∀ k ∈ ks, k < n) ∧ 1 ≤ cntF 0 ks ∧ cntF 0 ks ≤ n ∧ (∀ i, i < cntF 0 ks → loadF fs ks i ≤ limit ∧ ∀ k, k < i → limit < loadF fs ks i + loadF fs ks k) ∧ sumI fs ≤ (cntF 0 ks : Int) * limit := by
  have hz : ∀ i, i < (zeros c).length → (zeros c).getD i 0 ≤ limit := fun i _ => by rw [zeros_at]; omega
  have hF := fillF_sound fs (zeros c) ks hz hk
  have hlen := hF.len
  have hzl : (zeros c).length = c := by simp [zeros]
  have hlt : ∀ k ∈ ks, k < c := fun k hk => by have := hF.lt k hk; omega
  have hload : ∀ i, i < c → loadF fs ks i ≤ limit := fun i hi => by have := hF.load i (by omega); rw [zeros_at] at this; omega
  obtain ⟨_, hge⟩ := cntF_ge ks 0
  have hle := cntF_le ks 0 c (Nat.zero_le _) hlt
  have hpos : 1 ≤ cntF 0 ks := by
    cases ks with
    | nil => simp at hlen; omega
    | cons k ks => have := hge k (List.mem_cons_self ..); omega
  refine ⟨by omega, fun k hk => by have := hlt k hk; omega, hpos, by omega, fun i hi => ⟨hload i (by omega), fun k hk => ?_⟩, ?_⟩
  · exact no_two (fun f hf => (hfs f hf).1) hF (hmin (c - 1) (by omega) (by omega)) hk (by omega)
  · rw [← sum_loads fs ks hlen hge]
    have := sumTo_le (g := loadF fs ks) (m := limit) (cntF 0 ks) (fun i hi => hload i (by omega))
    exact this
end Go.Plan
/- Blocks in another order. -/
namespace Go.Mem
open Go.RowKit
theorem Sep.perm {L L' : List Asr} (h : L.Perm L') : ∀ {w : World} {F : Nat → Prop}, Sep L w F → Sep L' w F := by
  induction h with
  | nil => intros; trivial
  | cons A _ ih => rintro w F ⟨F1, h1, h2, h3⟩; exact ⟨F1, h1, h2, ih h3⟩
  | swap A B L =>
    rintro w F ⟨F1, h1, h2, F2, g1, g2, g3⟩
    exact ⟨F2, fun b hb => (g1 b hb).1, g2, F1, fun b hb => ⟨h1 b hb, fun h => (g1 b h).2 hb⟩, h2, g3.mono fun b ⟨⟨a, c⟩, d⟩ => ⟨⟨a, d⟩, c⟩⟩
  | trans _ _ ih1 ih2 => intro w F h; exact ih2 (ih1 h)
theorem St.perm {W w : World} {L L' : List Asr} (h : St W w L) (hp : L.Perm L') : St W w L' := ⟨h.1, Sep.perm hp h.2⟩
/-- a new block, laid second: behind the head -/
theorem St.blk_new2 {W w : World} {A : Asr} {L : List Asr} (h : St W w (A :: L)) (cs : Array Value) (t : TypeId) : St W (w.alloc (.cells cs t)) (A :: blk w.heap.size t cs :: L) :=
  (h.blk_new cs t).perm (.cons _ List.perm_append_comm)
theorem St.blk_new1 {W w : World} {L : List Asr} (h : St W w L) (cs : Array Value) (t : TypeId) : St W (w.alloc (.cells cs t)) (blk w.heap.size t cs :: L) :=
  (h.blk_new cs t).perm List.perm_append_comm
end Go.Mem
