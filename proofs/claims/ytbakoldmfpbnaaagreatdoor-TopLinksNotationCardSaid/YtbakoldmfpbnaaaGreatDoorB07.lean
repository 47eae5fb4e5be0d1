/- Part 7 of the walks of the golf union's program: LN3. -/
import Derived.Test.YtbakoldmfpbnaaaGreatDoorB06
set_option linter.unusedVariables false
set_option linter.unusedSimpArgs false
set_option linter.unusedSectionVars false
set_option linter.constructorNameAsVariable false
/- Chapter 1: the reader takes a word. Printed by gen_take.py. -/
namespace Go.Adj
open Go.RowKit Go.Mem
def oneOk (w : List UInt8) : Bool := Lib.cut w [42] == (w, [], false) && w != [124] && !w.contains 32 && decide (w.length ≤ 3) && decide (1 ≤ w.length)
def repOk (j : Nat) (w : List UInt8) : Bool := Lib.cut (dgL j ++ 42 :: w) [42] == (dgL j, w, true) && (dgL j ++ 42 :: w) != [124] && !(dgL j ++ 42 :: w).contains 32 && decide ((dgL j ++ 42 :: w).length ≤ 6) && decide (1 ≤ (dgL j ++ 42 :: w).length)
def wordOk (w : List UInt8) : Bool := oneOk w && (List.range 7).all fun j => repOk (j + 3) w
theorem word_all : (wordOk [120] && wordOk [45] && (List.range 99).all fun k => wordOk (dgL (k + 1)) && wordOk (dgL (k + 1) ++ [99])) = true := by decide +kernel
theorem word_ok {x : EI} (h : GoodE x) : wordOk (wE x) = true := by
  have h0 := word_all
  rw [Bool.and_eq_true, Bool.and_eq_true, List.all_eq_true] at h0
  obtain ⟨⟨h1, h2⟩, h3⟩ := h0
  obtain ⟨s, m⟩ := x
  rcases h with ⟨hm, h4, h5⟩ | ⟨hm | hm, hs⟩
  · have h6 := h3 (s.toNat - 1) (List.mem_range.2 (by dsimp only at h4 h5; omega))
    rw [Bool.and_eq_true, show s.toNat - 1 + 1 = s.toNat by dsimp only at h4; omega] at h6
    rcases hm with hm | hm
    · change m = be at hm
      subst hm
      have e : wE ⟨s, be⟩ = dgL s.toNat := by unfold wE; rw [if_neg (by show be ≠ bx; decide), if_neg (by show be ≠ bd; decide), if_neg (by show be ≠ bc; decide)]
      rw [e]; exact h6.1
    · change m = bc at hm
      subst hm
      have e : wE ⟨s, bc⟩ = dgL s.toNat ++ [99] := by unfold wE; rw [if_neg (by show bc ≠ bx; decide), if_neg (by show bc ≠ bd; decide), if_pos rfl]
      rw [e]; exact h6.2
  · change m = bx at hm
    subst hm
    have e : wE ⟨s, bx⟩ = [120] := if_pos rfl
    rw [e]; exact h1
  · change m = bd at hm
    subst hm
    have e : wE ⟨s, bd⟩ = [45] := by unfold wE; rw [if_neg (by show bd ≠ bx; decide), if_pos rfl]
    rw [e]; exact h2
theorem one_ok {x : EI} (h : GoodE x) : oneOk (wE x) = true := by
  have := word_ok h
  rw [wordOk, Bool.and_eq_true] at this
  exact this.1
theorem rep_ok {x : EI} (h : GoodE x) {j : Nat} (hj : 3 ≤ j ∧ j ≤ 9) : repOk j (wE x) = true := by
  have := word_ok h
  rw [wordOk, Bool.and_eq_true, List.all_eq_true] at this
  have h2 := this.2 (j - 3) (List.mem_range.2 (by omega))
  rwa [show j - 3 + 3 = j by omega] at h2
/-- the words of a notation -/
inductive Tok where
  | bar
  | one (x : EI)
  | rep (j : Nat) (x : EI)
def Tok.word : Tok → List UInt8
  | .bar => [124]
  | .one x => wE x
  | .rep j x => dgL j ++ 42 :: wE x
def Tok.es : Tok → List EI
  | .bar => []
  | .one x => [x]
  | .rep j x => List.replicate j x
def Tok.isBar : Tok → Bool
  | .bar => true
  | _ => false
/-- what a word may be behind so many entries -/
def Tok.ok (n : Nat) (bar : Bool) : Tok → Prop
  | .bar => 0 < n ∧ n % 9 = 0 ∧ bar = false
  | .one x => GoodE x ∧ n + 1 ≤ 36
  | .rep j x => GoodE x ∧ 3 ≤ j ∧ j ≤ 9 ∧ n + j ≤ 36
theorem rep_cells (j : Nat) (x : EI) : (List.replicate j x).flatMap EI.cells = (List.replicate j (EI.cells x)).flatten := by
  rw [List.flatMap_def, List.map_replicate]
end Go.Adj
namespace Go.Mem
open Go.RowKit
/-- the blocks that were there are as they were, but those of P -/
def KeepX (P : Nat → Prop) (w w' : World) : Prop := w.heap.size ≤ w'.heap.size ∧ ∀ k, k < w.heap.size → ¬ P k → w'.heap[k]? = w.heap[k]?
theorem KeepX.refl (P : Nat → Prop) (w : World) : KeepX P w w := ⟨Nat.le_refl _, fun _ _ _ => rfl⟩
theorem KeepX.trans {P : Nat → Prop} {a b c : World} (h : KeepX P a b) (k : KeepX P b c) : KeepX P a c := ⟨Nat.le_trans h.1 k.1, fun i hi hp => (k.2 i (Nat.lt_of_lt_of_le hi h.1) hp).trans (h.2 i hi hp)⟩
theorem KeepX.below {P : Nat → Prop} {a b : World} (h : Below a.heap.size a b) : KeepX P a b := ⟨h.size, fun i hi _ => h.block i hi⟩
theorem KeepX.grown {P : Nat → Prop} {a b : World} {r : Option Nat} (h : a.grownBy b r) (hr : ∀ k, r = some k → P k) : KeepX P a b := ⟨h.size, fun i hi hp => h.block i hi fun e => hp (hr i e.symm)⟩
theorem KeepX.set {P : Nat → Prop} {g : Nat} (a : World) (j : Nat) (u : Value) (hg : P g) : KeepX P a (a.setCell ⟨g, j, none⟩ u) := ⟨by simp [World.setCell], fun i hi hp => Below.heap_setCell _ _ _ _ fun e => hp (by subst e; exact hg)⟩
end Go.Mem
namespace Go.Proofs.YtbakoldmfpbnaaaGreatDoor
open Go.RowKit Go.Mem Go.Sheet Go.Adj Go.Shelf
/-- the library's limit of a short search lies in its cell: some number -/
def GlobM (w : World) : Prop := ∃ m, w.cell? ⟨1, 0, none⟩ = some (.int .i64 m)
theorem GlobM.later {w w' : World} (h : GlobM w) (hb : Below w.heap.size w w') : GlobM w' := by
  obtain ⟨m, hm⟩ := h
  exact ⟨m, (hb.cell (p := ⟨1, 0, none⟩) (World.block_lt_of_cell? _ _ hm)).trans hm⟩
theorem cut_any (s : ByteArray) (w : World) (h : GlobM w) (hs : s.size ≤ 1000) (l r : List UInt8) (b : Bool) (hc : Lib.cut s.data.toList [42] = (l, r, b)) : Calls Tryz.prog 71 #[.string s, .string ⟨#[42]⟩] w fun e w' => e = .returned (.tuple #[.string (wB l), .string (wB r), .bool b]) ∧ Below w.heap.size w w' := by
  obtain ⟨m, hm⟩ := h
  refine (Tryz.strings_Cut s ⟨#[42]⟩ m w (by omega) hm).mono ?_
  rintro e w' ⟨rfl, n, rfl⟩
  rw [show (⟨#[42]⟩ : ByteArray).data.toList = [42] from rfl, hc]
  exact ⟨rfl, below_drewN (Below.refl _ _) n⟩
set_option maxRecDepth 100000 in
set_option maxHeartbeats 4000000 in
theorem take_bar (W w : World) (gr n c : Nat) (A : Option Addr) (L : List Asr) (S : St W w (blk gr 93 #[.slice A n c, .bool false] :: L)) (hn : 0 < n) (h9 : n % 9 = 0) :
    Calls Tryz.prog 32 #[.pointer (some ⟨gr, 0, none⟩), .string ⟨#[124]⟩] w fun e w' => e = .returned (.int .i64 0) ∧ St W w' (blk gr 93 #[.slice A n c, .bool true] :: L) ∧ KeepX (fun k => k = gr ∨ (Value.slice A n c).ownBlock = some k) w w' := by
  have c0 := S.blk_cell (i := 0) rfl 0
  have c1 := S.blk_cell (i := 0) rfl 1
  have f1 := S.blk_frozen (i := 0) rfl 1
  have t1 : ((n : Int) == 0) = false := by simp; omega
  have t2 : (n : Int).tmod 9 = 0 := by
    rw [Int.tmod_eq_emod_of_nonneg (by omega)]; omega
  have HS := Lib.hid S
  clear S
  go_enter Tryz.func32, Tryz.ntmps32
  go_wp2
  go_ret
  have := HS.out.blk_set (i := 0) rfl 1 (.bool true)
  exact ⟨rfl, this, KeepX.set _ _ _ (.inl rfl)⟩
set_option maxRecDepth 100000 in
set_option maxHeartbeats 4000000 in
theorem take_one (W w : World) (gr n : Nat) (ve : Value) (bar : Bool) (x : EI) (es : List EI) (L : List Asr) (S : St W w (blk gr 93 #[ve, .bool bar] :: row 54 2 ve n (es.flatMap EI.cells) :: L)) (hg : GlobM w) (hx : GoodE x) (hn : n + 1 ≤ 36) :
    Calls Tryz.prog 32 #[.pointer (some ⟨gr, 0, none⟩), .string (wB (wE x))] w fun e w' => e = .returned (.int .i64 0) ∧ (∃ ve', St W w' (blk gr 93 #[ve', .bool false] :: row 54 2 ve' (n + 1) ((es ++ Tok.es (.one x)).flatMap EI.cells) :: L)) ∧ KeepX (fun k => k = gr ∨ ve.ownBlock = some k) w w' := by
  have hok := one_ok hx
  simp only [oneOk, Bool.and_eq_true, beq_iff_eq, bne_iff_ne, Bool.not_eq_true', decide_eq_true_eq] at hok
  obtain ⟨⟨⟨⟨o1, o2⟩, _⟩, o4⟩, _⟩ := hok
  obtain ⟨A, c, rfl, _, _, _⟩ := (S.row_rd (i := 1) rfl).open_
  generalize hPX : (fun k => k = gr ∨ (Value.slice A n c).ownBlock = some k) = PX
  have HP1 : Hid (PX gr) := by show PX gr; rw [← hPX]; exact .inl rfl
  have HP2 : Hid (∀ k, (Value.slice A n c).ownBlock = some k → PX k) := fun k hk => by rw [← hPX]; exact .inr hk
  clear hPX
  have HCUT : Hid (∀ w', Below w.heap.size w w' → Calls Tryz.prog 71 #[.string (wB (wE x)), .string ⟨#[42]⟩] w' fun e w2 => e = .returned (.tuple #[.string (wB (wE x)), .string (wB []), .bool false]) ∧ Below w'.heap.size w' w2) := fun w' h => cut_any _ w' (hg.later h) (by rw [wB_size]; show (wE x).length ≤ 1000; omega) _ _ _ (by rw [wB_list]; exact o1)
  have t1 : ((wB (wE x)).toList == [124]) = false := wB_ne o2
  have HEN : Hid (∀ w, Calls Tryz.prog 73 #[.string (wB (wE x))] w fun e w' => e = .returned (.tuple #[.agg #[.int .i64 x.s, .string x.m], .bool true]) ∧ Below w.heap.size w w') := fun w => entry_ok x hx w
  have HCE : Hid (∀ w, Calls Tryz.prog 59 #[.agg #[.int .i64 x.s, .string x.m]] w fun e w' => e = .returned (.int .i64 0) ∧ Below w.heap.size w w') := fun w => checkEntry_ok w x.s x.m hx
  have t36 : decide ((36 : Int) < (n : Int) + 1) = false := by simp; omega
  clear o1 o2 o4
  generalize hsw : wB (wE x) = sw at *
  obtain ⟨xs, xm⟩ := x
  dsimp only at HEN HCE
  have HS := Lib.hid S
  clear S hsw
  go_enter Tryz.func32, Tryz.ntmps32
  go_wp2_with fail
  go_at_call 71
  refine (HCUT.out w (Below.refl _ _)).mono ?_
  rintro e w1 ⟨rfl, hb1⟩
  have HB1 := Lib.hid hb1
  clear hb1
  go_wp2_with fail
  go_at_call 73
  refine (HEN.out _).mono ?_
  rintro e w2 ⟨rfl, hb2⟩
  have HK2 := Lib.hid ((KeepX.below (P := PX) HB1.out).trans ((KeepX.below hb2).trans (KeepX.below ((Below.refl w2.heap.size w2).alloc (Nat.le_refl _) (.cells #[.int .i64 xs, .string xm] 54)))))
  have S2 := ((HS.out.ext HB1.out).ext hb2).blk_new #[.int .i64 xs, .string xm] 54
  simp only [List.cons_append] at S2
  have HS2 := Lib.hid S2
  have HE2 := Lib.hid (HCE.out (w2.alloc (.cells #[.int .i64 xs, .string xm] 54)))
  have hlt2 : ∀ w', Below (w2.alloc (.cells #[.int .i64 xs, .string xm] 54)).heap.size (w2.alloc (.cells #[.int .i64 xs, .string xm] 54)) w' → w'.cell? ⟨gr, 0, none⟩ = some (.slice A n c) ∧ w'.cell? ⟨gr, 1, none⟩ = some (.bool bar) ∧ w'.frozen? ⟨gr, 1, none⟩ = false := fun w' h => ⟨(S2.ext h).blk_cell (i := 0) rfl 0, (S2.ext h).blk_cell (i := 0) rfl 1, (S2.ext h).blk_frozen (i := 0) rfl 1⟩
  have HLT := Lib.hid hlt2
  clear hb2 S2 hlt2
  go_wp2_with (go_at_call 59; refine HE2.out.mono ?_; rintro e w3 ⟨rfl, hb3⟩; obtain ⟨c0, c1, f1⟩ := HLT.out _ hb3; have HB3 := Lib.hid hb3; clear hb3)
  have S4 := (HS2.out.ext HB3.out).blk_set (i := 0) rfl 1 (.bool false)
  simp only [List.set_cons_zero] at S4
  have HK4 : Hid (KeepX PX w (w3.setCell ⟨gr, 1, none⟩ (.bool false)).drew) := (HK2.out.trans (KeepX.below HB3.out)).trans ((KeepX.set _ _ _ HP1.out).trans (KeepX.below (Below.refl _ _).drew))
  generalize w3.setCell ⟨gr, 1, none⟩ (.bool false) = w4 at *
  generalize hgx : w2.heap.size = gx at *
  have hidx : (blk gr 93 #[.slice A n c, .bool false] :: row 54 2 (.slice A n c) n (es.flatMap EI.cells) :: (L ++ [blk gx 54 #[.int .i64 xs, .string xm]]))[L.length + 2]? = some (blk gx 54 #[.int .i64 xs, .string xm]) := by simp
  have HIDX := Lib.hid hidx
  have S4' : St W w4.drew (blk gr 93 #[.slice A n c, .bool false] :: row 54 2 (.slice A n c) n (es.flatMap EI.cells) :: (L ++ [blk gx 54 #[.int .i64 xs, .string xm]])) := S4.drew
  generalize hLX : (blk gr 93 #[.slice A n c, .bool false] :: row 54 2 (.slice A n c) n (es.flatMap EI.cells) :: (L ++ [blk gx 54 #[.int .i64 xs, .string xm]])) = LX at *
  have HLX0 : Hid (LX[0]? = some (blk gr 93 #[.slice A n c, .bool false])) := by show _ = _; rw [← hLX]; rfl
  have HLX1 : Hid (LX[1]? = some (row 54 2 (.slice A n c) n (es.flatMap EI.cells))) := by show _ = _; rw [← hLX]; rfl
  have HLX := Lib.hid hLX
  have HWD := Lib.hid S4'
  clear hLX hidx S4 c0 c1 f1 hgx HK2 HLT HB3 HE2 HS2 HEN HCUT HCE HS
  refine wp_head_tail' 1 9 2 [0] [1, 2, 3, 4, 5, 7] rfl (fun w' => St W w' LX) (by kernel_rfl) (by kernel_rfl) HWD.out ?_
  simp only [pick, List.filterMap_cons, List.filterMap_nil, List.getElem?_toArray, List.getElem?_cons_succ, List.getElem?_cons_zero]
  generalize hK : (fun w' => St W w' LX) = K
  have kS : ∀ y : Wd K, St W y.w LX := by subst hK; exact fun y => y.h
  have hK2 : ∀ w', St W w' LX → K w' := by subst hK; exact fun _ h => h
  have hne : Nonempty (Wd K) := ⟨⟨_, hK2 _ HWD.out⟩⟩
  have k0 : ∀ y : Wd K, y.w.cell? ⟨gr, 0, none⟩ = some (.slice A n c) := fun y => (kS y).blk_cell HLX0.out 0
  have k1 : ∀ y : Wd K, y.w.cell? ⟨gx, 0, none⟩ = some (.int .i64 xs) := fun y => (kS y).blk_cell HIDX.out 0
  have k2 : ∀ y : Wd K, y.w.cell? ⟨gx, 1, none⟩ = some (.string xm) := fun y => (kS y).blk_cell HIDX.out 1
  clear hK kS
  change wpQuiet _ _ _ _ (_ :: []) _
  go_big_quiet_step ((fail))
  refine wpQuiet_nil ?_
  change wpQuiet _ _ _ _ (_ :: _ :: _ :: _ :: _ :: _ :: []) _
  repeat (go_big_quiet_step ((fail)))
  refine wpQuiet_nil ?_
  clear k0 k1 k2 hne
  generalize w4.drew = w5 at *
  refine headW_all (rs := [6]) (by kernel_rfl) (by simp) (by kernel_rfl) ?_
  intro i hi
  obtain rfl := List.mem_singleton.1 hi
  refine wpOp_list rfl ?_
  intro Q' hQ'
  go_wp2_with fail
  have S6 := HWD.out.alloc (.cells #[.int .i64 xs, .string xm] 54)
  have HREP := Lib.hid (repeatE_any (w5.alloc (.cells #[.int .i64 xs, .string xm] 54)) w5.heap.size 1 [.int .i64 xs, .string xm] rfl (by simp [Value.oneCell']) (fun j v hv => by rw [cell_of_row _ _ j _ _ _ (heap_alloc_new w5 _)]; simpa using hv) (by simp) (by omega))
  have HS6 := Lib.hid S6
  refine ⟨hK2 _ S6, ?_⟩
  clear S6
  refine headW_all (rs := [8]) (by kernel_rfl) (by simp) (by kernel_rfl) ?_
  intro i hi
  obtain rfl := List.mem_singleton.1 hi
  refine wpOp_list rfl ?_
  intro Q' hQ'
  go_wp2_with (go_at_call 74; refine HREP.out.mono ?_; rintro e w7 ⟨g, rfl, S7⟩)
  refine ⟨hK2 _ (HS6.out.ext S7.bel), by kernel_rfl, ?_⟩
  have hrd := (S7.row_rd (i := 0) rfl).now
  have S8 := HS6.out.ext S7.bel
  have HK8 := Lib.hid (HK4.out.trans ((KeepX.below ((Below.refl w5.heap.size w5).alloc (Nat.le_refl _) (.cells #[.int .i64 xs, .string xm] 54))).trans (KeepX.below S7.bel)))
  clear hK2 S7 HREP HS6 HWD
  refine wpList_append_st eltE rfl _ _ rfl rfl S8 (k := 1) HLX1.out rfl hrd (fun v hv => by
    obtain ⟨l, hl, hv⟩ := List.mem_flatten.1 hv
    rw [(List.mem_replicate.1 hl).2] at hv
    simp at hv
    rcases hv with rfl | rfl <;> rfl) (by omega) (by omega) ?_
  intro v' w9 S9 hgr9
  have HK9 := Lib.hid (HK8.out.trans (KeepX.grown hgr9 HP2.out))
  clear hgr9 HK8
  obtain ⟨B, d, rfl, _, _, _⟩ := (S9.row_rd (i := 1) (by rw [← HLX.out]; rfl)).open_
  have g0 := S9.blk_cell (i := 0) (by rw [← HLX.out]; rfl) 0
  have g1 := S9.blk_frozen (i := 0) (g := gr) (t := 93) (cs := #[.slice A n c, .bool false]) (by rw [← HLX.out]; rfl) 0
  have HS9 := Lib.hid S9
  clear S9 S8 hrd
  go_wp2_with fail
  refine NoPanic.normal ?_
  go_wp2
  go_ret
  refine ⟨rfl, ⟨.slice B (n + 1) d, ?_⟩, HK9.out.trans (KeepX.set _ _ _ HP1.out)⟩
  have S10 := HS9.out.blk_set (i := 0) (g := gr) (t := 93) (cs := #[.slice A n c, .bool false]) (by rw [← HLX.out]; rfl) 0 (.slice B (n + 1) d)
  rw [← HLX.out] at S10
  have S11 := S10.sub (L' := blk gr 93 #[.slice B (n + 1) d, .bool false] :: row 54 2 (.slice B (n + 1) d) (n + 1) (es.flatMap EI.cells ++ (List.replicate 1 [.int .i64 xs, .string xm]).flatten) :: L) (by
    simp only [List.set_cons_zero, List.set_cons_succ]
    exact ((List.sublist_append_left L _).cons_cons _).cons_cons _)
  rw [List.flatMap_append, show (Tok.es (.one ⟨xs, xm⟩)).flatMap EI.cells = (List.replicate 1 [.int .i64 xs, .string xm]).flatten from rfl]
  exact S11
set_option maxRecDepth 100000 in
set_option maxHeartbeats 4000000 in
theorem take_rep (W w : World) (gr n j : Nat) (ve : Value) (bar : Bool) (x : EI) (es : List EI) (L : List Asr) (S : St W w (blk gr 93 #[ve, .bool bar] :: row 54 2 ve n (es.flatMap EI.cells) :: L)) (hg : GlobM w) (hx : GoodE x) (hj : 3 ≤ j ∧ j ≤ 9) (hn : n + j ≤ 36) :
    Calls Tryz.prog 32 #[.pointer (some ⟨gr, 0, none⟩), .string (wB (dgL j ++ 42 :: wE x))] w fun e w' => e = .returned (.int .i64 0) ∧ (∃ ve', St W w' (blk gr 93 #[ve', .bool false] :: row 54 2 ve' (n + j) ((es ++ Tok.es (.rep j x)).flatMap EI.cells) :: L)) ∧ KeepX (fun k => k = gr ∨ ve.ownBlock = some k) w w' := by
  have hok := rep_ok hx hj
  simp only [repOk, Bool.and_eq_true, beq_iff_eq, bne_iff_ne, Bool.not_eq_true', decide_eq_true_eq] at hok
  obtain ⟨⟨⟨⟨o1, o2⟩, _⟩, o4⟩, _⟩ := hok
  obtain ⟨A, c, rfl, _, _, _⟩ := (S.row_rd (i := 1) rfl).open_
  generalize hPX : (fun k => k = gr ∨ (Value.slice A n c).ownBlock = some k) = PX
  have HP1 : Hid (PX gr) := by show PX gr; rw [← hPX]; exact .inl rfl
  have HP2 : Hid (∀ k, (Value.slice A n c).ownBlock = some k → PX k) := fun k hk => by rw [← hPX]; exact .inr hk
  clear hPX
  have HCUT : Hid (∀ w', Below w.heap.size w w' → Calls Tryz.prog 71 #[.string (wB (dgL j ++ 42 :: wE x)), .string ⟨#[42]⟩] w' fun e w2 => e = .returned (.tuple #[.string (wB (dgL j)), .string (wB (wE x)), .bool true]) ∧ Below w'.heap.size w' w2) := fun w' h => cut_any _ w' (hg.later h) (by rw [wB_size]; show (dgL j ++ 42 :: wE x).length ≤ 1000; omega) _ _ _ (by rw [wB_list]; exact o1)
  have t1 : ((wB (dgL j ++ 42 :: wE x)).toList == [124]) = false := wB_ne o2
  have HEN : Hid (∀ w, Calls Tryz.prog 73 #[.string (wB (wE x))] w fun e w' => e = .returned (.tuple #[.agg #[.int .i64 x.s, .string x.m], .bool true]) ∧ Below w.heap.size w w') := fun w => entry_ok x hx w
  have HCE : Hid (∀ w, Calls Tryz.prog 59 #[.agg #[.int .i64 x.s, .string x.m]] w fun e w' => e = .returned (.int .i64 0) ∧ Below w.heap.size w w') := fun w => checkEntry_ok w x.s x.m hx
  have HIN : Hid (∀ w, Calls Tryz.prog 72 #[.string (wB (dgL j))] w fun e w' => e = .returned (.tuple #[.int .i64 j, .bool true]) ∧ Below w.heap.size w w') := fun w => integer_dg (by omega) w
  have t2 : decide ((j : Int) < 2) = false := by simp; omega
  have t3 : decide (36 < (j : Int)) = false := by simp; omega
  have t36 : decide ((36 : Int) < (n : Int) + j) = false := by simp; omega
  clear o1 o2 o4
  generalize hsw : wB (dgL j ++ 42 :: wE x) = sw at *
  generalize hsj : wB (dgL j) = sj at *
  generalize hsx : wB (wE x) = sx at *
  clear hsj hsx
  obtain ⟨xs, xm⟩ := x
  dsimp only at HEN HCE
  have HS := Lib.hid S
  clear S hsw
  go_enter Tryz.func32, Tryz.ntmps32
  go_wp2_with fail
  go_at_call 71
  refine (HCUT.out w (Below.refl _ _)).mono ?_
  rintro e w1 ⟨rfl, hb1⟩
  have HB1 := Lib.hid hb1
  clear hb1
  go_wp2_with fail
  go_at_call 72
  refine (HIN.out _).mono ?_
  rintro e w1b ⟨rfl, hb1b⟩
  have HB1 := Lib.hid (HB1.out.trans (hb1b.mono HB1.out.size))
  clear hb1b
  go_wp2_with fail
  go_at_call 73
  refine (HEN.out _).mono ?_
  rintro e w2 ⟨rfl, hb2⟩
  have HK2 := Lib.hid ((KeepX.below (P := PX) HB1.out).trans ((KeepX.below hb2).trans (KeepX.below ((Below.refl w2.heap.size w2).alloc (Nat.le_refl _) (.cells #[.int .i64 xs, .string xm] 54)))))
  have S2 := ((HS.out.ext HB1.out).ext hb2).blk_new #[.int .i64 xs, .string xm] 54
  simp only [List.cons_append] at S2
  have HS2 := Lib.hid S2
  have HE2 := Lib.hid (HCE.out (w2.alloc (.cells #[.int .i64 xs, .string xm] 54)))
  have hlt2 : ∀ w', Below (w2.alloc (.cells #[.int .i64 xs, .string xm] 54)).heap.size (w2.alloc (.cells #[.int .i64 xs, .string xm] 54)) w' → w'.cell? ⟨gr, 0, none⟩ = some (.slice A n c) ∧ w'.cell? ⟨gr, 1, none⟩ = some (.bool bar) ∧ w'.frozen? ⟨gr, 1, none⟩ = false := fun w' h => ⟨(S2.ext h).blk_cell (i := 0) rfl 0, (S2.ext h).blk_cell (i := 0) rfl 1, (S2.ext h).blk_frozen (i := 0) rfl 1⟩
  have HLT := Lib.hid hlt2
  clear hb2 S2 hlt2
  go_wp2_with (go_at_call 59; refine HE2.out.mono ?_; rintro e w3 ⟨rfl, hb3⟩; obtain ⟨c0, c1, f1⟩ := HLT.out _ hb3; have HB3 := Lib.hid hb3; clear hb3)
  have S4 := (HS2.out.ext HB3.out).blk_set (i := 0) rfl 1 (.bool false)
  simp only [List.set_cons_zero] at S4
  have HK4 : Hid (KeepX PX w (w3.setCell ⟨gr, 1, none⟩ (.bool false)).drew) := (HK2.out.trans (KeepX.below HB3.out)).trans ((KeepX.set _ _ _ HP1.out).trans (KeepX.below (Below.refl _ _).drew))
  generalize w3.setCell ⟨gr, 1, none⟩ (.bool false) = w4 at *
  generalize hgx : w2.heap.size = gx at *
  have hidx : (blk gr 93 #[.slice A n c, .bool false] :: row 54 2 (.slice A n c) n (es.flatMap EI.cells) :: (L ++ [blk gx 54 #[.int .i64 xs, .string xm]]))[L.length + 2]? = some (blk gx 54 #[.int .i64 xs, .string xm]) := by simp
  have HIDX := Lib.hid hidx
  have S4' : St W w4.drew (blk gr 93 #[.slice A n c, .bool false] :: row 54 2 (.slice A n c) n (es.flatMap EI.cells) :: (L ++ [blk gx 54 #[.int .i64 xs, .string xm]])) := S4.drew
  generalize hLX : (blk gr 93 #[.slice A n c, .bool false] :: row 54 2 (.slice A n c) n (es.flatMap EI.cells) :: (L ++ [blk gx 54 #[.int .i64 xs, .string xm]])) = LX at *
  have HLX0 : Hid (LX[0]? = some (blk gr 93 #[.slice A n c, .bool false])) := by show _ = _; rw [← hLX]; rfl
  have HLX1 : Hid (LX[1]? = some (row 54 2 (.slice A n c) n (es.flatMap EI.cells))) := by show _ = _; rw [← hLX]; rfl
  have HLX := Lib.hid hLX
  have HWD := Lib.hid S4'
  clear hLX hidx S4 c0 c1 f1 hgx HK2 HLT HB3 HE2 HS2 HEN HCUT HCE HS
  refine wp_head_tail' 1 9 2 [0] [1, 2, 3, 4, 5, 7] rfl (fun w' => St W w' LX) (by kernel_rfl) (by kernel_rfl) HWD.out ?_
  simp only [pick, List.filterMap_cons, List.filterMap_nil, List.getElem?_toArray, List.getElem?_cons_succ, List.getElem?_cons_zero]
  generalize hK : (fun w' => St W w' LX) = K
  have kS : ∀ y : Wd K, St W y.w LX := by subst hK; exact fun y => y.h
  have hK2 : ∀ w', St W w' LX → K w' := by subst hK; exact fun _ h => h
  have hne : Nonempty (Wd K) := ⟨⟨_, hK2 _ HWD.out⟩⟩
  have k0 : ∀ y : Wd K, y.w.cell? ⟨gr, 0, none⟩ = some (.slice A n c) := fun y => (kS y).blk_cell HLX0.out 0
  have k1 : ∀ y : Wd K, y.w.cell? ⟨gx, 0, none⟩ = some (.int .i64 xs) := fun y => (kS y).blk_cell HIDX.out 0
  have k2 : ∀ y : Wd K, y.w.cell? ⟨gx, 1, none⟩ = some (.string xm) := fun y => (kS y).blk_cell HIDX.out 1
  clear hK kS
  change wpQuiet _ _ _ _ (_ :: []) _
  go_big_quiet_step ((fail))
  refine wpQuiet_nil ?_
  change wpQuiet _ _ _ _ (_ :: _ :: _ :: _ :: _ :: _ :: []) _
  repeat (go_big_quiet_step ((fail)))
  refine wpQuiet_nil ?_
  clear k0 k1 k2 hne
  generalize w4.drew = w5 at *
  refine headW_all (rs := [6]) (by kernel_rfl) (by simp) (by kernel_rfl) ?_
  intro i hi
  obtain rfl := List.mem_singleton.1 hi
  refine wpOp_list rfl ?_
  intro Q' hQ'
  go_wp2_with fail
  have S6 := HWD.out.alloc (.cells #[.int .i64 xs, .string xm] 54)
  have HREP := Lib.hid (repeatE_any (w5.alloc (.cells #[.int .i64 xs, .string xm] 54)) w5.heap.size j [.int .i64 xs, .string xm] rfl (by simp [Value.oneCell']) (fun j v hv => by rw [cell_of_row _ _ j _ _ _ (heap_alloc_new w5 _)]; simpa using hv) (by simp) (by omega))
  have HS6 := Lib.hid S6
  refine ⟨hK2 _ S6, ?_⟩
  clear S6
  refine headW_all (rs := [8]) (by kernel_rfl) (by simp) (by kernel_rfl) ?_
  intro i hi
  obtain rfl := List.mem_singleton.1 hi
  refine wpOp_list rfl ?_
  intro Q' hQ'
  go_wp2_with (go_at_call 74; refine HREP.out.mono ?_; rintro e w7 ⟨g, rfl, S7⟩)
  refine ⟨hK2 _ (HS6.out.ext S7.bel), by kernel_rfl, ?_⟩
  have hrd := (S7.row_rd (i := 0) rfl).now
  have S8 := HS6.out.ext S7.bel
  have HK8 := Lib.hid (HK4.out.trans ((KeepX.below ((Below.refl w5.heap.size w5).alloc (Nat.le_refl _) (.cells #[.int .i64 xs, .string xm] 54))).trans (KeepX.below S7.bel)))
  clear hK2 S7 HREP HS6 HWD
  refine wpList_append_st eltE rfl _ _ rfl rfl S8 (k := 1) HLX1.out rfl hrd (fun v hv => by
    obtain ⟨l, hl, hv⟩ := List.mem_flatten.1 hv
    rw [(List.mem_replicate.1 hl).2] at hv
    simp at hv
    rcases hv with rfl | rfl <;> rfl) (by omega) (by omega) ?_
  intro v' w9 S9 hgr9
  have HK9 := Lib.hid (HK8.out.trans (KeepX.grown hgr9 HP2.out))
  clear hgr9 HK8
  obtain ⟨B, d, rfl, _, _, _⟩ := (S9.row_rd (i := 1) (by rw [← HLX.out]; rfl)).open_
  have g0 := S9.blk_cell (i := 0) (by rw [← HLX.out]; rfl) 0
  have g1 := S9.blk_frozen (i := 0) (g := gr) (t := 93) (cs := #[.slice A n c, .bool false]) (by rw [← HLX.out]; rfl) 0
  have HS9 := Lib.hid S9
  clear S9 S8 hrd
  go_wp2_with fail
  refine NoPanic.normal ?_
  go_wp2
  go_ret
  refine ⟨rfl, ⟨.slice B (n + j) d, ?_⟩, HK9.out.trans (KeepX.set _ _ _ HP1.out)⟩
  have S10 := HS9.out.blk_set (i := 0) (g := gr) (t := 93) (cs := #[.slice A n c, .bool false]) (by rw [← HLX.out]; rfl) 0 (.slice B (n + j) d)
  rw [← HLX.out] at S10
  have S11 := S10.sub (L' := blk gr 93 #[.slice B (n + j) d, .bool false] :: row 54 2 (.slice B (n + j) d) (n + j) (es.flatMap EI.cells ++ (List.replicate j [.int .i64 xs, .string xm]).flatten) :: L) (by
    simp only [List.set_cons_zero, List.set_cons_succ]
    exact ((List.sublist_append_left L _).cons_cons _).cons_cons _)
  rw [List.flatMap_append, show (Tok.es (.rep j ⟨xs, xm⟩)).flatMap EI.cells = (List.replicate j [.int .i64 xs, .string xm]).flatten from rep_cells j _]
  exact S11
end Go.Proofs.YtbakoldmfpbnaaaGreatDoor
