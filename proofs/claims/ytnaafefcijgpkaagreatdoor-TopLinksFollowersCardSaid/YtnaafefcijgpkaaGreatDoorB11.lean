/- Part 11 of the walks of the golf union's program: L14. -/
import Derived.Test.YtnaafefcijgpkaaGreatDoorB09
import Derived.Test.YtnaafefcijgpkaaGreatDoorB10
set_option linter.unusedVariables false
set_option linter.unusedSimpArgs false
set_option linter.unusedSectionVars false
set_option linter.constructorNameAsVariable false
/- Chapter 5: Points. -/
namespace Go.Proofs.YtnaafefcijgpkaaGreatDoor
open Go.RowKit Go.Mem Go.Sheet Go.Adj
def ptsL (hs : List HI) (es : List EI) (co : Int) (i : Nat) : Int := ptN (netF hs es co i).s (netF hs es co i).x (hAt hs i).par
set_option maxRecDepth 100000 in
set_option maxHeartbeats 4000000 in
theorem holes_ok (W : World) (v ve : Value) (n : Nat) (hs : List HI) (es : List EI) (name : ByteArray) (co : Int) (hco : -99 ≤ co ∧ co ≤ 99) (h : CEnv W v ve n hs es name) :
    Calls Tryz.prog 29 #[v, .agg #[.string name, ve, .int .i64 co], .func (.func 30) #[] #[]] W fun e w' => ∃ v', e = .returned (.tuple #[v', .int .i64 0]) ∧ St W w' [row 3 1 v' n (intsI (gl (ptsL hs es co) n))] := by
  have HE := Lib.hid h
  have hl := h.len
  have hn := h.gh.len
  rw [← hl] at hn
  have HPAR : Hid (∀ k, k < n → 3 ≤ (hAt hs k).par ∧ (hAt hs k).par ≤ 6) := fun k hk => h.gh.par k (by omega)
  have HBD : Hid (∀ i, i < n → -200 ≤ (netF hs es co i).s ∧ (netF hs es co i).s ≤ 200) := fun i hi => by
    have h1 := good_bd (h.ge i hi)
    have h2 := giv_bd h.gh.len hco i
    unfold netF
    split
    · show -200 ≤ (0 : Int) ∧ (0 : Int) ≤ 200; omega
    · split
      · show -200 ≤ (0 : Int) ∧ (0 : Int) ≤ 200; omega
      · show -200 ≤ _ - _ ∧ _ - _ ≤ 200
        omega
  have HPT : Hid (∀ i, ptN (netF hs es co i).s (netF hs es co i).x (hAt hs i).par = ptsL hs es co i) := fun _ => rfl
  have HCP : Hid (∀ w, CEnv w v ve n hs es name → Calls Tryz.prog 61 #[v, .agg #[.string name, ve, .int .i64 co]] w fun e w' => e = .returned (.int .i64 0) ∧ Below w.heap.size w w') := fun w h => checkPlayer_ok w v ve n hs es name co hco h
  have HNT : Hid (∀ w, CEnv w v ve n hs es name → Calls Tryz.prog 62 #[.agg #[.string name, ve, .int .i64 co], v] w fun e w' => ∃ v', e = .returned v' ∧ St w w' [row 99 2 v' n ((nl (netF hs es co) n).flatMap NI.cells)]) := fun w h => nets_ok w v ve n hs es name co hco h
  generalize netF hs es co = NF at *
  generalize ptsL hs es co = PF at *
  obtain ⟨A, c, rfl, _, _, _⟩ := h.rh.open_
  obtain ⟨Ae, ce, rfl, _, _, _⟩ := h.re.open_
  clear h hl
  have hb := (Below.refl W.heap.size W).alloc (Nat.le_refl _) (.cells #[.string name, .slice Ae n ce, .int .i64 co] 54)
  have HB := Lib.hid hb
  have c0 : (W.alloc (.cells #[.string name, .slice Ae n ce, .int .i64 co] 54)).cell? ⟨W.heap.size, 0, none⟩ = some (.string name) := by simp
  have c1 : (W.alloc (.cells #[.string name, .slice Ae n ce, .int .i64 co] 54)).cell? ⟨W.heap.size, 1, none⟩ = some (.slice Ae n ce) := by simp
  have c2 : (W.alloc (.cells #[.string name, .slice Ae n ce, .int .i64 co] 54)).cell? ⟨W.heap.size, 2, none⟩ = some (.int .i64 co) := by simp
  have HE1 := Lib.hid (HE.out.later hb)
  clear hb
  go_enter Tryz.func29, Tryz.ntmps29
  go_wp2_with fail
  generalize W.alloc (.cells #[.string name, .slice Ae n ce, .int .i64 co] 54) = W1 at *
  generalize W.heap.size = gc at c0 c1 c2 ⊢
  have hlt := World.block_lt_of_cell? _ _ c1
  go_at_call 61
  refine (HCP.out _ HE1.out).mono ?_
  rintro e W2 ⟨rfl, hb1⟩
  have d0 := (hb1.cell (p := ⟨gc, 0, none⟩) hlt).trans c0
  have d1 := (hb1.cell (p := ⟨gc, 1, none⟩) hlt).trans c1
  have d2 := (hb1.cell (p := ⟨gc, 2, none⟩) hlt).trans c2
  have HE2 := Lib.hid (HE1.out.later hb1)
  have HB1 := Lib.hid (HB.out.trans (hb1.mono HB.out.size))
  clear c0 c1 c2 hb1 HE1 HB hlt
  go_wp2_with fail
  go_at_call 62
  refine (HNT.out _ HE2.out).mono ?_
  rintro e w3 ⟨vn, rfl, S⟩
  have S2 := (St.of_below HB1.out).call S
  simp only [List.nil_append] at S2
  obtain ⟨bn, cn, rfl⟩ := row_some2 S2 (i := 0) rfl (by omega)
  have HS := Lib.hid S2
  clear S S2 d0 d1 d2 HCP HNT HE2 HB1
  go_wp2
  have S0 := HS.out.row_nil 3 1
  simp only [List.cons_append, List.nil_append] at S0
  clear HS
  go_loopw [22, 9] (fun i v w' => ∃ k : Nat, k ≤ n ∧ i = .int .i64 k ∧ St W w' [row 99 2 (.slice (some ⟨bn, 0, none⟩) n cn) n ((nl NF n).flatMap NI.cells), row 3 1 v k (intsI (gl PF k))]) (fun i _ _ => n - (intOf i).toNat)
  case atStart => exact ⟨0, Nat.zero_le _, rfl, S0⟩
  case round =>
    obtain ⟨k, hk, rfl, S⟩ := hrel
    clear S0
    by_cases hlt : k < n
    · obtain ⟨bh, oh, xh, rfl, hxh, e0, e1⟩ := (HE.out.later S.bel).rh.elem2 (k := k) (fun s : HI => .int .i64 s.par) (fun s : HI => .int .i64 s.idx) (fun _ => rfl) hlt
      obtain ⟨b, o, x, hbo, hx, c0, c1⟩ := net_elem (S.row_rd (i := 0) rfl) hlt
      cases hbo
      have hxe : NF k = x := Option.some.inj ((nl_at NF hlt).symm.trans hx)
      have hxb := HBD.out k hlt
      have hpar := HPAR.out k hlt
      have hpt := HPT.out k
      rw [hAt_eq hxh] at hpar hpt
      rw [hxe] at hxb hpt
      have hgl := gl_snoc PF k
      rw [← hpt] at hgl
      have HGL := Lib.hid hgl
      clear hpt hgl hx hxe hxh e1
      obtain ⟨par, idx⟩ := xh
      obtain ⟨xs, xx⟩ := x
      simp only [Nat.zero_add] at c0 c1 hxb hpar e0
      have HC : Hid (∀ w, Calls Tryz.prog 30 #[.agg #[.int .i64 xs, .string (mkN xx)], .int .i64 par] w fun r w' => r = .returned (.int .i64 (ptN xs xx par)) ∧ Below w.heap.size w w') := fun w => points1_any xs xx par w (by omega) (by omega)
      generalize ptN xs xx par = pv at *
      generalize mkN xx = xm at *
      have HS := Lib.hid S
      have SA := (HS.out.blk_new #[.int .i64 xs, .string xm] 99).drew
      simp only [List.cons_append, List.nil_append] at SA
      have hbh := World.block_lt_of_cell? _ _ e0
      have e2 : (wr.alloc (.cells #[.int .i64 xs, .string xm] 99)).drew.cell? ⟨bh, oh + k * 2, none⟩ = some (.int .i64 par) := ((((Below.refl wr.heap.size wr).alloc (Nat.le_refl _) _).drew).cell (p := ⟨bh, oh + k * 2, none⟩) hbh).trans e0
      clear S e0 hbh
      go_wp2_with fail
      clear c0 c1
      generalize wr.heap.size = gx at *
      generalize hwd : (wr.alloc (.cells #[.int .i64 xs, .string xm] 99)).drew = wd at SA e2
      have hwd' : (wr.alloc (.cells #[.int .i64 xs, .string xm] 99)).drew = wd := hwd
      clear hwd
      refine wp_head_tail' 0 10 2 [] [0, 1, 2, 3, 4, 5, 6, 7] rfl (fun w' => Below wd.heap.size wd w') (by kernel_rfl) (by kernel_rfl) (by rw [hwd']; exact Below.refl _ _) ?_
      simp only [pick, List.filterMap_cons, List.filterMap_nil, List.getElem?_toArray, List.getElem?_cons_succ, List.getElem?_cons_zero]
      generalize hK : (fun w' => Below wd.heap.size wd w') = K
      have kB : ∀ y : Wd K, Below wd.heap.size wd y.w := by subst hK; exact fun y => y.h
      have hK2 : ∀ w', Below wd.heap.size wd w' → K w' := by subst hK; exact fun _ h => h
      have hne : Nonempty (Wd K) := ⟨⟨wd, hK2 _ (Below.refl _ _)⟩⟩
      have f0 := SA.blk_cell (i := 2) rfl 0
      have f1 := SA.blk_cell (i := 2) rfl 1
      have hlx := World.block_lt_of_cell? _ _ f0
      have hlh := World.block_lt_of_cell? _ _ e2
      have k0 : ∀ y : Wd K, y.w.cell? ⟨gx, 0, none⟩ = some (.int .i64 xs) := fun y => ((kB y).cell (p := ⟨gx, 0, none⟩) hlx).trans f0
      have k1 : ∀ y : Wd K, y.w.cell? ⟨gx, 1, none⟩ = some (.string xm) := fun y => ((kB y).cell (p := ⟨gx, 1, none⟩) hlx).trans f1
      have k2 : ∀ y : Wd K, y.w.cell? ⟨bh, oh + k * 2, none⟩ = some (.int .i64 par) := fun y => ((kB y).cell (p := ⟨bh, oh + k * 2, none⟩) hlh).trans e2
      rw [hwd']
      clear hK kB hwd' HS f0 f1 hlx hlh e2
      refine wpQuiet_nil ?_
      change wpQuiet _ _ _ _ (_ :: _ :: _ :: _ :: _ :: _ :: _ :: _ :: []) _
      repeat (go_big_quiet_step ((fail)))
      refine wpQuiet_nil ?_
      clear k0 k1 k2 hne
      refine headW_all (rs := [8]) (by kernel_rfl) (by simp) (by kernel_rfl) ?_
      intro i hi
      obtain rfl := List.mem_singleton.1 hi
      refine wpOp_list rfl ?_
      intro Q' hQ'
      go_wp2_with (go_at_call 30; refine (HC.out _).mono ?_; rintro e wk ⟨rfl, hbk⟩)
      refine ⟨hK2 _ hbk, ?_⟩
      have SK := SA.ext hbk
      refine headW_all (rs := [9]) (by kernel_rfl) (by simp) (by kernel_rfl) ?_
      intro i hi
      obtain rfl := List.mem_singleton.1 hi
      refine wpOp_list rfl ?_
      intro Q' hQ'
      go_wp2_with fail
      have SB := SK.alloc (.cells #[.int .i64 pv] 3)
      refine ⟨hK2 _ (hbk.alloc hbk.size _), by kernel_rfl, ?_⟩
      clear hK2 hbk SA SK
      refine wpList_append_st eltI rfl _ _ rfl rfl SB (k := 1) rfl rfl (rd_one (by simp)) (one_int _ _) (by omega) (by omega) ?_
      intro v' w' S' _
      go_wp2_with fail
      refine NoPanic.normal ?_
      go_wp2
      go_roundw
      case rel =>
        refine ⟨k + 1, by omega, by go_num, ?_⟩
        have S3 := S'.sub (L' := [_, _]) (List.sublist_append_left [_, _] [_])
        rw [HGL.out]
        simpa [intsI] using S3
      case measure => simp [intOf]; omega
    · have HS := Lib.hid S
      clear S
      obtain rfl : k = n := by omega
      go_wp2
      go_ret2
      exact ⟨u9, rfl, HS.out.sub (L' := [_]) (List.sublist_append_right [_] [_])⟩
set_option maxRecDepth 100000 in
set_option maxHeartbeats 4000000 in
theorem points_ok (W : World) (v ve : Value) (n : Nat) (hs : List HI) (es : List EI) (name : ByteArray) (co : Int) (hco : -99 ≤ co ∧ co ≤ 99) (h : CEnv W v ve n hs es name) :
    Calls Tryz.prog 12 #[v, .agg #[.string name, ve, .int .i64 co]] W fun e w' => ∃ v', e = .returned (.tuple #[v', .int .i64 0]) ∧ St W w' [row 3 1 v' n (intsI (gl (ptsL hs es co) n))] := by
  have HH : Hid (∀ w, CEnv w v ve n hs es name → Calls Tryz.prog 29 #[v, .agg #[.string name, ve, .int .i64 co], .func (.func 30) #[] #[]] w fun e w' => ∃ v', e = .returned (.tuple #[v', .int .i64 0]) ∧ St w w' [row 3 1 v' n (intsI (gl (ptsL hs es co) n))]) := fun w h => holes_ok w v ve n hs es name co hco h
  have HE := Lib.hid h
  obtain ⟨A, c, rfl, _, _, _⟩ := h.rh.open_
  obtain ⟨Ae, ce, rfl, _, _, _⟩ := h.re.open_
  clear h
  have hb := (Below.refl W.heap.size W).alloc (Nat.le_refl _) (.cells #[.string name, .slice Ae n ce, .int .i64 co] 54)
  have HB := Lib.hid hb
  have HE1 := Lib.hid (HE.out.later hb)
  clear hb
  go_enter Tryz.func12, Tryz.ntmps12
  go_wp2_with fail
  generalize W.alloc (.cells #[.string name, .slice Ae n ce, .int .i64 co] 54) = W1 at *
  generalize W.heap.size = gc
  go_at_call 29
  refine (HH.out _ HE1.out).mono ?_
  rintro e w3 ⟨vp, rfl, S⟩
  have HS := Lib.hid ((St.of_below HB.out).call S)
  clear S
  go_wp2
  go_ret2
  exact ⟨vp, rfl, HS.out⟩
end Go.Proofs.YtnaafefcijgpkaaGreatDoor
