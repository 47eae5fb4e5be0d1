/- Chapter 5: the check of net strokes, where it is without an error. -/
import Derived.Test.YtbakoldmfpbnaaaGreatDoorP2
import Derived.Test.YtbakoldmfpbnaaaGreatDoorB35
import Derived.Laws.StructEq
set_option linter.unusedVariables false
set_option linter.unusedSimpArgs false
set_option linter.unusedSectionVars false
set_option linter.constructorNameAsVariable false
namespace Go.Proofs.YtbakoldmfpbnaaaGreatDoor
open Go.RowKit Go.Mem Go.Sheet Go.Adj
def NetOk (x : NI) : Prop := -999 ≤ x.s ∧ x.s ≤ 999 ∧ (x.x ≠ .o → x.s = 0)
theorem outsideN (c : Int) (w : World) (h : -999 ≤ c ∧ c ≤ 999) : Calls Tryz.prog 43 #[.int .i64 c, .int .i64 999] w fun e w' => e = .returned (.bool false) ∧ w = w' := by
  have h1 : decide (c < -999) = false := by simp; omega
  have h2 : decide (999 < c) = false := by simp; omega
  go_enter Tryz.func43, Tryz.ntmps43
  go_wp2
  go_ret
  exact ⟨rfl, rfl⟩
theorem eqg_net (op : BinOp) (x y : Operand) (xs ys : Array Value) (w : World) : (eqGuard op 64 x y (.agg xs) (.agg ys)).run Tryz.prog w = .ok () w := run_eqGuard_agg w op _ x y xs ys (by kernel_rfl)
theorem eql_net (w : World) (a b : Int) (s t : ByteArray) : (binOp .eql 64 (.agg #[.int .i64 a, .string s]) (.agg #[.int .i64 b, .string t])).run Tryz.prog w = .ok (.bool (a == b && s.toList == t.toList)) w := by
  rw [run_eql_struct, run_equalIn_agg w 9999 _ _ _ (by kernel_rfl) (by kernel_rfl)]
  have hf : (Tryz.prog.fieldsOf 64).toList.map (fun f => (f.name != "_", f.type, f.offset)) = [(true, 3, 0), (true, 9, 1)] := by kernel_rfl
  generalize (Tryz.prog.fieldsOf 64).toList = L at *
  have hL : ∃ f1 f2, L = [f1, f2] := by
    match L, congrArg List.length hf with
    | [f1, f2], _ => exact ⟨f1, f2, rfl⟩
  obtain ⟨f1, f2, rfl⟩ := hL
  obtain ⟨⟨h1, h2, h3⟩, h4, h5, h6⟩ : (f1.name ≠ "_" ∧ f1.type = 3 ∧ f1.offset = 0) ∧ (f2.name ≠ "_" ∧ f2.type = 9 ∧ f2.offset = 1) := by simpa using hf
  simp only [Op.eqFields, h2, h3, h5, h6]
  simp [go_sem, h1, h4, Tryz.underlying3, Tryz.underlying9]
  by_cases e : a = b
  · by_cases e2 : s.toList = t.toList
    · simp [e, e2]
    · simp [e, e2]
  · simp [e]
set_option maxRecDepth 100000 in
set_option maxHeartbeats 4000000 in
theorem checkNets_ok (W : World) (v : Value) (n : Nat) (N : Nat → NI) (hn : 1 ≤ n ∧ n ≤ 36) (h : Rd W (· < W.heap.size) 2 v n ((nl N n).flatMap NI.cells)) (hN : ∀ i, i < n → NetOk (N i)) :
    Calls Tryz.prog 50 #[v] W fun e w' => e = .returned (.int .i64 0) ∧ Below W.heap.size W w' := by
  obtain ⟨A, c, rfl, _, _, h⟩ := h.open_
  have H := Lib.hid h
  have HN := Lib.hid hN
  have t1 : ((n : Int) == 0) = false := by simp; omega
  have t2 : decide ((36 : Int) < (n : Int)) = false := by simp; omega
  have HB0 : Hid (Below W.heap.size W (W.alloc (.cells #[.int .i64 0, .int .i64 0] 34))) := (Below.refl _ _).alloc (Nat.le_refl _) _
  clear h hN
  go_enter Tryz.func50, Tryz.ntmps50
  go_wp2_with (first
    | (go_at_call 42; refine (formatNo _ _).mono ?_; rintro e w' ⟨rfl, rfl⟩)
    | (go_at_call 40; refine (formatOk2 _ _ (by simp) (by simp) (by simp)).mono ?_; rintro e w' ⟨rfl, rfl⟩))
  generalize W.alloc (.cells #[.int .i64 0, .int .i64 0] 34) = W1 at *
  go_loopw [23] (fun i w' => ∃ k : Nat, k ≤ n ∧ i = .int .i64 k ∧ Below W.heap.size W w') (fun i _ => n - (intOf i).toNat)
  case atStart => exact ⟨0, Nat.zero_le _, rfl, HB0.out⟩
  case round =>
    obtain ⟨k, hk, rfl, hbw⟩ := hrel
    by_cases hlt : k < n
    · obtain ⟨b, o, x, hA, hx, c0, c1⟩ := net_elem (H.out.later hbw) hlt
      have hxe : N k = x := Option.some.inj ((nl_at N hlt).symm.trans hx)
      have hok := HN.out k hlt
      rw [hxe] at hok
      subst hA
      have HB := Lib.hid hbw
      clear hx hxe hbw
      obtain ⟨xs, xm⟩ := x
      obtain ⟨h1, h2, h3⟩ := hok
      dsimp only at c0 c1 h1 h2 h3
      have hq := eql_net
      have hgd := eqg_net
      cases xm
      all_goals simp only [mkN] at c0 c1
      · by_cases hx0 : xs = 0
        · have hz : True := trivial
          subst hx0
          have d0 : (wr.alloc (.cells #[.int .i64 0, .string ⟨#[]⟩] 64)).cell? ⟨wr.heap.size, 0, none⟩ = some (.int .i64 0) := by simp
          have d1 : (wr.alloc (.cells #[.int .i64 0, .string ⟨#[]⟩] 64)).cell? ⟨wr.heap.size, 1, none⟩ = some (.string ⟨#[]⟩) := by simp
          have HBA : Hid (Below W.heap.size W (wr.alloc (.cells #[.int .i64 0, .string ⟨#[]⟩] 64))) := HB.out.alloc HB.out.size _
          go_wp2_with fail
          all_goals
            clear c0 c1 hq hgd
            generalize wr.alloc (.cells #[.int .i64 0, .string ⟨#[]⟩] 64) = w5 at *
            generalize wr.heap.size = g5 at *
            refine wp_cls 27 (fun w' => ∃ q, w' = w5.drewN q) (by kernel_rfl) (by kernel_rfl) ⟨1, rfl⟩ ?_
            simp only [List.take_succ_cons, List.take_zero, List.drop_succ_cons, List.drop_zero]
            generalize hK : (fun w' => ∃ q, w' = w5.drewN q) = K
            intro hne
            have kw : ∀ y : Wd K, ∃ q, y.w = w5.drewN q := by subst hK; exact fun y => y.h
            clear hK
            have k0 : ∀ y : Wd K, y.w.cell? ⟨g5, 0, none⟩ = some (.int .i64 0) := fun y => by obtain ⟨q, hq⟩ := kw y; rw [hq]; exact d0
            have k1 : ∀ y : Wd K, y.w.cell? ⟨g5, 1, none⟩ = some (.string ⟨#[]⟩) := fun y => by obtain ⟨q, hq⟩ := kw y; rw [hq]; exact d1
            repeat (go_big_quiet_step ((first | (go_at_call 42; exact cls_same (formatNo _ _)) | (go_at_call 43; exact cls_same (outsideN _ _ (by omega))))))
            refine wpQuiet_nil ?_
            intro y
            obtain ⟨q, hq⟩ := kw y
            have HB5 : Hid (Below W.heap.size W (y.w.alloc (.cells #[.int .i64 0, .int .i64 0] 34))) := by
              show Below _ _ _
              rw [hq]
              have hb := below_drewN HBA.out q
              exact hb.alloc hb.size _
            clear k0 k1 kw hq hne d0 d1
            generalize y.w = w6 at *
            go_wp2_with (go_at_call 40; refine (formatOk2 _ _ (by simp) (by simp) (by simp)).mono ?_; rintro e w' ⟨rfl, rfl⟩)
            go_roundw
            case rel => exact ⟨k + 1, by omega, by go_num, HB5.out⟩
            case measure => simp [intOf]; omega
        · have hz : (xs == 0) = false := by simpa using hx0
          have d0 : (wr.alloc (.cells #[.int .i64 xs, .string ⟨#[]⟩] 64)).cell? ⟨wr.heap.size, 0, none⟩ = some (.int .i64 xs) := by simp
          have d1 : (wr.alloc (.cells #[.int .i64 xs, .string ⟨#[]⟩] 64)).cell? ⟨wr.heap.size, 1, none⟩ = some (.string ⟨#[]⟩) := by simp
          have HBA : Hid (Below W.heap.size W (wr.alloc (.cells #[.int .i64 xs, .string ⟨#[]⟩] 64))) := HB.out.alloc HB.out.size _
          go_wp2_with fail
          all_goals
            clear c0 c1 hq hgd
            generalize wr.alloc (.cells #[.int .i64 xs, .string ⟨#[]⟩] 64) = w5 at *
            generalize wr.heap.size = g5 at *
            refine wp_cls 27 (fun w' => ∃ q, w' = w5.drewN q) (by kernel_rfl) (by kernel_rfl) ⟨1, rfl⟩ ?_
            simp only [List.take_succ_cons, List.take_zero, List.drop_succ_cons, List.drop_zero]
            generalize hK : (fun w' => ∃ q, w' = w5.drewN q) = K
            intro hne
            have kw : ∀ y : Wd K, ∃ q, y.w = w5.drewN q := by subst hK; exact fun y => y.h
            clear hK
            have k0 : ∀ y : Wd K, y.w.cell? ⟨g5, 0, none⟩ = some (.int .i64 xs) := fun y => by obtain ⟨q, hq⟩ := kw y; rw [hq]; exact d0
            have k1 : ∀ y : Wd K, y.w.cell? ⟨g5, 1, none⟩ = some (.string ⟨#[]⟩) := fun y => by obtain ⟨q, hq⟩ := kw y; rw [hq]; exact d1
            repeat (go_big_quiet_step ((first | (go_at_call 42; exact cls_same (formatNo _ _)) | (go_at_call 43; exact cls_same (outsideN _ _ (by omega))))))
            refine wpQuiet_nil ?_
            intro y
            obtain ⟨q, hq⟩ := kw y
            have HB5 : Hid (Below W.heap.size W (y.w.alloc (.cells #[.int .i64 0, .int .i64 0] 34))) := by
              show Below _ _ _
              rw [hq]
              have hb := below_drewN HBA.out q
              exact hb.alloc hb.size _
            clear k0 k1 kw hq hne d0 d1
            generalize y.w = w6 at *
            go_wp2_with (go_at_call 40; refine (formatOk2 _ _ (by simp) (by simp) (by simp)).mono ?_; rintro e w' ⟨rfl, rfl⟩)
            go_roundw
            case rel => exact ⟨k + 1, by omega, by go_num, HB5.out⟩
            case measure => simp [intOf]; omega
      · have hz : True := trivial
        obtain rfl : xs = 0 := h3 (by decide)
        have d0 : (wr.alloc (.cells #[.int .i64 0, .string ⟨#[120]⟩] 64)).cell? ⟨wr.heap.size, 0, none⟩ = some (.int .i64 0) := by simp
        have d1 : (wr.alloc (.cells #[.int .i64 0, .string ⟨#[120]⟩] 64)).cell? ⟨wr.heap.size, 1, none⟩ = some (.string ⟨#[120]⟩) := by simp
        have HBA : Hid (Below W.heap.size W (wr.alloc (.cells #[.int .i64 0, .string ⟨#[120]⟩] 64))) := HB.out.alloc HB.out.size _
        go_wp2_with fail
        all_goals
          clear c0 c1 hq hgd
          generalize wr.alloc (.cells #[.int .i64 0, .string ⟨#[120]⟩] 64) = w5 at *
          generalize wr.heap.size = g5 at *
          refine wp_cls 27 (fun w' => ∃ q, w' = w5.drewN q) (by kernel_rfl) (by kernel_rfl) ⟨1, rfl⟩ ?_
          simp only [List.take_succ_cons, List.take_zero, List.drop_succ_cons, List.drop_zero]
          generalize hK : (fun w' => ∃ q, w' = w5.drewN q) = K
          intro hne
          have kw : ∀ y : Wd K, ∃ q, y.w = w5.drewN q := by subst hK; exact fun y => y.h
          clear hK
          have k0 : ∀ y : Wd K, y.w.cell? ⟨g5, 0, none⟩ = some (.int .i64 0) := fun y => by obtain ⟨q, hq⟩ := kw y; rw [hq]; exact d0
          have k1 : ∀ y : Wd K, y.w.cell? ⟨g5, 1, none⟩ = some (.string ⟨#[120]⟩) := fun y => by obtain ⟨q, hq⟩ := kw y; rw [hq]; exact d1
          repeat (go_big_quiet_step ((first | (go_at_call 42; exact cls_same (formatNo _ _)) | (go_at_call 43; exact cls_same (outsideN _ _ (by omega))))))
          refine wpQuiet_nil ?_
          intro y
          obtain ⟨q, hq⟩ := kw y
          have HB5 : Hid (Below W.heap.size W (y.w.alloc (.cells #[.int .i64 0, .int .i64 0] 34))) := by
            show Below _ _ _
            rw [hq]
            have hb := below_drewN HBA.out q
            exact hb.alloc hb.size _
          clear k0 k1 kw hq hne d0 d1
          generalize y.w = w6 at *
          go_wp2_with (go_at_call 40; refine (formatOk2 _ _ (by simp) (by simp) (by simp)).mono ?_; rintro e w' ⟨rfl, rfl⟩)
          go_roundw
          case rel => exact ⟨k + 1, by omega, by go_num, HB5.out⟩
          case measure => simp [intOf]; omega
      · have hz : True := trivial
        obtain rfl : xs = 0 := h3 (by decide)
        have d0 : (wr.alloc (.cells #[.int .i64 0, .string ⟨#[45]⟩] 64)).cell? ⟨wr.heap.size, 0, none⟩ = some (.int .i64 0) := by simp
        have d1 : (wr.alloc (.cells #[.int .i64 0, .string ⟨#[45]⟩] 64)).cell? ⟨wr.heap.size, 1, none⟩ = some (.string ⟨#[45]⟩) := by simp
        have HBA : Hid (Below W.heap.size W (wr.alloc (.cells #[.int .i64 0, .string ⟨#[45]⟩] 64))) := HB.out.alloc HB.out.size _
        go_wp2_with fail
        all_goals
          clear c0 c1 hq hgd
          generalize wr.alloc (.cells #[.int .i64 0, .string ⟨#[45]⟩] 64) = w5 at *
          generalize wr.heap.size = g5 at *
          refine wp_cls 27 (fun w' => ∃ q, w' = w5.drewN q) (by kernel_rfl) (by kernel_rfl) ⟨1, rfl⟩ ?_
          simp only [List.take_succ_cons, List.take_zero, List.drop_succ_cons, List.drop_zero]
          generalize hK : (fun w' => ∃ q, w' = w5.drewN q) = K
          intro hne
          have kw : ∀ y : Wd K, ∃ q, y.w = w5.drewN q := by subst hK; exact fun y => y.h
          clear hK
          have k0 : ∀ y : Wd K, y.w.cell? ⟨g5, 0, none⟩ = some (.int .i64 0) := fun y => by obtain ⟨q, hq⟩ := kw y; rw [hq]; exact d0
          have k1 : ∀ y : Wd K, y.w.cell? ⟨g5, 1, none⟩ = some (.string ⟨#[45]⟩) := fun y => by obtain ⟨q, hq⟩ := kw y; rw [hq]; exact d1
          repeat (go_big_quiet_step ((first | (go_at_call 42; exact cls_same (formatNo _ _)) | (go_at_call 43; exact cls_same (outsideN _ _ (by omega))))))
          refine wpQuiet_nil ?_
          intro y
          obtain ⟨q, hq⟩ := kw y
          have HB5 : Hid (Below W.heap.size W (y.w.alloc (.cells #[.int .i64 0, .int .i64 0] 34))) := by
            show Below _ _ _
            rw [hq]
            have hb := below_drewN HBA.out q
            exact hb.alloc hb.size _
          clear k0 k1 kw hq hne d0 d1
          generalize y.w = w6 at *
          go_wp2_with (go_at_call 40; refine (formatOk2 _ _ (by simp) (by simp) (by simp)).mono ?_; rintro e w' ⟨rfl, rfl⟩)
          go_roundw
          case rel => exact ⟨k + 1, by omega, by go_num, HB5.out⟩
          case measure => simp [intOf]; omega
    · have HB := Lib.hid hbw
      clear hbw
      go_wp2
      go_ret
      exact ⟨rfl, HB.out⟩
end Go.Proofs.YtbakoldmfpbnaaaGreatDoor
