/- Part 7 of the walks of the golf union's program: KH, KI, TailIn, TailX, KJ, StB. -/
import Derived.Test.YthgkngngmjonkaaB06
import Derived.LoopN
import Derived.Test.YthgkngngmjonkaaB01
import Derived.OrdersIn
import Derived.TacticsIn
import Derived.RangeFuncCalls
import Derived.RangeFuncNested
import Derived.RangeFuncBound
import Derived.RangeFuncLeaves
import Derived.Shelf.Abstract
import Derived.WalkKit
import Derived.OwnWalkIn
import Derived.TacticsInMore
import Derived.LoopNIn
import Derived.LoopIn
import Derived.RangeFuncOwn
set_option linter.unusedVariables false
set_option linter.unusedSimpArgs false
set_option linter.unusedSectionVars false
set_option linter.constructorNameAsVariable false
/- TopLinksPlans: the reference's notation of a number from 1 to 6, and its sign. -/
namespace Go.Proofs.Ythgkngngmjonkaa
open Go.RowKit Go.Mem Go.Sheet Go.Plan
attribute [local go_sem] Oper.semAt_some
def digS (n : Int) : ByteArray := ⟨#[48 + n.toNat.toUInt8]⟩
set_option maxRecDepth 100000 in
set_option maxHeartbeats 1000000 in
theorem decimal_any (n : Int) (hn : 1 ≤ n ∧ n ≤ 6) (w : World) : Calls Try.prog 32 #[.int .i64 n, .int .i64 1] w fun e w' => e = .returned (.string (digS n)) ∧ w = w' := by
  obtain rfl | rfl | rfl | rfl | rfl | rfl : n = 1 ∨ n = 2 ∨ n = 3 ∨ n = 4 ∨ n = 5 ∨ n = 6 := by omega
  all_goals
    go_enter Try.func32, Try.ntmps32
    go_wp2
    refine wp_loop_rounds 2 ?_
    rw [rounds_succ]
    go_wp2
    rw [rounds_succ]
    go_wp2
    go_ret
    exact ⟨rfl, rfl⟩
set_option maxRecDepth 100000 in
set_option maxHeartbeats 1000000 in
theorem trim_any (w : World) (g c : Nat) (n : Int) (hn : 1 ≤ n ∧ n ≤ 6) (h : w.cell? ⟨g, 0, none⟩ = some (.int .i64 n)) : Calls Try.prog 40 #[.slice (some ⟨g, 0, none⟩) 1 c] w fun e w' => e = .returned (.slice (some ⟨g, 0, none⟩) 1 c) ∧ w = w' := by
  have h0 : (n == 0) = false := by simp; omega
  go_enter Try.func40, Try.ntmps40
  go_wp2
  refine wp_loop_rounds 1 ?_
  rw [rounds_succ]
  go_wp2
  go_ret
  exact ⟨rfl, rfl⟩
theorem res_signed (tmps : Array Value) (w : World) (g : Nat) (a b : Value) (hp : tmps.getD 4 undef = .pointer (some ⟨g, 0, none⟩)) (h0 : w.cell? ⟨g, 0, none⟩ = some a) (h1 : w.cell? ⟨g, 1, none⟩ = some b) :
    (results Try.f33 tmps).run Try.prog w = .ok (.agg #[a, b]) w := by
  have hp' : tmps[4]?.getD undef = .pointer (some ⟨g, 0, none⟩) := by simpa using hp
  simp [results, Try.results33, hp', h0, h1, go_sem]
theorem res_whole (tmps : Array Value) (w : World) (g : Nat) (a b : Value) (hp : tmps.getD 2 undef = .pointer (some ⟨g, 0, none⟩)) (h0 : w.cell? ⟨g, 0, none⟩ = some a) (h1 : w.cell? ⟨g, 1, none⟩ = some b) :
    (results Try.f23 tmps).run Try.prog w = .ok (.agg #[a, b]) w := by
  have hp' : tmps[2]?.getD undef = .pointer (some ⟨g, 0, none⟩) := by simpa using hp
  simp [results, Try.results23, hp', h0, h1, go_sem]
set_option maxRecDepth 100000 in
set_option maxHeartbeats 1000000 in
theorem signed_any (w : World) (g c : Nat) (n : Int) (hn : 1 ≤ n ∧ n ≤ 6) (hc : 1 ≤ c ∧ c ≤ maxLen) (hg : g < w.heap.size) (h : w.cell? ⟨g, 0, none⟩ = some (.int .i64 n)) : Calls Try.prog 33 #[.bool false, .slice (some ⟨g, 0, none⟩) 1 c] w fun e w' => e = .returned (.agg #[.bool false, .slice (some ⟨g, 0, none⟩) 1 c]) ∧ Below w.heap.size w w' := by
  have HT : Hid (∀ o, Calls Try.prog 40 #[.slice (some ⟨g, 0, none⟩) 1 c] (w.alloc o) fun e w' => e = .returned (.slice (some ⟨g, 0, none⟩) 1 c) ∧ w.alloc o = w') := fun o => trim_any _ g c n hn (((Below.refl w.heap.size w).alloc (Nat.le_refl _) o).cell hg |>.trans h)
  have S := (St.refl w).blk_new #[.bool false, .slice none 0 0] 58
  go_enter Try.func33, Try.ntmps33
  go_wp2_with (go_at_call 40; refine (HT.out _).mono ?_; rintro e w' ⟨rfl, rfl⟩)
  exact bodyPost_ret (v := .agg #[.bool false, .slice (some ⟨g, 0, none⟩) 1 c]) (res_signed _ _ w.heap.size _ _ rfl (by simp) (by simp)) rfl ⟨rfl, (Below.refl w.heap.size w).alloc (Nat.le_refl _) _⟩
set_option maxRecDepth 100000 in
set_option maxHeartbeats 1000000 in
theorem whole_any (w : World) (n : Int) (hn : 1 ≤ n ∧ n ≤ 6) : Calls Try.prog 23 #[.int .i64 n] w fun e w' => ∃ g c, e = .returned (.agg #[.bool false, .slice (some ⟨g, 0, none⟩) 1 c]) ∧ Below w.heap.size w w' ∧ g < w'.heap.size ∧ w'.cell? ⟨g, 0, none⟩ = some (.int .i64 n) := by
  have hrd : ∀ (w : World), Rd (w.alloc (.cells #[.int .i64 n] 3)) (fun _ => True) 1 (.slice (some ⟨w.heap.size, 0, none⟩) 1 1) 1 #[Value.int .i64 n].toList := fun w => rd_new w (size := 1) (m := 1) #[.int .i64 n] 3 rfl (by omega) (fun _ => True) trivial
  have HSG := @signed_any
  obtain rfl | rfl | rfl | rfl | rfl | rfl : n = 1 ∨ n = 2 ∨ n = 3 ∨ n = 4 ∨ n = 5 ∨ n = 6 := by omega
  all_goals
    have S0 := ((St.refl w).blk_new #[.bool false, .slice none 0 0] 58).row_nil 3 1
    simp only [List.cons_append, List.nil_append] at S0
    go_enter Try.func23, Try.ntmps23
    go_wp2
    generalize w.alloc (.cells #[.bool false, .slice none 0 0] 58) = w1 at S0 ⊢
    have HQ := hrd w1
    clear hrd
    refine wp_loop_rounds 2 ?_
    rw [rounds_succ]
    go_wp2_with (at_builtin; refine wpList_append_st eltI rfl _ _ rfl rfl (S0.alloc _) (k := 1) rfl rfl HQ (by simp [Value.oneCell']) (by omega) (by omega) ?_; intro v' w3 S3 _)
    rw [rounds_succ]
    obtain ⟨g, c, rfl, hc, hg1, hg2, hcell, hfz⟩ := S3.row_form (i := 1) rfl (by omega)
    have hcm : c ≤ maxLen := ((S3.row_rd (i := 1) rfl).caps).2
    have hc0 := (hcell 0 (by omega)).trans rfl
    clear hcell hfz
    have HS3 := Lib.hid S3
    have HC := Lib.hid (HSG w3 g c _ hn ⟨hc, hcm⟩ hg2 hc0)
    clear S3 S0 HQ
    go_wp2_with (go_at_call 33; refine HC.out.mono ?_; rintro e w4 ⟨rfl, hb4⟩; have S4 := HS3.out.ext hb4; have d0 := S4.blk_cell (i := 0) rfl 0; have d1 := S4.blk_cell (i := 0) rfl 1; have f0 := S4.blk_frozen (i := 0) rfl 0; have f1 := S4.blk_frozen (i := 0) rfl 1)
    have S5 := ((HS3.out.ext hb4).blk_set (i := 0) rfl 0 (.bool false)).blk_set (i := 0) rfl 1 (.slice (some ⟨g, 0, none⟩) 1 c)
    have HS5 := Lib.hid S5
    clear d0 d1 f0 f1 S4 S5
    generalize (w4.setCell ⟨w.heap.size, 0, none⟩ (.bool false)).setCell ⟨w.heap.size, 1, none⟩ (.slice (some ⟨g, 0, none⟩) 1 c) = w5 at *
    have e0 := HS5.out.blk_cell (i := 0) rfl 0
    have e1 := HS5.out.blk_cell (i := 0) rfl 1
    obtain ⟨g', c', hv, _, _, hg5, hcell5, _⟩ := HS5.out.row_form (i := 1) rfl (by omega)
    cases hv
    exact bodyPost_ret (v := .agg #[.bool false, .slice (some ⟨g, 0, none⟩) 1 c]) (res_whole _ _ w.heap.size _ _ rfl e0 e1) rfl ⟨g, c, rfl, HS5.out.bel, hg5, (hcell5 0 (by omega)).trans rfl⟩
theorem sign_dig (n : Int) (hn : 1 ≤ n ∧ n ≤ 6) (w : World) : Calls Try.prog 9 #[.string (digS n)] w fun e w' => e = .returned (.int .i64 1) ∧ w = w' := by
  obtain rfl | rfl | rfl | rfl | rfl | rfl : n = 1 ∨ n = 2 ∨ n = 3 ∨ n = 4 ∨ n = 5 ∨ n = 6 := by omega
  · rw [show digS 1 = ⟨#[49]⟩ from rfl]
    have h0 : ((⟨#[49]⟩ : ByteArray).toList == [48]) = false := by kernel_rfl
    go_enter Try.func9, Try.ntmps9
    go_wp2
    go_ret
    exact ⟨rfl, rfl⟩
  · rw [show digS 2 = ⟨#[50]⟩ from rfl]
    have h0 : ((⟨#[50]⟩ : ByteArray).toList == [48]) = false := by kernel_rfl
    go_enter Try.func9, Try.ntmps9
    go_wp2
    go_ret
    exact ⟨rfl, rfl⟩
  · rw [show digS 3 = ⟨#[51]⟩ from rfl]
    have h0 : ((⟨#[51]⟩ : ByteArray).toList == [48]) = false := by kernel_rfl
    go_enter Try.func9, Try.ntmps9
    go_wp2
    go_ret
    exact ⟨rfl, rfl⟩
  · rw [show digS 4 = ⟨#[52]⟩ from rfl]
    have h0 : ((⟨#[52]⟩ : ByteArray).toList == [48]) = false := by kernel_rfl
    go_enter Try.func9, Try.ntmps9
    go_wp2
    go_ret
    exact ⟨rfl, rfl⟩
  · rw [show digS 5 = ⟨#[53]⟩ from rfl]
    have h0 : ((⟨#[53]⟩ : ByteArray).toList == [48]) = false := by kernel_rfl
    go_enter Try.func9, Try.ntmps9
    go_wp2
    go_ret
    exact ⟨rfl, rfl⟩
  · rw [show digS 6 = ⟨#[54]⟩ from rfl]
    have h0 : ((⟨#[54]⟩ : ByteArray).toList == [48]) = false := by kernel_rfl
    go_enter Try.func9, Try.ntmps9
    go_wp2
    go_ret
    exact ⟨rfl, rfl⟩
set_option maxRecDepth 100000 in
set_option maxHeartbeats 1000000 in
theorem text_any (w : World) (g c : Nat) (n : Int) (hn : 1 ≤ n ∧ n ≤ 6) (hg : g < w.heap.size) (h : w.cell? ⟨g, 0, none⟩ = some (.int .i64 n)) : Calls Try.prog 22 #[.agg #[.bool false, .slice (some ⟨g, 0, none⟩) 1 c]] w fun e w' => e = .returned (.string (digS n)) ∧ Below w.heap.size w w' := by
  have hb : ∀ o, Below w.heap.size w (w.alloc o) := fun o => (Below.refl w.heap.size w).alloc (Nat.le_refl _) o
  have hd : ∀ o, (w.alloc o).cell? ⟨g, 0, none⟩ = some (.int .i64 n) := fun o => ((hb o).cell hg).trans h
  go_enter Try.func22, Try.ntmps22
  go_wp2_with (go_at_call 32; refine (decimal_any n hn _).mono ?_; rintro e w' ⟨rfl, rfl⟩)
  refine wp_loop_rounds 1 ?_
  rw [rounds_succ]
  go_wp2
  go_ret
  exact ⟨rfl, hb _⟩
theorem fromInt_any (w : World) (n : Int) (hn : 1 ≤ n ∧ n ≤ 6) : Calls Try.prog 10 #[.int .i64 n] w fun e w' => e = .returned (.string (digS n)) ∧ Below w.heap.size w w' := by
  have HW := Lib.hid (whole_any w n hn)
  go_enter Try.func10, Try.ntmps10
  go_wp2_with fail
  refine HW.out.mono ?_
  rintro e w2 ⟨g, c, rfl, hb, hg, hc⟩
  have HB := Lib.hid hb
  have HT := Lib.hid (text_any w2 g c n hn hg hc)
  clear hb hg hc HW
  go_wp2_with fail
  refine HT.out.mono ?_
  rintro e w3 ⟨rfl, hb3⟩
  go_wp2
  go_ret
  exact ⟨rfl, HB.out.trans (hb3.mono HB.out.size)⟩
end Go.Proofs.Ythgkngngmjonkaa
/- TopLinksPlans: the geometry of course: minus, cross, dot, turn. -/
namespace Go.Plan
structure Pl where
  x : Int
  y : Int
  deriving DecidableEq
def Pl.val (p : Pl) : Value := .agg #[.int .i64 p.x, .int .i64 p.y]
def Pl.cells (p : Pl) : List Value := [.int .i64 p.x, .int .i64 p.y]
def Pl.ok (m : Int) (p : Pl) : Prop := (-m ≤ p.x ∧ p.x ≤ m) ∧ -m ≤ p.y ∧ p.y ≤ m
def minusP (a b : Pl) : Pl := ⟨a.x - b.x, a.y - b.y⟩
def crossP (a b : Pl) : Int := a.x * b.y - a.y * b.x
def dotP (a b : Pl) : Int := a.x * b.x + a.y * b.y
def signP (n : Int) : Int := if n < 0 then -1 else if 0 < n then 1 else 0
def turnP (a b c : Pl) : Int := signP (crossP (minusP b a) (minusP c a))
def hasP (a b p : Pl) : Bool := (turnP a b p == 0) && decide (dotP (minusP a p) (minusP b p) ≤ 0)
theorem mul_bd {m a b : Int} (_ : 0 ≤ m) (ha : -m ≤ a ∧ a ≤ m) (hb : -m ≤ b ∧ b ≤ m) : -(m * m) ≤ a * b ∧ a * b ≤ m * m := by
  have h1 : (m - a) * (m + b) ≥ 0 := Int.mul_nonneg (by omega) (by omega)
  have h2 : (m + a) * (m - b) ≥ 0 := Int.mul_nonneg (by omega) (by omega)
  have h3 : (m - a) * (m - b) ≥ 0 := Int.mul_nonneg (by omega) (by omega)
  have h4 : (m + a) * (m + b) ≥ 0 := Int.mul_nonneg (by omega) (by omega)
  simp only [Int.mul_add, Int.add_mul, Int.sub_mul, Int.mul_sub] at h1 h2 h3 h4
  have h5 : b * m = m * b := Int.mul_comm _ _
  have h6 : a * m = m * a := Int.mul_comm _ _
  constructor <;> omega
theorem minus_ok {m : Int} {a b : Pl} (ha : a.ok m) (hb : b.ok m) : (minusP a b).ok (2 * m) := by
  obtain ⟨⟨h1, h2⟩, h3, h4⟩ := ha
  obtain ⟨⟨h5, h6⟩, h7, h8⟩ := hb
  show (-(2 * m) ≤ a.x - b.x ∧ a.x - b.x ≤ 2 * m) ∧ -(2 * m) ≤ a.y - b.y ∧ a.y - b.y ≤ 2 * m
  omega
theorem turn_cases (a b c : Pl) : turnP a b c = -1 ∨ turnP a b c = 0 ∨ turnP a b c = 1 := by
  unfold turnP signP
  split
  · exact .inl rfl
  · split
    · exact .inr (.inr rfl)
    · exact .inr (.inl rfl)
end Go.Plan
namespace Go.Proofs.Ythgkngngmjonkaa
open Go.RowKit Go.Mem Go.Sheet Go.Plan
attribute [local go_sem] Oper.semAt_some
theorem heap_alloc_at (w : World) (g : Nat) (o : Obj) (h : w.heap.size = g) : (w.alloc o).heap[g]? = some o := by subst h; exact heap_alloc_new w o
theorem res_minus (tmps : Array Value) (w : World) (g : Nat) (a b : Value) (hp : tmps.getD 4 undef = .pointer (some ⟨g, 0, none⟩)) (h0 : w.cell? ⟨g, 0, none⟩ = some a) (h1 : w.cell? ⟨g, 1, none⟩ = some b) :
    (results Try.f42 tmps).run Try.prog w = .ok (.agg #[a, b]) w := by
  have hp' : tmps[4]?.getD undef = .pointer (some ⟨g, 0, none⟩) := by simpa using hp
  simp [results, Try.results42, hp', h0, h1, go_sem]
set_option maxRecDepth 100000 in
set_option maxHeartbeats 1000000 in
theorem minus_any (w : World) (a b : Pl) (ha : a.ok 1000000) (hb : b.ok 1000000) : Calls Try.prog 42 #[a.val, b.val] w fun e w' => e = .returned (minusP a b).val ∧ Below w.heap.size w w' := by
  obtain ⟨⟨h1, h2⟩, h3, h4⟩ := ha
  obtain ⟨⟨h5, h6⟩, h7, h8⟩ := hb
  obtain ⟨ax, ay⟩ := a
  obtain ⟨bx, by_⟩ := b
  dsimp only at *
  unfold Pl.val
  dsimp only
  have hb : ∀ o1 o2 o3, Below w.heap.size w (((w.alloc o1).alloc o2).alloc o3) := fun o1 o2 o3 => (((St.refl w).alloc o1).alloc o2 |>.alloc o3).bel
  go_enter Try.func42, Try.ntmps42
  go_wp2
  exact bodyPost_ret (v := .agg #[.int .i64 (ax - bx), .int .i64 (ay - by_)]) (res_minus _ _ (w.heap.size + 1 + 1) (.int .i64 (ax - bx)) (.int .i64 (ay - by_)) rfl (by rw [cell_of_row _ _ 0 _ _ _ (heap_alloc_at _ _ _ (by simp))]; rfl) (by rw [cell_of_row _ _ 1 _ _ _ (heap_alloc_at _ _ _ (by simp))]; rfl)) rfl ⟨rfl, hb _ _ _⟩
set_option maxRecDepth 100000 in
set_option maxHeartbeats 1000000 in
theorem cross_any (w : World) (a b : Pl) (ha : a.ok 1000000) (hb : b.ok 1000000) : Calls Try.prog 26 #[a.val, b.val] w fun e w' => e = .returned (.int .i64 (crossP a b)) ∧ Below w.heap.size w w' := by
  have m1 := mul_bd (m := 1000000) (by omega) ha.1 hb.2
  have m2 := mul_bd (m := 1000000) (by omega) ha.2 hb.1
  obtain ⟨ax, ay⟩ := a
  obtain ⟨bx, by_⟩ := b
  dsimp only at *
  unfold Pl.val
  unfold crossP
  dsimp only
  have hb : ∀ o1 o2, Below w.heap.size w ((w.alloc o1).alloc o2) := fun o1 o2 => (((St.refl w).alloc o1).alloc o2).bel
  go_enter Try.func26, Try.ntmps26
  go_wp2
  go_ret
  exact ⟨rfl, hb _ _⟩
set_option maxRecDepth 100000 in
set_option maxHeartbeats 1000000 in
theorem dot_any (w : World) (a b : Pl) (ha : a.ok 1000000) (hb : b.ok 1000000) : Calls Try.prog 41 #[a.val, b.val] w fun e w' => e = .returned (.int .i64 (dotP a b)) ∧ Below w.heap.size w w' := by
  have m1 := mul_bd (m := 1000000) (by omega) ha.1 hb.1
  have m2 := mul_bd (m := 1000000) (by omega) ha.2 hb.2
  obtain ⟨ax, ay⟩ := a
  obtain ⟨bx, by_⟩ := b
  dsimp only at *
  unfold Pl.val
  unfold dotP
  dsimp only
  have hb : ∀ o1 o2, Below w.heap.size w ((w.alloc o1).alloc o2) := fun o1 o2 => (((St.refl w).alloc o1).alloc o2).bel
  go_enter Try.func41, Try.ntmps41
  go_wp2
  go_ret
  exact ⟨rfl, hb _ _⟩
theorem ok_mono {p : Pl} {m m' : Int} (h : p.ok m) (hm : m ≤ m') : p.ok m' := by
  obtain ⟨⟨h1, h2⟩, h3, h4⟩ := h
  exact ⟨⟨by omega, by omega⟩, by omega, by omega⟩
set_option maxRecDepth 100000 in
set_option maxHeartbeats 1000000 in
theorem turn_any (W : World) (a b c : Pl) (ha : a.ok 1000) (hb : b.ok 1000) (hc : c.ok 1000) : Calls Try.prog 39 #[a.val, b.val, c.val] W fun e w' => e = .returned (.int .i64 (turnP a b c)) ∧ Below W.heap.size W w' := by
  have HM1 : Hid (∀ w, Calls Try.prog 42 #[b.val, a.val] w fun e w' => e = .returned (minusP b a).val ∧ Below w.heap.size w w') := fun w => minus_any w b a (ok_mono hb (by omega)) (ok_mono ha (by omega))
  have HM2 : Hid (∀ w, Calls Try.prog 42 #[c.val, a.val] w fun e w' => e = .returned (minusP c a).val ∧ Below w.heap.size w w') := fun w => minus_any w c a (ok_mono hc (by omega)) (ok_mono ha (by omega))
  have HM3 : Hid (∀ w, Calls Try.prog 26 #[(minusP b a).val, (minusP c a).val] w fun e w' => e = .returned (.int .i64 (crossP (minusP b a) (minusP c a))) ∧ Below w.heap.size w w') := fun w => cross_any w _ _ (ok_mono (minus_ok hb ha) (by omega)) (ok_mono (minus_ok hc ha) (by omega))
  have HT : Hid (turnP a b c = if crossP (minusP b a) (minusP c a) < 0 then -1 else if 0 < crossP (minusP b a) (minusP c a) then 1 else 0) := rfl
  have S0 := (((St.refl W).blk_new #[.int .i64 a.x, .int .i64 a.y] 40).blk_new #[.int .i64 b.x, .int .i64 b.y] 40).blk_new #[.int .i64 c.x, .int .i64 c.y] 40
  simp only [List.nil_append, List.cons_append, World.size_alloc] at S0
  unfold Pl.val at *
  go_enter Try.func39, Try.ntmps39
  go_wp2_with fail
  generalize ((W.alloc (.cells #[.int .i64 a.x, .int .i64 a.y] 40)).alloc (.cells #[.int .i64 b.x, .int .i64 b.y] 40)).alloc (.cells #[.int .i64 c.x, .int .i64 c.y] 40) = w1 at S0 ⊢
  refine wp_cls 8 (fun w' => St W w' [blk W.heap.size 40 #[.int .i64 a.x, .int .i64 a.y], blk (W.heap.size + 1) 40 #[.int .i64 b.x, .int .i64 b.y], blk (W.heap.size + 1 + 1) 40 #[.int .i64 c.x, .int .i64 c.y]]) (by kernel_rfl) (by kernel_rfl) S0.drew ?_
  simp only [List.take_succ_cons, List.take_zero, List.drop_succ_cons, List.drop_zero]
  generalize hK : (fun w' => St W w' [blk W.heap.size 40 #[.int .i64 a.x, .int .i64 a.y], blk (W.heap.size + 1) 40 #[.int .i64 b.x, .int .i64 b.y], blk (W.heap.size + 1 + 1) 40 #[.int .i64 c.x, .int .i64 c.y]]) = K
  intro hne
  have kb : ∀ y : Wd K, St W y.w [blk W.heap.size 40 #[.int .i64 a.x, .int .i64 a.y], blk (W.heap.size + 1) 40 #[.int .i64 b.x, .int .i64 b.y], blk (W.heap.size + 1 + 1) 40 #[.int .i64 c.x, .int .i64 c.y]] := by subst hK; exact fun y => y.h
  have hK3 : ∀ w w', K w → Below w.heap.size w w' → K w' := by subst hK; exact fun w w' h hb => h.ext hb
  have k0 : ∀ y : Wd K, y.w.cell? ⟨W.heap.size, 0, none⟩ = some (.int .i64 a.x) := fun y => (kb y).blk_cell (i := 0) rfl 0
  have k1 : ∀ y : Wd K, y.w.cell? ⟨W.heap.size, 1, none⟩ = some (.int .i64 a.y) := fun y => (kb y).blk_cell (i := 0) rfl 1
  have k2 : ∀ y : Wd K, y.w.cell? ⟨W.heap.size + 1, 0, none⟩ = some (.int .i64 b.x) := fun y => (kb y).blk_cell (i := 1) rfl 0
  have k3 : ∀ y : Wd K, y.w.cell? ⟨W.heap.size + 1, 1, none⟩ = some (.int .i64 b.y) := fun y => (kb y).blk_cell (i := 1) rfl 1
  have k4 : ∀ y : Wd K, y.w.cell? ⟨W.heap.size + 1 + 1, 0, none⟩ = some (.int .i64 c.x) := fun y => (kb y).blk_cell (i := 2) rfl 0
  have k5 : ∀ y : Wd K, y.w.cell? ⟨W.heap.size + 1 + 1, 1, none⟩ = some (.int .i64 c.y) := fun y => (kb y).blk_cell (i := 2) rfl 1
  clear hK
  iterate 2 (go_big_quiet_step ((fail)))
  go_big_quiet_step ((go_at_call 42; exact cls_below hK3 (HM1.out _)))
  iterate 2 (go_big_quiet_step ((fail)))
  go_big_quiet_step ((go_at_call 42; exact cls_below hK3 (HM2.out _)))
  go_big_quiet_step ((go_at_call 26; exact cls_below hK3 (HM3.out _)))
  go_big_quiet_step ((go_at_call 45; exact cls_same (sign_any _ _)))
  refine wpQuiet_nil ?_
  intro y
  have hb1 := (kb y).bel
  rw [← HT.out]
  clear k0 k1 k2 k3 k4 k5 kb
  go_wp2_with fail
  go_ret
  exact ⟨rfl, hb1⟩
def Sd (a b : Pl) : Value := .agg #[.int .i64 a.x, .int .i64 a.y, .int .i64 b.x, .int .i64 b.y]
set_option maxRecDepth 100000 in
set_option maxHeartbeats 1000000 in
theorem has_any (W : World) (a b p : Pl) (ha : a.ok 1000) (hb : b.ok 1000) (hp : p.ok 1000) : Calls Try.prog 38 #[Sd a b, p.val] W fun e w' => e = .returned (.bool (hasP a b p)) ∧ Below W.heap.size W w' := by
  have HT : Hid (∀ w, Calls Try.prog 39 #[a.val, b.val, p.val] w fun e w' => e = .returned (.int .i64 (turnP a b p)) ∧ Below w.heap.size w w') := fun w => turn_any w a b p ha hb hp
  have HM1 : Hid (∀ w, Calls Try.prog 42 #[a.val, p.val] w fun e w' => e = .returned (minusP a p).val ∧ Below w.heap.size w w') := fun w => minus_any w a p (ok_mono ha (by omega)) (ok_mono hp (by omega))
  have HM2 : Hid (∀ w, Calls Try.prog 42 #[b.val, p.val] w fun e w' => e = .returned (minusP b p).val ∧ Below w.heap.size w w') := fun w => minus_any w b p (ok_mono hb (by omega)) (ok_mono hp (by omega))
  have HM3 : Hid (∀ w, Calls Try.prog 41 #[(minusP a p).val, (minusP b p).val] w fun e w' => e = .returned (.int .i64 (dotP (minusP a p) (minusP b p))) ∧ Below w.heap.size w w') := fun w => dot_any w _ _ (ok_mono (minus_ok ha hp) (by omega)) (ok_mono (minus_ok hb hp) (by omega))
  have HD : Hid (hasP a b p = ((turnP a b p == 0) && decide (dotP (minusP a p) (minusP b p) ≤ 0))) := rfl
  have S0 := ((St.refl W).blk_new #[.int .i64 a.x, .int .i64 a.y, .int .i64 b.x, .int .i64 b.y] 65).blk_new #[.int .i64 p.x, .int .i64 p.y] 40
  simp only [List.nil_append, List.cons_append, World.size_alloc] at S0
  unfold Sd
  unfold Pl.val at *
  go_enter Try.func38, Try.ntmps38
  go_wp2_with fail
  generalize ((W.alloc (.cells #[.int .i64 a.x, .int .i64 a.y, .int .i64 b.x, .int .i64 b.y] 65)).alloc (.cells #[.int .i64 p.x, .int .i64 p.y] 40)) = w1 at S0 ⊢
  refine wp_cls 19 (fun w' => St W w' [blk W.heap.size 65 #[.int .i64 a.x, .int .i64 a.y, .int .i64 b.x, .int .i64 b.y], blk (W.heap.size + 1) 40 #[.int .i64 p.x, .int .i64 p.y]]) (by kernel_rfl) (by kernel_rfl) S0.drew ?_
  simp only [List.take_succ_cons, List.take_zero, List.drop_succ_cons, List.drop_zero]
  generalize hK : (fun w' => St W w' [blk W.heap.size 65 #[.int .i64 a.x, .int .i64 a.y, .int .i64 b.x, .int .i64 b.y], blk (W.heap.size + 1) 40 #[.int .i64 p.x, .int .i64 p.y]]) = K
  intro hne
  have kb : ∀ y : Wd K, St W y.w [blk W.heap.size 65 #[.int .i64 a.x, .int .i64 a.y, .int .i64 b.x, .int .i64 b.y], blk (W.heap.size + 1) 40 #[.int .i64 p.x, .int .i64 p.y]] := by subst hK; exact fun y => y.h
  have hK3 : ∀ w w', K w → Below w.heap.size w w' → K w' := by subst hK; exact fun w w' h hb => h.ext hb
  have k0 : ∀ y : Wd K, y.w.cell? ⟨W.heap.size, 0, none⟩ = some (.int .i64 a.x) := fun y => (kb y).blk_cell (i := 0) rfl 0
  have k1 : ∀ y : Wd K, y.w.cell? ⟨W.heap.size, 1, none⟩ = some (.int .i64 a.y) := fun y => (kb y).blk_cell (i := 0) rfl 1
  have k2 : ∀ y : Wd K, y.w.cell? ⟨W.heap.size, 2, none⟩ = some (.int .i64 b.x) := fun y => (kb y).blk_cell (i := 0) rfl 2
  have k3 : ∀ y : Wd K, y.w.cell? ⟨W.heap.size, 3, none⟩ = some (.int .i64 b.y) := fun y => (kb y).blk_cell (i := 0) rfl 3
  have k4 : ∀ y : Wd K, y.w.cell? ⟨W.heap.size + 1, 0, none⟩ = some (.int .i64 p.x) := fun y => (kb y).blk_cell (i := 1) rfl 0
  have k5 : ∀ y : Wd K, y.w.cell? ⟨W.heap.size + 1, 1, none⟩ = some (.int .i64 p.y) := fun y => (kb y).blk_cell (i := 1) rfl 1
  clear hK
  by_cases h0 : turnP a b p = 0
  · have h0b : (turnP a b p == 0) = true := by simpa using h0
    rw [h0] at HT
    rw [h0b] at HD
    iterate 5 (go_big_quiet_step ((fail)))
    go_big_quiet_step ((go_at_call 39; exact cls_below hK3 (HT.out _)))
    iterate 5 (go_big_quiet_step ((fail)))
    go_big_quiet_step ((go_at_call 42; exact cls_below hK3 (HM1.out _)))
    iterate 3 (go_big_quiet_step ((fail)))
    go_big_quiet_step ((go_at_call 42; exact cls_below hK3 (HM2.out _)))
    go_big_quiet_step ((go_at_call 41; exact cls_below hK3 (HM3.out _)))
    iterate 2 (go_big_quiet_step ((fail)))
    refine wpQuiet_nil ?_
    intro y
    have hb1 := (kb y).bel
    clear k0 k1 k2 k3 k4 k5 kb
    go_wp2_with fail
    go_ret
    exact ⟨by rw [HD.out]; simp, hb1⟩
  · have h0b : (turnP a b p == 0) = false := by simpa using h0
    rw [h0b] at HD
    iterate 5 (go_big_quiet_step ((fail)))
    go_big_quiet_step ((go_at_call 39; exact cls_below hK3 (HT.out _)))
    iterate 13 (go_big_quiet_step ((fail)))
    refine wpQuiet_nil ?_
    intro y
    have hb1 := (kb y).bel
    clear k0 k1 k2 k3 k4 k5 kb
    go_wp2_with fail
    go_ret
    exact ⟨by rw [HD.out]; simp, hb1⟩
end Go.Proofs.Ythgkngngmjonkaa
/- The law of Tail inside a round of a range over a function (the wide fence). -/
namespace Go.Mem
open Go Go.RowKit
variable {P : Program} {ops : Array Oper} {md : Region.Mode} {C : World → Prop} {lp m : Nat}
def nd (o : Oper) : Bool := match o.op with
  | .defer _ => false
  | _ => true
def ndAll (ops : List Oper) : Bool := ops.all nd
theorem semAt_nd (ρ : Operand → Value) (o : Oper) (h : nd o = true) : Oper.semAt (some lp) ρ o = execOp ρ o :=
  Oper.semAt_some lp ρ o fun c hc => by rw [nd, hc] at h; cases h
theorem wpIn_of_quiet {o : Oper} {a : Act} {K : Act → Prop} {K' : Act → World → Prop} {Q' : Exit → Act → World → Prop} {w : World} (hd : nd o = true) (hw : C w) (h : ∀ a w', C w' → K a → K' a w') (hh : o.quiet P a C K) : o.wpIn (Fence.wide.inRound lp) m P a w K' Q' := by
  obtain ⟨v, h1, h2⟩ := hh
  have h3 := h1 w hw
  unfold Oper.quietAt at h3
  unfold Oper.wpIn
  refine ⟨fun _ _ => trivial, ?_⟩
  rw [Fence.inRound_round, semAt_nd _ _ hd]
  generalize (execOp a.eval o).run P w = r at *
  cases r with
  | ok n w' =>
    cases n <;> simp only [Oper.quietUpon] at h3 <;> simp only [Oper.uponIn]
    case value u =>
      obtain ⟨e1, e2⟩ := h3
      rw [e1, e2]
      exact h _ _ hw h2
    case skip =>
      obtain ⟨e1, e2⟩ := h3
      rw [e1, ← e2]
      exact h _ _ hw h2
    case enter f args =>
      obtain ⟨e1, hc⟩ := h3
      rw [e1]
      refine ⟨fun h => (by cases h), CallsIn.inRound lp (callsIn_wide.2 (Calls.mono hc ?_))⟩
      rintro e w'' ⟨he, hw''⟩
      subst he
      exact h _ _ hw'' h2
  | halt x w' => simp only [Oper.quietUpon] at h3
theorem wpOpIn_of_qOp {i : Nat} {a : Act} {K : Act → Prop} {K' : Act → World → Prop} {Q' : Exit → Act → World → Prop} {w : World} (hd : ∀ o, ops[i]? = some o → nd o = true) (hC : C w) (h : ∀ a w', C w' → K a → K' a w') (hh : qOp P ops C i K a) : wpOpIn (Fence.wide.inRound lp) m P ops Q' i K' a w := by
  unfold qOp at hh
  unfold wpOpIn
  split
  · rename_i ho; simp only [ho] at hh; exact h _ _ hC hh
  · rename_i o ho
    simp only [ho] at hh
    split
    · rename_i hw; simp only [hw, if_true] at hh; exact wpIn_of_quiet (hd o ho) hC h hh
    · rename_i hw; simp only [hw] at hh; exact ⟨fun _ _ => trivial, h _ _ hC hh⟩
theorem headAny_soundIn {n g : Nat} {L : Array Bool → Act → Prop} {Q : Exit → Act → World → Prop} (hd : ∀ (i : Nat) o, ops[i]? = some o → nd o = true) (hL : ∀ ls a w, C w → L ls a → wpAnyIn (Fence.wide.inRound lp) m P md ops Q g ls a w) (k : Nat) :
    ∀ (ls : Array Bool) (a : Act) (w : World), C w → headAny P md ops C n L k ls a → wpAnyIn (Fence.wide.inRound lp) m P md ops Q (k + g) ls a w := by
  induction k with
  | zero => intro ls a w hw h; rw [Nat.zero_add]; exact hL ls a w hw h
  | succ k ih =>
    intro ls a w hw h
    have e : k + 1 + g = (k + g) + 1 := by omega
    rw [e]
    refine ⟨fun h0 => absurd h0 h.1, fun i hi => ?_⟩
    exact wpOpIn_of_qOp (hd i) hw (fun a' w' hw' h' => ih _ a' w' hw' h') (h.2 i hi).2
theorem wpAnyIn_of_seq {Q' : Exit → Act → World → Prop} : ∀ (l : List Oper) (k : Nat) (listed : Array Bool) (a : Act) (w : World), (∀ j, l[j]? = ops[k + j]?) →
    Region.seqB md ops l.length k listed = true → wpListIn (Fence.wide.inRound lp) m P ops Q' l a w → wpAnyIn (Fence.wide.inRound lp) m P md ops Q' l.length listed a w
  | [], _, _, _, _, _, hB, h => ⟨by simpa [Region.seqB] using hB, h⟩
  | o :: l, k, listed, a, w, hl, hB, h => by
    have h0 : ops[k]? = some o := by simpa using (hl 0).symm
    simp only [List.length_cons, Region.seqB, Bool.and_eq_true, decide_eq_true_eq] at hB
    refine ⟨fun h1 => (by rw [hB.1] at h1; cases h1), fun i hi => ?_⟩
    rw [hB.1] at hi
    have hik : i = k := by simpa using hi
    subst hik
    have hw : wpOpIn (Fence.wide.inRound lp) m P ops Q' i (wpListIn (Fence.wide.inRound lp) m P ops Q' l) a w := by unfold wpOpIn; simp only [h0]; exact h
    exact wpOpIn_mono (fun a' w' h' => wpAnyIn_of_seq l (i + 1) _ a' w' (fun j => by have := hl (j + 1); simpa [Nat.add_assoc, Nat.add_comm 1 j] using this) hB.2 h') hw
theorem wpIn_quiet_tail {id : Nat} {Q : Exit → Act → World → Prop} {a : Act} {w : World} {l : List Oper} (n : Nat) (C : World → Prop) (hm : P.follows .mixedOrders = true) (hB : Region.lexTailB .any l.toArray n = true) (hd : ndAll l = true) (hC : C w.drew)
    (h : wpQuiet P l.toArray C (fun a' => ∀ w', C w' → wpListIn (Fence.wide.inRound lp) m P l.toArray Q (l.drop n) a' w') (l.take n) a) : (Code.region id l.toArray true).wpIn (Fence.wide.inRound lp) m P Q a w := by
  simp only [Region.lexTailB, Bool.and_eq_true, decide_eq_true_eq] at hB
  obtain ⟨⟨⟨⟨hsel, hn⟩, hs⟩, hc⟩, hlex⟩ := hB
  have hn' : n < l.length := by simpa using hn
  have htl : (l.take n).length = n := by simp; omega
  have hdl : (l.drop n).length = l.toArray.size - n := by simp
  have inv : HeadInv .any l.toArray n (Array.replicate l.toArray.size false) :=
    ⟨by simp, fun j oj _ hl => (by rw [getD_replicate_false] at hl; cases hl), fun t _ ht => getD_in (by simpa using ht) (getD_replicate_false _ _)⟩
  have H := headAny_lex (md := .any) (g := l.toArray.size - n) hsel hs hc hn (l.take n) 0 _ a (fun j hj => by
    have hj' : j < n := by rw [htl] at hj; exact hj
    simp [hj']) (by simpa using htl) inv (by rw [htl]; exact hlex) h
  refine wpIn_region_any hm ?_
  have hdl' : ∀ (i : Nat) o, l.toArray[i]? = some o → nd o = true := fun i o ho => by
    rw [List.getElem?_toArray] at ho
    exact List.all_eq_true.1 hd o (List.mem_of_getElem? ho)
  have H2 := headAny_soundIn (lp := lp) (m := m) (Q := Q) hdl' (g := l.toArray.size - n) (fun ls a' w' hw' hL => by
    have := wpAnyIn_of_seq (P := P) (md := .any) (Q' := Q) (lp := lp) (m := m) (l.drop n) n ls a' w' (fun j => by simp [List.getElem?_drop]) (by rw [hdl]; exact hL.1) (hL.2 w' hw')
    rwa [hdl] at this) _ _ _ _ hC H
  rw [htl, show n + (l.toArray.size - n) = l.toArray.size by omega] at H2
  exact H2
theorem wpIn_cls {id : Nat} {Q : Exit → Act → World → Prop} {a : Act} {w : World} {l : List Oper} (n : Nat) (K : World → Prop) (hm : P.follows .mixedOrders = true) (hB : Region.lexTailB .any l.toArray n = true) (hd : ndAll l = true) (hC : K w.drew)
    (h : Nonempty (Wd K) → wpQuiet P l.toArray (fun w' => ∃ x : Wd K, w' = x.w) (fun a' => ∀ x : Wd K, wpListIn (Fence.wide.inRound lp) m P l.toArray Q (l.drop n) a' x.w) (l.take n) a) : (Code.region id l.toArray true).wpIn (Fence.wide.inRound lp) m P Q a w := by
  refine wpIn_quiet_tail n (fun w' => ∃ x : Wd K, w' = x.w) hm hB hd ⟨⟨_, hC⟩, rfl⟩ ?_
  have e : (fun a' => ∀ w', (∃ x : Wd K, w' = x.w) → wpListIn (Fence.wide.inRound lp) m P l.toArray Q (l.drop n) a' w') = fun a' => ∀ x : Wd K, wpListIn (Fence.wide.inRound lp) m P l.toArray Q (l.drop n) a' x.w := by
    funext a'
    exact propext ⟨fun h x => h _ ⟨x, rfl⟩, fun h w' ⟨x, hx⟩ => hx ▸ h x⟩
  rw [e]
  exact h ⟨⟨_, hC⟩⟩
end Go.Mem
/- The law of Tail at the wide fence, outside of rounds (an iterator's body, which calls yield). -/
namespace Go.Mem
open Go Go.RowKit
variable {P : Program} {ops : Array Oper} {md : Region.Mode} {C : World → Prop} {m : Nat}
theorem wpIn_of_quietW {o : Oper} {a : Act} {K : Act → Prop} {K' : Act → World → Prop} {Q' : Exit → Act → World → Prop} {w : World} (_ : nd o = true) (hw : C w) (h : ∀ a w', C w' → K a → K' a w') (hh : o.quiet P a C K) : o.wpIn Fence.wide m P a w K' Q' := by
  obtain ⟨v, h1, h2⟩ := hh
  have h3 := h1 w hw
  unfold Oper.quietAt at h3
  unfold Oper.wpIn
  refine ⟨fun _ _ => trivial, ?_⟩
  rw [show Oper.semAt Fence.wide.round a.eval o = execOp a.eval o from rfl]
  generalize (execOp a.eval o).run P w = r at *
  cases r with
  | ok n w' =>
    cases n <;> simp only [Oper.quietUpon] at h3 <;> simp only [Oper.uponIn]
    case value u =>
      obtain ⟨e1, e2⟩ := h3
      rw [e1, e2]
      exact h _ _ hw h2
    case skip =>
      obtain ⟨e1, e2⟩ := h3
      rw [e1, ← e2]
      exact h _ _ hw h2
    case enter f args =>
      obtain ⟨e1, hc⟩ := h3
      rw [e1]
      refine ⟨fun h => (by cases h), callsIn_wide.2 (Calls.mono hc ?_)⟩
      rintro e w'' ⟨he, hw''⟩
      subst he
      exact h _ _ hw'' h2
  | halt x w' => simp only [Oper.quietUpon] at h3
theorem wpOpIn_of_qOpW {i : Nat} {a : Act} {K : Act → Prop} {K' : Act → World → Prop} {Q' : Exit → Act → World → Prop} {w : World} (hd : ∀ o, ops[i]? = some o → nd o = true) (hC : C w) (h : ∀ a w', C w' → K a → K' a w') (hh : qOp P ops C i K a) : wpOpIn Fence.wide m P ops Q' i K' a w := by
  unfold qOp at hh
  unfold wpOpIn
  split
  · rename_i ho; simp only [ho] at hh; exact h _ _ hC hh
  · rename_i o ho
    simp only [ho] at hh
    split
    · rename_i hw; simp only [hw, if_true] at hh; exact wpIn_of_quietW (hd o ho) hC h hh
    · rename_i hw; simp only [hw] at hh; exact ⟨fun _ _ => trivial, h _ _ hC hh⟩
theorem headAny_soundInW {n g : Nat} {L : Array Bool → Act → Prop} {Q : Exit → Act → World → Prop} (hd : ∀ (i : Nat) o, ops[i]? = some o → nd o = true) (hL : ∀ ls a w, C w → L ls a → wpAnyIn Fence.wide m P md ops Q g ls a w) (k : Nat) :
    ∀ (ls : Array Bool) (a : Act) (w : World), C w → headAny P md ops C n L k ls a → wpAnyIn Fence.wide m P md ops Q (k + g) ls a w := by
  induction k with
  | zero => intro ls a w hw h; rw [Nat.zero_add]; exact hL ls a w hw h
  | succ k ih =>
    intro ls a w hw h
    have e : k + 1 + g = (k + g) + 1 := by omega
    rw [e]
    refine ⟨fun h0 => absurd h0 h.1, fun i hi => ?_⟩
    exact wpOpIn_of_qOpW (hd i) hw (fun a' w' hw' h' => ih _ a' w' hw' h') (h.2 i hi).2
theorem wpAnyIn_of_seqW {Q' : Exit → Act → World → Prop} : ∀ (l : List Oper) (k : Nat) (listed : Array Bool) (a : Act) (w : World), (∀ j, l[j]? = ops[k + j]?) →
    Region.seqB md ops l.length k listed = true → wpListIn Fence.wide m P ops Q' l a w → wpAnyIn Fence.wide m P md ops Q' l.length listed a w
  | [], _, _, _, _, _, hB, h => ⟨by simpa [Region.seqB] using hB, h⟩
  | o :: l, k, listed, a, w, hl, hB, h => by
    have h0 : ops[k]? = some o := by simpa using (hl 0).symm
    simp only [List.length_cons, Region.seqB, Bool.and_eq_true, decide_eq_true_eq] at hB
    refine ⟨fun h1 => (by rw [hB.1] at h1; cases h1), fun i hi => ?_⟩
    rw [hB.1] at hi
    have hik : i = k := by simpa using hi
    subst hik
    have hw : wpOpIn Fence.wide m P ops Q' i (wpListIn Fence.wide m P ops Q' l) a w := by unfold wpOpIn; simp only [h0]; exact h
    exact wpOpIn_mono (fun a' w' h' => wpAnyIn_of_seqW l (i + 1) _ a' w' (fun j => by have := hl (j + 1); simpa [Nat.add_assoc, Nat.add_comm 1 j] using this) hB.2 h') hw
theorem wpIn_quiet_tailW {id : Nat} {Q : Exit → Act → World → Prop} {a : Act} {w : World} {l : List Oper} (n : Nat) (C : World → Prop) (hm : P.follows .mixedOrders = true) (hB : Region.lexTailB .any l.toArray n = true) (hd : ndAll l = true) (hC : C w.drew)
    (h : wpQuiet P l.toArray C (fun a' => ∀ w', C w' → wpListIn Fence.wide m P l.toArray Q (l.drop n) a' w') (l.take n) a) : (Code.region id l.toArray true).wpIn Fence.wide m P Q a w := by
  simp only [Region.lexTailB, Bool.and_eq_true, decide_eq_true_eq] at hB
  obtain ⟨⟨⟨⟨hsel, hn⟩, hs⟩, hc⟩, hlex⟩ := hB
  have hn' : n < l.length := by simpa using hn
  have htl : (l.take n).length = n := by simp; omega
  have hdl : (l.drop n).length = l.toArray.size - n := by simp
  have inv : HeadInv .any l.toArray n (Array.replicate l.toArray.size false) :=
    ⟨by simp, fun j oj _ hl => (by rw [getD_replicate_false] at hl; cases hl), fun t _ ht => getD_in (by simpa using ht) (getD_replicate_false _ _)⟩
  have H := headAny_lex (md := .any) (g := l.toArray.size - n) hsel hs hc hn (l.take n) 0 _ a (fun j hj => by
    have hj' : j < n := by rw [htl] at hj; exact hj
    simp [hj']) (by simpa using htl) inv (by rw [htl]; exact hlex) h
  refine wpIn_region_any hm ?_
  have hdl' : ∀ (i : Nat) o, l.toArray[i]? = some o → nd o = true := fun i o ho => by
    rw [List.getElem?_toArray] at ho
    exact List.all_eq_true.1 hd o (List.mem_of_getElem? ho)
  have H2 := headAny_soundInW (m := m) (Q := Q) hdl' (g := l.toArray.size - n) (fun ls a' w' hw' hL => by
    have := wpAnyIn_of_seqW (P := P) (md := .any) (Q' := Q) (m := m) (l.drop n) n ls a' w' (fun j => by simp [List.getElem?_drop]) (by rw [hdl]; exact hL.1) (hL.2 w' hw')
    rwa [hdl] at this) _ _ _ _ hC H
  rw [htl, show n + (l.toArray.size - n) = l.toArray.size by omega] at H2
  exact H2
theorem wpIn_clsW {id : Nat} {Q : Exit → Act → World → Prop} {a : Act} {w : World} {l : List Oper} (n : Nat) (K : World → Prop) (hm : P.follows .mixedOrders = true) (hB : Region.lexTailB .any l.toArray n = true) (hd : ndAll l = true) (hC : K w.drew)
    (h : Nonempty (Wd K) → wpQuiet P l.toArray (fun w' => ∃ x : Wd K, w' = x.w) (fun a' => ∀ x : Wd K, wpListIn Fence.wide m P l.toArray Q (l.drop n) a' x.w) (l.take n) a) : (Code.region id l.toArray true).wpIn Fence.wide m P Q a w := by
  refine wpIn_quiet_tailW n (fun w' => ∃ x : Wd K, w' = x.w) hm hB hd ⟨⟨_, hC⟩, rfl⟩ ?_
  have e : (fun a' => ∀ w', (∃ x : Wd K, w' = x.w) → wpListIn Fence.wide m P l.toArray Q (l.drop n) a' w') = fun a' => ∀ x : Wd K, wpListIn Fence.wide m P l.toArray Q (l.drop n) a' x.w := by
    funext a'
    exact propext ⟨fun h x => h _ ⟨x, rfl⟩, fun h w' ⟨x, hx⟩ => hx ▸ h x⟩
  rw [e]
  exact h ⟨⟨_, hC⟩⟩
end Go.Mem
/- TopLinksPlans: the iterator over the sides of a polygon. -/
namespace Go.Plan
/-- the sides of a polygon with their numbers, as they come -/
def sidesTo (ps : List Pl) (k : Nat) : List (Nat × Pl × Pl) := (List.range k).map fun i => (i, ps.getD i ⟨0, 0⟩, ps.getD ((i + 1) % ps.length) ⟨0, 0⟩)
theorem sidesTo_succ (ps : List Pl) (k : Nat) : sidesTo ps (k + 1) = sidesTo ps k ++ [(k, ps.getD k ⟨0, 0⟩, ps.getD ((k + 1) % ps.length) ⟨0, 0⟩)] := by
  rw [sidesTo, List.range_succ, List.map_append]; rfl
def IsSide (ps : List Pl) (p : Nat × Pl × Pl) : Prop := p ∈ sidesTo ps ps.length
theorem isSide_at (ps : List Pl) {k : Nat} (hk : k < ps.length) : IsSide ps (k, ps.getD k ⟨0, 0⟩, ps.getD ((k + 1) % ps.length) ⟨0, 0⟩) := by
  unfold IsSide sidesTo
  exact List.mem_map.2 ⟨k, List.mem_range.2 hk, rfl⟩
abbrev SideOf (ps : List Pl) := { p : Nat × Pl × Pl // IsSide ps p }
end Go.Plan
namespace Go.Proofs.Ythgkngngmjonkaa
open Go.RowKit Go.Mem Go.Sheet Go.Plan Go.Shelf
attribute [local go_sem] Oper.semAt_some
def encSd (ps : List Pl) (p : SideOf ps) : Array Value := #[.int .i64 p.1.1, Sd p.1.2.1 p.1.2.2]
/-- what the iterator wants kept between two rounds: what lay below n₀, and its own box -/
def KpS (n₀ Bs : Nat) (X Y : World) : Prop := Below n₀ X Y ∧ Y.heap[Bs]? = X.heap[Bs]?
theorem KpS.refl (n₀ Bs : Nat) (X : World) : KpS n₀ Bs X X := ⟨Below.refl _ _, rfl⟩
theorem KpS.trans {n₀ Bs : Nat} {X Y Z : World} (h : KpS n₀ Bs X Y) (k : KpS n₀ Bs Y Z) : KpS n₀ Bs X Z := ⟨h.1.trans k.1, k.2.trans h.2⟩
theorem KpS.of_below {n₀ Bs : Nat} {X Y : World} (h : Below X.heap.size X Y) (hn : n₀ ≤ X.heap.size) (hB : Bs < X.heap.size) : KpS n₀ Bs X Y := ⟨h.mono hn, h.block Bs hB⟩
theorem kpS_b {n₀ Bs : Nat} {w : World} (hn : n₀ ≤ w.heap.size) (hB : Bs < w.heap.size) : ∀ (W : World) (l : Nat) (o o' : Obj), w.heap.size ≤ l → W.heap[l]? = some o → o.isCells = false → o.isWalk = false → KpS n₀ Bs W (W.putObj l o') := fun W l o o' h1 h2 h3 h4 =>
  ⟨belowK_b hn W l o o' h1 h2 h3 h4, (belowK_b (w := w) (Nat.le_refl _) W l o o' h1 h2 h3 h4).block Bs hB⟩
theorem sides_any (w : World) (A : Option Addr) (n c : Nat) : Calls Try.prog 25 #[.slice A n c] w fun e w' => e = .returned (.func (.func 35) #[] #[.pointer (some ⟨w.heap.size, 0, none⟩)]) ∧ w' = w.alloc (.cells #[.slice A n c] 41) := by
  go_enter Try.func25, Try.ntmps25
  go_wp2
  go_ret
  exact ⟨rfl, rfl⟩
theorem pl_elem {w : World} {S : Nat → Prop} {n : Nat} {ps : List Pl} {A : Option Addr} {m c k : Nat} (h : Rd w S 2 (.slice A m c) n (ps.flatMap Pl.cells)) (hk : k < n) :
    ∃ g o, A = some ⟨g, o, none⟩ ∧ w.cell? ⟨g, o + k * 2, none⟩ = some (.int .i64 (ps.getD k ⟨0, 0⟩).x) ∧ w.cell? ⟨g, o + k * 2 + 1, none⟩ = some (.int .i64 (ps.getD k ⟨0, 0⟩).y) := by
  obtain ⟨g, o, x, hA, hx, c0, c1⟩ := h.elem2 (k := k) (fun s : Pl => .int .i64 s.x) (fun s : Pl => .int .i64 s.y) (fun _ => rfl) hk
  rw [List.getD_eq_getElem?_getD, hx]
  exact ⟨g, o, hA, c0, c1⟩
set_option maxRecDepth 100000 in
set_option maxHeartbeats 2000000 in
theorem sides1_stops (m : Nat) (hm : 1 ≤ m) (w : World) (Bs n₀ n c : Nat) (A : Option Addr) (ps : List Pl) (hBs : w.cell? ⟨Bs, 0, none⟩ = some (.slice A n c)) (h : Rd w (· < n₀) 2 (.slice A n c) n (ps.flatMap Pl.cells)) (hn₀ : n₀ ≤ w.heap.size) (hn : n ≤ 1000) :
    SeqStopsK Fence.wide m Try.prog 35 #[.pointer (some ⟨Bs, 0, none⟩)] (encSd ps) (KpS n₀ Bs) (fun xs => xs.map (·.1) = sidesTo ps n) (fun _ => True) n w := by
  intro l J Jx W hW hJ hJx hY h0
  have HN := Lib.hid (h.count (f := Pl.cells) (size := 2) (fun _ => rfl) (by decide))
  have hBs' : Bs < w.heap.size := World.block_lt_of_cell? w _ hBs
  have hc := (hW.cell (p := ⟨Bs, 0, none⟩) hBs').trans hBs
  have hb0 : Below n₀ w W := hW.mono hn₀
  have hr : Rd W (· < n₀) 2 (.slice A n c) n (ps.flatMap Pl.cells) := h.below hb0
  have hnW : n₀ ≤ W.heap.size := by have := hW.size; omega
  clear h hBs hW hb0 hBs'
  refine callsIn_of_wp Try.func35 rfl trivial ?_ rfl
  simp only [Try.ntmps35, List.size_toArray, List.length_cons, List.length_nil, Nat.reduceAdd, Nat.reduceSub, Array.replicate_succ, Array.replicate_zero, List.push_toArray, List.append_toArray, List.nil_append, List.cons_append]
  gi_wp2
  gi_loopw [7] (fun i wr => ∃ (k : Nat) (pre : List (SideOf ps)), k ≤ n ∧ i = .int .i64 k ∧ pre.map (·.1) = sidesTo ps k ∧ J pre wr ∧ KpS n₀ Bs W wr) (fun i _ => n - (intOf i).toNat)
  case atStart => exact ⟨0, [], Nat.zero_le _, rfl, rfl, h0, KpS.refl _ _ _⟩
  case round =>
    obtain ⟨k, pre, hk, rfl, hpre, hJs, hnx⟩ := hrel
    have HP := Lib.hid hpre
    clear hpre
    by_cases hlt : k < n
    · obtain ⟨b, o, hA, c0, c1⟩ := pl_elem (hr.below hnx.1) hlt
      subst hA
      have hk2 : (k + 1) % ps.length < n := by rw [HN.out]; exact Nat.mod_lt _ (by have := HN.out; omega)
      obtain ⟨b2, o2, hA2, d0, d1⟩ := pl_elem (hr.below hnx.1) hk2
      cases hA2
      obtain ⟨k2, hk2e⟩ : ∃ k2, (k + 1) % ps.length = k2 := ⟨_, rfl⟩
      have hmod : ((k : Int) + 1).tmod (n : Int) = (k2 : Int) := by
        rw [← hk2e, ← HN.out, Int.tmod_eq_emod_of_nonneg (by omega)]
        exact (Int.natCast_emod (k + 1) n).symm
      have hlen : pre.length < n := by
        have e := congrArg List.length HP.out
        rw [List.length_map] at e
        rw [e]; simp [sidesTo]; exact hlt
      obtain ⟨p, hp⟩ : ∃ p : SideOf ps, p.1 = (k, ps.getD k ⟨0, 0⟩, ps.getD ((k + 1) % ps.length) ⟨0, 0⟩) := ⟨⟨_, isSide_at ps (by rw [← HN.out]; exact hlt)⟩, rfl⟩
      have HPV : Hid (pre.map (·.1) ++ [p.1] = sidesTo ps (k + 1)) := by
        show _ = _
        rw [HP.out, hp, sidesTo_succ]
      have henc : encSd ps p = #[.int .i64 k, Sd (ps.getD k ⟨0, 0⟩) (ps.getD k2 ⟨0, 0⟩)] := by
        unfold encSd; rw [hp, ← hk2e]
      have HENC := Lib.hid henc
      rw [hk2e] at d0 d1 hk2
      clear henc hp hk2e
      generalize ps.getD k ⟨0, 0⟩ = pa at *
      generalize ps.getD k2 ⟨0, 0⟩ = pb at *
      have e0 : wr.cell? ⟨Bs, 0, none⟩ = some (.slice (some ⟨b, o, none⟩) n c) := (World.cell?_of_block (w := W) hnx.2).trans hc
      have hnr : n₀ ≤ wr.heap.size := by have := hnx.1.size; omega
      have hJ1 : J pre (wr.alloc (.cells #[.int .i64 pa.x, .int .i64 pa.y] 40)) := hJ _ _ _ none hJs (World.grownBy_alloc _ _ _) (fun r e => by cases e)
      have hb1 : b < wr.heap.size := World.block_lt_of_cell? wr _ c0
      have hBr : Bs < wr.heap.size := World.block_lt_of_cell? wr _ e0
      have hn1 : KpS n₀ Bs W (wr.alloc (.cells #[.int .i64 pa.x, .int .i64 pa.y] 40)) := hnx.trans (KpS.of_below ((Below.refl _ _).alloc (Nat.le_refl _) _) hnr hBr)
      have f0 : (wr.alloc (.cells #[.int .i64 pa.x, .int .i64 pa.y] 40)).cell? ⟨wr.heap.size, 0, none⟩ = some (.int .i64 pa.x) := by simp
      have f1 : (wr.alloc (.cells #[.int .i64 pa.x, .int .i64 pa.y] 40)).cell? ⟨wr.heap.size, 1, none⟩ = some (.int .i64 pa.y) := by simp
      have hbel : Below wr.heap.size wr (wr.alloc (.cells #[.int .i64 pa.x, .int .i64 pa.y] 40)) := (Below.refl _ _).alloc (Nat.le_refl _) _
      have f2 := (hbel.cell (p := ⟨Bs, 0, none⟩) hBr).trans e0
      have f3 := (hbel.cell (p := ⟨b, o + k2 * 2, none⟩) hb1).trans d0
      have f4 := (hbel.cell (p := ⟨b, o + k2 * 2 + 1, none⟩) hb1).trans d1
      clear hc d0 d1 hbel
      gi_wp2
      generalize hgA : wr.heap.size = gA at *
      generalize wr.alloc (.cells #[.int .i64 pa.x, .int .i64 pa.y] 40) = w1 at *
      refine wpIn_clsW 12 (fun w' => ∃ q, w' = w1.drewN q) (by kernel_rfl) (by kernel_rfl) (by kernel_rfl) ⟨1, rfl⟩ ?_
      simp only [List.take_succ_cons, List.take_zero, List.drop_succ_cons, List.drop_zero]
      generalize hK : (fun w' => ∃ q, w' = w1.drewN q) = K
      intro hne
      have kw : ∀ y : Wd K, ∃ q, y.w = w1.drewN q := by subst hK; exact fun y => y.h
      have y0 : ∀ y : Wd K, y.w.cell? ⟨gA, 0, none⟩ = some (.int .i64 pa.x) := fun y => by obtain ⟨q, e⟩ := kw y; rw [e]; exact f0
      have y1 : ∀ y : Wd K, y.w.cell? ⟨gA, 1, none⟩ = some (.int .i64 pa.y) := fun y => by obtain ⟨q, e⟩ := kw y; rw [e]; exact f1
      have y2 : ∀ y : Wd K, y.w.cell? ⟨Bs, 0, none⟩ = some (.slice (some ⟨b, o, none⟩) n c) := fun y => by obtain ⟨q, e⟩ := kw y; rw [e]; exact f2
      have y3 : ∀ y : Wd K, y.w.cell? ⟨b, o + k2 * 2, none⟩ = some (.int .i64 pb.x) := fun y => by obtain ⟨q, e⟩ := kw y; rw [e]; exact f3
      have y4 : ∀ y : Wd K, y.w.cell? ⟨b, o + k2 * 2 + 1, none⟩ = some (.int .i64 pb.y) := fun y => by obtain ⟨q, e⟩ := kw y; rw [e]; exact f4
      clear hK f0 f1 f2 f3 f4 c0 c1
      repeat (go_big_quiet_step ((fail)))
      refine wpQuiet_nil ?_
      intro y
      obtain ⟨q, hyq⟩ := kw y
      have hgr : w1.grownBy (w1.drewN q) none := ⟨rfl, rfl, rfl, Nat.le_refl _, fun _ _ _ => rfl⟩
      have hJ2 := hJ pre _ _ none hJ1 hgr (fun r e => by cases e)
      have hn2 : KpS n₀ Bs W (w1.drewN q) := hn1.trans ⟨⟨rfl, rfl, rfl, Nat.le_refl _, fun _ _ => rfl⟩, rfl⟩
      rw [← hyq] at hJ2 hn2
      clear y0 y1 y2 y3 y4 hyq kw hgr hne
      generalize y.w = w2 at *
      obtain ⟨fn, tmps, assign, body, hyy, hR⟩ := hY pre p w2 hJ2 hlen
      rw [HENC.out] at hyy
      unfold Sd at hyy
      clear hJ1 hJ2 hJs hnx hn1
      gi_wp2
      refine hR.mono ?_
      rintro e W3 (⟨rfl, hJ4, hk3⟩ | ⟨rfl, hJx4⟩)
      · have HB3 := Lib.hid (hn2.trans hk3)
        gi_wp2
        go_roundw
        case rel => exact ⟨k + 1, pre ++ [p], by omega, by go_num, by rw [List.map_append]; exact HPV.out, hJ4, HB3.out⟩
        case measure => simp [intOf]; omega
      · gi_wp2
        refine bodyPost_ret (results_none rfl _ _ _) rfl ?_
        exact ⟨⟨_, rfl⟩, .inr ⟨_, trivial, hJx4⟩⟩
    · obtain rfl : k = n := by omega
      gi_wp2
      go_end0
      exact ⟨⟨_, rfl⟩, .inl ⟨pre, HP.out, hJs⟩⟩
end Go.Proofs.Ythgkngngmjonkaa
/- A state whose blocks lie ahead of B; frames, slot by slot (printed by gen_frame.py). -/
namespace Go.Mem
open Go.RowKit
/-- St, the blocks all ahead of B -/
structure StB (W : World) (B : Nat) (w : World) (L : List Asr) : Prop where
  bel : Below W.heap.size W w
  lo : W.heap.size ≤ B
  hi : B ≤ w.heap.size
  sep : Sep L w (fun b => W.heap.size ≤ b ∧ b < B)
section
variable {W w w' : World} {B : Nat} {L : List Asr}
theorem St.toB (h : St W w L) : StB W w.heap.size w L := ⟨h.1, h.size, Nat.le_refl _, h.2⟩
theorem StB.st (h : StB W B w L) : St W w L := ⟨h.bel, h.sep.mono fun b hb => ⟨hb.1, by have := h.hi; omega⟩⟩
theorem StB.ext (h : StB W B w L) (e : Below w.heap.size w w') : StB W B w' L :=
  ⟨h.bel.trans (e.mono h.bel.size), h.lo, Nat.le_trans h.hi e.size, Sep.loc h.sep e.size fun b hb => e.block b (by have := h.hi; omega)⟩
theorem StB.drew (h : StB W B w L) : StB W B w.drew L := ⟨h.bel.drew, h.lo, h.hi, Sep.loc (w' := w.drew) h.sep (Nat.le_refl _) fun _ _ => rfl⟩
theorem StB.turn {row : Option Nat} (h : StB W B w L) (hg : w.grownBy w' row) (hr : ∀ r, row = some r → B ≤ r) : StB W B w' L :=
  ⟨h.bel.grown hg h.bel.size (fun k e => by have := hr k e; have := h.lo; omega), h.lo, Nat.le_trans h.hi hg.size,
    Sep.loc h.sep hg.size fun b hb => hg.block b (by have := h.hi; omega) fun e => by have := hr b e.symm; omega⟩
theorem StB.blk_set {i g : Nat} {t : TypeId} {cs : Array Value} (h : StB W B w L) (hi : L[i]? = some (blk g t cs)) (j : Nat) (u : Value) :
    StB W B (w.setCell ⟨g, j, none⟩ u) (L.set i (blk g t (cs.setIfInBounds j u))) := by
  obtain ⟨F1, h1, ⟨h2, hF⟩, h3⟩ := Sep.upd h.sep hi
  have hg := h1 g hF
  refine ⟨h.bel.setCell (p := ⟨g, j, none⟩) hg.1 u, h.lo, by simpa [World.setCell] using h.hi, ?_⟩
  refine (h3 (w.setCell ⟨g, j, none⟩ u) (blk g t (cs.setIfInBounds j u)) F1 ⟨heap_setCell_same w g j cs t u h2, hF⟩ (by simp [World.setCell]) (fun b hb => .inl hb) (fun b _ hn => Below.heap_setCell _ _ _ _ (fun e => hn (by subst e; exact hF)))).mono ?_
  rintro b (hb | hb)
  · exact hb
  · exact h1 b hb
/-- a block that is no cells -/
def obj (g : Nat) (o : Obj) : Asr where
  holds w F := w.heap[g]? = some o ∧ F g
  loc := fun ⟨h, hF⟩ _ hk => ⟨(hk g hF).trans h, hF⟩
  mono := fun ⟨h, hF⟩ hh => ⟨h, hh _ hF⟩
theorem StB.push_obj {D : Nat} {o : Obj} (h : StB W B w L) (hD : B ≤ D) (hK : w.heap[D]? = some o) : St W w (L ++ [obj D o]) := by
  have hlt : D < w.heap.size := (Array.getElem?_eq_some_iff.1 hK).1
  refine ⟨h.bel, (h.sep.append (L' := [obj D o]) (F' := fun b => b = D) ⟨fun b => b = D, fun _ h => h, ⟨hK, rfl⟩, trivial⟩ fun b hb hb' => by omega).mono ?_⟩
  have := h.lo
  rintro b (hb | hb) <;> omega
theorem St.obj_at {D i : Nat} {o : Obj} (h : St W w L) (hi : L[i]? = some (obj D o)) : w.heap[D]? = some o := let ⟨_, _, h2, _⟩ := h.get hi; h2
theorem St.obj_set {D i : Nat} {o : Obj} (h : St W w L) (hi : L[i]? = some (obj D o)) (o' : Obj) : St W (w.putObj D o') (L.set i (obj D o')) := by
  obtain ⟨F1, h1, ⟨h2, hF⟩, h3⟩ := h.upd hi
  have hlt : D < w.heap.size := (Array.getElem?_eq_some_iff.1 h2).1
  exact h3 _ _ F1 (some D) ⟨World.putObj_heap_same hlt, hF⟩ (grownBy_putObj' w D o') (fun k hk => by cases hk; exact hF) (fun b hb => .inl hb)
end
theorem arr_lit (T : Array Value) (N : Nat) (h : T.size = N) : T = ((List.range N).map fun i => T.getD i undef).toArray := by
  apply Array.ext_getElem?
  intro i
  rw [List.getElem?_toArray (xs := (List.range N).map _), List.getElem?_map]
  by_cases hi : i < N
  · rw [List.getElem?_range hi, Option.map_some, Array.getElem?_eq_getElem (by omega), Array.getD_eq_getD_getElem?, Array.getElem?_eq_getElem (by omega)]
    rfl
  · rw [List.getElem?_eq_none (by simpa using hi), Array.getElem?_eq_none (by omega)]
    rfl
set_option maxRecDepth 100000 in
theorem frame28 {T : Array Value} {v5 v7 : Value} (h : T.size = 28) (h5 : T.getD 5 undef = v5) (h7 : T.getD 7 undef = v7) : ∃ f : Nat → Value, T = #[f 0, f 1, f 2, f 3, f 4, v5, f 6, v7, f 8, f 9, f 10, f 11, f 12, f 13, f 14, f 15, f 16, f 17, f 18, f 19, f 20, f 21, f 22, f 23, f 24, f 25, f 26, f 27] := by
  obtain ⟨f, hf⟩ : ∃ f : Nat → Value, f = fun i => T.getD i undef := ⟨_, rfl⟩
  have e : ((List.range 28).map f).toArray = #[f 0, f 1, f 2, f 3, f 4, f 5, f 6, f 7, f 8, f 9, f 10, f 11, f 12, f 13, f 14, f 15, f 16, f 17, f 18, f 19, f 20, f 21, f 22, f 23, f 24, f 25, f 26, f 27] := rfl
  have e2 := arr_lit T 28 h
  rw [← hf, e] at e2
  rw [show T.getD 5 undef = f 5 by rw [hf]] at h5
  rw [show T.getD 7 undef = f 7 by rw [hf]] at h7
  refine ⟨f, ?_⟩
  rw [← h5, ← h7]
  exact e2
set_option maxRecDepth 100000 in
theorem frame44 {T : Array Value} {v3 v4 v5 v7 : Value} (h : T.size = 44) (h3 : T.getD 3 undef = v3) (h4 : T.getD 4 undef = v4) (h5 : T.getD 5 undef = v5) (h7 : T.getD 7 undef = v7) : ∃ f : Nat → Value, T = #[f 0, f 1, f 2, v3, v4, v5, f 6, v7, f 8, f 9, f 10, f 11, f 12, f 13, f 14, f 15, f 16, f 17, f 18, f 19, f 20, f 21, f 22, f 23, f 24, f 25, f 26, f 27, f 28, f 29, f 30, f 31, f 32, f 33, f 34, f 35, f 36, f 37, f 38, f 39, f 40, f 41, f 42, f 43] := by
  obtain ⟨f, hf⟩ : ∃ f : Nat → Value, f = fun i => T.getD i undef := ⟨_, rfl⟩
  have e : ((List.range 44).map f).toArray = #[f 0, f 1, f 2, f 3, f 4, f 5, f 6, f 7, f 8, f 9, f 10, f 11, f 12, f 13, f 14, f 15, f 16, f 17, f 18, f 19, f 20, f 21, f 22, f 23, f 24, f 25, f 26, f 27, f 28, f 29, f 30, f 31, f 32, f 33, f 34, f 35, f 36, f 37, f 38, f 39, f 40, f 41, f 42, f 43] := rfl
  have e2 := arr_lit T 44 h
  rw [← hf, e] at e2
  rw [show T.getD 3 undef = f 3 by rw [hf]] at h3
  rw [show T.getD 4 undef = f 4 by rw [hf]] at h4
  rw [show T.getD 5 undef = f 5 by rw [hf]] at h5
  rw [show T.getD 7 undef = f 7 by rw [hf]] at h7
  refine ⟨f, ?_⟩
  rw [← h3, ← h4, ← h5, ← h7]
  exact e2
set_option maxRecDepth 100000 in
theorem frame89 {T : Array Value} {v1 v2 v3 v4 v5 : Value} (h : T.size = 89) (h1 : T.getD 1 undef = v1) (h2 : T.getD 2 undef = v2) (h3 : T.getD 3 undef = v3) (h4 : T.getD 4 undef = v4) (h5 : T.getD 5 undef = v5) : ∃ f : Nat → Value, T = #[f 0, v1, v2, v3, v4, v5, f 6, f 7, f 8, f 9, f 10, f 11, f 12, f 13, f 14, f 15, f 16, f 17, f 18, f 19, f 20, f 21, f 22, f 23, f 24, f 25, f 26, f 27, f 28, f 29, f 30, f 31, f 32, f 33, f 34, f 35, f 36, f 37, f 38, f 39, f 40, f 41, f 42, f 43, f 44, f 45, f 46, f 47, f 48, f 49, f 50, f 51, f 52, f 53, f 54, f 55, f 56, f 57, f 58, f 59, f 60, f 61, f 62, f 63, f 64, f 65, f 66, f 67, f 68, f 69, f 70, f 71, f 72, f 73, f 74, f 75, f 76, f 77, f 78, f 79, f 80, f 81, f 82, f 83, f 84, f 85, f 86, f 87, f 88] := by
  obtain ⟨f, hf⟩ : ∃ f : Nat → Value, f = fun i => T.getD i undef := ⟨_, rfl⟩
  have e : ((List.range 89).map f).toArray = #[f 0, f 1, f 2, f 3, f 4, f 5, f 6, f 7, f 8, f 9, f 10, f 11, f 12, f 13, f 14, f 15, f 16, f 17, f 18, f 19, f 20, f 21, f 22, f 23, f 24, f 25, f 26, f 27, f 28, f 29, f 30, f 31, f 32, f 33, f 34, f 35, f 36, f 37, f 38, f 39, f 40, f 41, f 42, f 43, f 44, f 45, f 46, f 47, f 48, f 49, f 50, f 51, f 52, f 53, f 54, f 55, f 56, f 57, f 58, f 59, f 60, f 61, f 62, f 63, f 64, f 65, f 66, f 67, f 68, f 69, f 70, f 71, f 72, f 73, f 74, f 75, f 76, f 77, f 78, f 79, f 80, f 81, f 82, f 83, f 84, f 85, f 86, f 87, f 88] := rfl
  have e2 := arr_lit T 89 h
  rw [← hf, e] at e2
  rw [show T.getD 1 undef = f 1 by rw [hf]] at h1
  rw [show T.getD 2 undef = f 2 by rw [hf]] at h2
  rw [show T.getD 3 undef = f 3 by rw [hf]] at h3
  rw [show T.getD 4 undef = f 4 by rw [hf]] at h4
  rw [show T.getD 5 undef = f 5 by rw [hf]] at h5
  refine ⟨f, ?_⟩
  rw [← h1, ← h2, ← h3, ← h4, ← h5]
  exact e2
set_option maxRecDepth 100000 in
theorem frame89b {T : Array Value} {v1 v2 v3 v4 v5 v6 v7 : Value} (h : T.size = 89) (h1 : T.getD 1 undef = v1) (h2 : T.getD 2 undef = v2) (h3 : T.getD 3 undef = v3) (h4 : T.getD 4 undef = v4) (h5 : T.getD 5 undef = v5) (h6 : T.getD 6 undef = v6) (h7 : T.getD 7 undef = v7) : ∃ f : Nat → Value, T = #[f 0, v1, v2, v3, v4, v5, v6, v7, f 8, f 9, f 10, f 11, f 12, f 13, f 14, f 15, f 16, f 17, f 18, f 19, f 20, f 21, f 22, f 23, f 24, f 25, f 26, f 27, f 28, f 29, f 30, f 31, f 32, f 33, f 34, f 35, f 36, f 37, f 38, f 39, f 40, f 41, f 42, f 43, f 44, f 45, f 46, f 47, f 48, f 49, f 50, f 51, f 52, f 53, f 54, f 55, f 56, f 57, f 58, f 59, f 60, f 61, f 62, f 63, f 64, f 65, f 66, f 67, f 68, f 69, f 70, f 71, f 72, f 73, f 74, f 75, f 76, f 77, f 78, f 79, f 80, f 81, f 82, f 83, f 84, f 85, f 86, f 87, f 88] := by
  obtain ⟨f, hf⟩ : ∃ f : Nat → Value, f = fun i => T.getD i undef := ⟨_, rfl⟩
  have e : ((List.range 89).map f).toArray = #[f 0, f 1, f 2, f 3, f 4, f 5, f 6, f 7, f 8, f 9, f 10, f 11, f 12, f 13, f 14, f 15, f 16, f 17, f 18, f 19, f 20, f 21, f 22, f 23, f 24, f 25, f 26, f 27, f 28, f 29, f 30, f 31, f 32, f 33, f 34, f 35, f 36, f 37, f 38, f 39, f 40, f 41, f 42, f 43, f 44, f 45, f 46, f 47, f 48, f 49, f 50, f 51, f 52, f 53, f 54, f 55, f 56, f 57, f 58, f 59, f 60, f 61, f 62, f 63, f 64, f 65, f 66, f 67, f 68, f 69, f 70, f 71, f 72, f 73, f 74, f 75, f 76, f 77, f 78, f 79, f 80, f 81, f 82, f 83, f 84, f 85, f 86, f 87, f 88] := rfl
  have e2 := arr_lit T 89 h
  rw [← hf, e] at e2
  rw [show T.getD 1 undef = f 1 by rw [hf]] at h1
  rw [show T.getD 2 undef = f 2 by rw [hf]] at h2
  rw [show T.getD 3 undef = f 3 by rw [hf]] at h3
  rw [show T.getD 4 undef = f 4 by rw [hf]] at h4
  rw [show T.getD 5 undef = f 5 by rw [hf]] at h5
  rw [show T.getD 6 undef = f 6 by rw [hf]] at h6
  rw [show T.getD 7 undef = f 7 by rw [hf]] at h7
  refine ⟨f, ?_⟩
  rw [← h1, ← h2, ← h3, ← h4, ← h5, ← h6, ← h7]
  exact e2
theorem keeps_below {B : Nat} {w w' : World} (h : Below w.heap.size w w') : KeepsFrom B w w' :=
  ⟨h.size, fun k _ _ hk _ => (h.block k (Array.getElem?_eq_some_iff.1 hk).1).trans hk⟩
end Go.Mem
