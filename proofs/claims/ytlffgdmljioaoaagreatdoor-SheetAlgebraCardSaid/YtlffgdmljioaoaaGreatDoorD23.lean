/- Part 23 of the walks of the golf union's program: QN1, QV1, QV2. -/
import Derived.Test.YtlffgdmljioaoaaGreatDoorD22
import Derived.Test.YtlffgdmljioaoaaGreatDoorD08
import Derived.Test.YtlffgdmljioaoaaGreatDoorD21
set_option linter.unusedVariables false
set_option linter.unusedSimpArgs false
set_option linter.unusedSectionVars false
set_option linter.constructorNameAsVariable false
/- Walks of package num on machine integers: Neg, Abs, DivMod, Quo, Gcd, Make; card.Of. -/
namespace Go.Proofs.YtlffgdmljioaoaaGreatDoor
open Go.RowKit Go.Mem Go.Sheet
theorem itoa_len {z : Int} (h1 : -1000000000000000 ≤ z) (h2 : z ≤ 1000000000000000) : (Lib.itoa z).length ≤ 1000 := by
  have hd : ∀ (k n : Nat), n < 10 ^ (k + 1) → (Lib.decDigits n).length ≤ k + 1 := by
    intro k
    induction k with
    | zero => intro n hn; rw [Lib.decDigits, dif_pos (by omega)]; simp
    | succ k ih =>
      intro n hn
      rw [Lib.decDigits]
      split
      · simp
      · rw [List.length_append, List.length_singleton]
        have := ih (n / 10) (by rw [Nat.pow_succ] at hn; omega)
        omega
  unfold Lib.itoa
  split
  · have := hd 15 z.natAbs (by show z.natAbs < 10 ^ 16; omega)
    rw [List.length_cons]; omega
  · have := hd 15 z.toNat (by show z.toNat < 10 ^ 16; omega)
    omega
theorem res_int (f : Func) (k : Nat) (tmps : Array Value) (w : World) (g : Nat) (a : Int) (hf : f.results = #[.cell k 153]) (hp : tmps.getD k undef = .pointer (some ⟨g, 0, none⟩)) (h0 : w.cell? ⟨g, 0, none⟩ = some (.int .i64 a)) (h1 : w.cell? ⟨g, 1, none⟩ = some (.slice none 0 0)) :
    (results f tmps).run Tryz.prog w = .ok (intV a) w := by
  have hp' : tmps[k]?.getD undef = .pointer (some ⟨g, 0, none⟩) := by simpa using hp
  simp [results, hf, hp', h0, h1, go_sem]
theorem res_frac (f : Func) (k : Nat) (tmps : Array Value) (w : World) (g : Nat) (a b : Int) (hf : f.results = #[.cell k 155]) (hp : tmps.getD k undef = .pointer (some ⟨g, 0, none⟩)) (h0 : w.cell? ⟨g, 0, none⟩ = some (.int .i64 a)) (h1 : w.cell? ⟨g, 1, none⟩ = some (.slice none 0 0)) (h2 : w.cell? ⟨g, 2, none⟩ = some (.int .i64 b)) (h3 : w.cell? ⟨g, 3, none⟩ = some (.slice none 0 0)) :
    (results f tmps).run Tryz.prog w = .ok (fracV a b) w := by
  have hp' : tmps[k]?.getD undef = .pointer (some ⟨g, 0, none⟩) := by simpa using hp
  simp [results, hf, hp', h0, h1, h2, h3, go_sem]
theorem res_ints (f : Func) (tmps : Array Value) (w : World) (g1 g2 : Nat) (a b : Int) (hf : f.results = #[.cell 4 153, .cell 5 153]) (hp : tmps.getD 4 undef = .pointer (some ⟨g1, 0, none⟩)) (hq : tmps.getD 5 undef = .pointer (some ⟨g2, 0, none⟩)) (h0 : w.cell? ⟨g1, 0, none⟩ = some (.int .i64 a)) (h1 : w.cell? ⟨g1, 1, none⟩ = some (.slice none 0 0)) (h2 : w.cell? ⟨g2, 0, none⟩ = some (.int .i64 b)) (h3 : w.cell? ⟨g2, 1, none⟩ = some (.slice none 0 0)) :
    (results f tmps).run Tryz.prog w = .ok (.tuple #[intV a, intV b]) w := by
  have hp' : tmps[4]?.getD undef = .pointer (some ⟨g1, 0, none⟩) := by simpa using hp
  have hq' : tmps[5]?.getD undef = .pointer (some ⟨g2, 0, none⟩) := by simpa using hq
  simp [results, hf, hp', hq', h0, h1, h2, h3, go_sem]
set_option maxRecDepth 100000 in
set_option maxHeartbeats 1000000 in
theorem neg_any (W : World) (s : Int) (h0 : -9223372036854775807 ≤ s) (h1 : s ≤ 9223372036854775807) : Calls Tryz.prog 141 #[intV s] W fun e w' => e = .returned (intV (-s)) ∧ Below W.heap.size W w' := by
  have hn := eqlU_nil
  have hm : (s != -9223372036854775808) = true := by simp; omega
  have S0 := (((St.refl W).blk_new #[.int .i64 s, .slice none 0 0] 153).blk_new #[.int .i64 0, .slice none 0 0] 153)
  simp only [List.cons_append, List.nil_append, World.size_alloc] at S0
  have S1 := (((St.refl W).blk_new #[.int .i64 s, .slice none 0 0] 153).blk_new #[.int .i64 (-s), .slice none 0 0] 153)
  simp only [List.cons_append, List.nil_append, World.size_alloc] at S1
  have HS := Lib.hid S1
  have d0 := S0.blk_cell (i := 0) rfl 0
  have d1 := S0.blk_cell (i := 0) rfl 1
  have e0 := S0.blk_cell (i := 1) rfl 0
  have e1 := S0.blk_cell (i := 1) rfl 1
  have z0 := S0.blk_frozen (i := 1) rfl 0
  have z1 := S0.blk_frozen (i := 1) rfl 1
  clear S0 S1
  go_enter Tryz.func141, Tryz.ntmps141
  go_wp2_with fail
  exact bodyPost_ret (res_int _ 2 _ _ (W.heap.size + 1) (-s) Tryz.results141 rfl (HS.out.blk_cell (i := 1) rfl 0) (HS.out.blk_cell (i := 1) rfl 1)) rfl ⟨rfl, HS.out.bel⟩
set_option maxRecDepth 100000 in
set_option maxHeartbeats 1000000 in
theorem abs_any (W : World) (s : Int) (h0 : -9223372036854775807 ≤ s) (h1 : s ≤ 9223372036854775807) : Calls Tryz.prog 163 #[intV s] W fun e w' => e = .returned (intV s.natAbs) ∧ Below W.heap.size W w' := by
  have HN := Lib.hid (fun w => neg_any w s h0 h1)
  have S0 := (((St.refl W).blk_new #[.int .i64 s, .slice none 0 0] 153).blk_new #[.int .i64 0, .slice none 0 0] 153)
  simp only [List.cons_append, List.nil_append, World.size_alloc] at S0
  have HS := Lib.hid S0
  have d0 := S0.blk_cell (i := 0) rfl 0
  have d1 := S0.blk_cell (i := 0) rfl 1
  clear h0 h1
  go_enter Tryz.func163, Tryz.ntmps163
  rcases Int.lt_or_le s 0 with h | h
  · have t1 : decide (s < 0) = true := decide_eq_true h
    have hsa : ((s.natAbs : Nat) : Int) = -s := by omega
    rw [hsa]
    clear S0 h hsa
    go_wp2_with fail
    refine (HN.out _).mono ?_
    rintro e w2 ⟨rfl, hb⟩
    have S2 := HS.out.ext hb
    have e0 := S2.blk_cell (i := 1) rfl 0
    have e1 := S2.blk_cell (i := 1) rfl 1
    have z0 := S2.blk_frozen (i := 1) rfl 0
    have z1 := S2.blk_frozen (i := 1) rfl 1
    have S3 := (S2.blk_set (i := 1) rfl 0 (.int .i64 (-s))).blk_set (i := 1) rfl 1 (.slice none 0 0)
    simp only [List.set_cons_succ, List.set_cons_zero] at S3
    have HS3 := Lib.hid S3
    clear S2 S3 hb d0 d1
    go_wp2_with fail
    exact bodyPost_ret (res_int _ 2 _ _ (W.heap.size + 1) (-s) Tryz.results163 rfl (HS3.out.blk_cell (i := 1) rfl 0) (HS3.out.blk_cell (i := 1) rfl 1)) rfl ⟨rfl, HS3.out.bel⟩
  · have t1 : decide (s < 0) = false := decide_eq_false (by omega)
    have hsa : ((s.natAbs : Nat) : Int) = s := by omega
    rw [hsa]
    have S3 := (((St.refl W).blk_new #[.int .i64 s, .slice none 0 0] 153).blk_new #[.int .i64 s, .slice none 0 0] 153)
    simp only [List.cons_append, List.nil_append, World.size_alloc] at S3
    have HS3 := Lib.hid S3
    have e0 := S0.blk_cell (i := 1) rfl 0
    have e1 := S0.blk_cell (i := 1) rfl 1
    have z0 := S0.blk_frozen (i := 1) rfl 0
    have z1 := S0.blk_frozen (i := 1) rfl 1
    clear S0 S3 h hsa
    go_wp2_with fail
    exact bodyPost_ret (res_int _ 2 _ _ (W.heap.size + 1) s Tryz.results163 rfl (HS3.out.blk_cell (i := 1) rfl 0) (HS3.out.blk_cell (i := 1) rfl 1)) rfl ⟨rfl, HS3.out.bel⟩
/- division where it comes out even, or of a number that is not negative -/
set_option maxRecDepth 100000 in
set_option maxHeartbeats 1000000 in
theorem divMod_any (W : World) (a b c r : Int) (h0 : -9223372036854775807 ≤ a) (h1 : a ≤ 9223372036854775807) (hb : 1 ≤ b) (hc : a.tdiv b = c) (hr : a.tmod b = r) (hc2 : a / b = c) (hr2 : a % b = r) (hr0 : 0 ≤ r) (hcw : IntKind.i64.wrap c = c) : Calls Tryz.prog 164 #[intV a, intV b] W fun e w' => e = .returned (.tuple #[intV c, intV r]) ∧ Below W.heap.size W w' := by
  have hn := eqlU_nil
  have hm : (a != -9223372036854775808) = true := by simp; omega
  have t1 : decide (r < 0) = false := decide_eq_false (by omega)
  have S0 := (((((St.refl W).blk_new #[.int .i64 a, .slice none 0 0] 153).blk_new #[.int .i64 b, .slice none 0 0] 153).blk_new #[.int .i64 0, .slice none 0 0] 153).blk_new #[.int .i64 0, .slice none 0 0] 153)
  simp only [List.cons_append, List.nil_append, World.size_alloc] at S0
  have HS := Lib.hid S0
  have d0 := S0.blk_cell (i := 0) rfl 0
  have d1 := S0.blk_cell (i := 0) rfl 1
  have e0 := S0.blk_cell (i := 1) rfl 0
  have e1 := S0.blk_cell (i := 1) rfl 1
  clear S0
  go_enter Tryz.func164, Tryz.ntmps164
  go_wp2_with fail
  clear d0 d1 e0 e1
  refine wp_cls 11 (fun w' => St W w' [blk W.heap.size 153 #[.int .i64 a, .slice none 0 0], blk (W.heap.size + 1) 153 #[.int .i64 b, .slice none 0 0], blk (W.heap.size + 1 + 1) 153 #[.int .i64 0, .slice none 0 0], blk (W.heap.size + 1 + 1 + 1) 153 #[.int .i64 0, .slice none 0 0]]) (by kernel_rfl) (by kernel_rfl) HS.out.drew ?_
  simp only [List.take_succ_cons, List.take_zero, List.drop_succ_cons, List.drop_zero]
  generalize hK : (fun w' => St W w' [blk W.heap.size 153 #[.int .i64 a, .slice none 0 0], blk (W.heap.size + 1) 153 #[.int .i64 b, .slice none 0 0], blk (W.heap.size + 1 + 1) 153 #[.int .i64 0, .slice none 0 0], blk (W.heap.size + 1 + 1 + 1) 153 #[.int .i64 0, .slice none 0 0]]) = K
  intro hne
  have kS : ∀ y : Wd K, St W y.w [blk W.heap.size 153 #[.int .i64 a, .slice none 0 0], blk (W.heap.size + 1) 153 #[.int .i64 b, .slice none 0 0], blk (W.heap.size + 1 + 1) 153 #[.int .i64 0, .slice none 0 0], blk (W.heap.size + 1 + 1 + 1) 153 #[.int .i64 0, .slice none 0 0]] := by subst hK; exact fun y => y.h
  have hK3 : ∀ w w' : World, K w → Below w.heap.size w w' → K w' := by subst hK; exact fun w w' h h' => h.ext h'
  have k0 : ∀ y : Wd K, y.w.cell? ⟨W.heap.size, 0, none⟩ = some (.int .i64 a) := fun y => (kS y).blk_cell (i := 0) rfl 0
  have k1 : ∀ y : Wd K, y.w.cell? ⟨W.heap.size, 1, none⟩ = some (.slice none 0 0) := fun y => (kS y).blk_cell (i := 0) rfl 1
  have k2 : ∀ y : Wd K, y.w.cell? ⟨W.heap.size + 1, 0, none⟩ = some (.int .i64 b) := fun y => (kS y).blk_cell (i := 1) rfl 0
  have k3 : ∀ y : Wd K, y.w.cell? ⟨W.heap.size + 1, 1, none⟩ = some (.slice none 0 0) := fun y => (kS y).blk_cell (i := 1) rfl 1
  have KS := Lib.hid kS
  have HKK := Lib.hid hK3
  clear hK kS hK3
  repeat (go_big_quiet_step ((fail)))
  refine wpQuiet_nil ?_
  intro y
  have SY := Lib.hid (KS.out y)
  clear k0 k1 k2 k3 KS HKK hne HS
  generalize y.w = wy at *
  have e0 := SY.out.blk_cell (i := 2) rfl 0
  have e1 := SY.out.blk_cell (i := 2) rfl 1
  have z0 := SY.out.blk_frozen (i := 2) rfl 0
  have z1 := SY.out.blk_frozen (i := 2) rfl 1
  have f0 := SY.out.blk_cell (i := 3) rfl 0
  have f1 := SY.out.blk_cell (i := 3) rfl 1
  have y0 := SY.out.blk_frozen (i := 3) rfl 0
  have y1 := SY.out.blk_frozen (i := 3) rfl 1
  have S3 := (((SY.out.blk_set (i := 2) rfl 0 (.int .i64 c)).blk_set (i := 2) rfl 1 (.slice none 0 0)).blk_set (i := 3) rfl 0 (.int .i64 r)).blk_set (i := 3) rfl 1 (.slice none 0 0)
  simp only [List.set_cons_succ, List.set_cons_zero] at S3
  have HS3 := Lib.hid S3
  clear S3 SY
  try rw [hc]
  try rw [hr]
  go_wp2_with fail
  exact bodyPost_ret (res_ints _ _ _ (W.heap.size + 1 + 1) (W.heap.size + 1 + 1 + 1) c r Tryz.results164 rfl rfl (HS3.out.blk_cell (i := 2) rfl 0) (HS3.out.blk_cell (i := 2) rfl 1) (HS3.out.blk_cell (i := 3) rfl 0) (HS3.out.blk_cell (i := 3) rfl 1)) rfl ⟨rfl, HS3.out.bel⟩
set_option maxRecDepth 100000 in
set_option maxHeartbeats 1000000 in
theorem quo_any (W : World) (a b c r : Int) (h0 : -9223372036854775807 ≤ a) (h1 : a ≤ 9223372036854775807) (hb : 1 ≤ b) (hc : a.tdiv b = c) (hr : a.tmod b = r) (hc2 : a / b = c) (hr2 : a % b = r) (hr0 : 0 ≤ r) (hcw : IntKind.i64.wrap c = c) : Calls Tryz.prog 143 #[intV a, intV b] W fun e w' => e = .returned (intV c) ∧ Below W.heap.size W w' := by
  have HD := Lib.hid (fun w => divMod_any w a b c r h0 h1 hb hc hr hc2 hr2 hr0 hcw)
  have hsg : max (-1 : Int) (min 1 b) = 1 := by omega
  have S0 := ((((St.refl W).blk_new #[.int .i64 a, .slice none 0 0] 153).blk_new #[.int .i64 b, .slice none 0 0] 153).blk_new #[.int .i64 0, .slice none 0 0] 153)
  simp only [List.cons_append, List.nil_append, World.size_alloc] at S0
  have HS := Lib.hid S0
  have d0 := S0.blk_cell (i := 1) rfl 0
  have d1 := S0.blk_cell (i := 1) rfl 1
  clear S0 h0 h1 hc hr hc2 hr2 hr0 hcw
  go_enter Tryz.func143, Tryz.ntmps143
  go_wp2_with fail
  refine (sign_any _ b).mono ?_
  rintro e w2 ⟨rfl, hb2⟩
  rw [hsg]
  have HS2 := Lib.hid (HS.out.ext hb2)
  clear d0 d1 hb2 HS hsg
  have d0 := HS2.out.blk_cell (i := 0) rfl 0
  have d1 := HS2.out.blk_cell (i := 0) rfl 1
  have e0 := HS2.out.blk_cell (i := 1) rfl 0
  have e1 := HS2.out.blk_cell (i := 1) rfl 1
  go_wp2_with fail
  refine (HD.out _).mono ?_
  rintro e w3 ⟨rfl, hb3⟩
  have S3 := HS2.out.ext hb3
  have S4 := (S3.blk_new #[.int .i64 c, .slice none 0 0] 153).blk_new #[.int .i64 r, .slice none 0 0] 153
  simp only [List.cons_append, List.nil_append, World.size_alloc] at S4
  have f0 := S4.blk_cell (i := 3) rfl 0
  have f1 := S4.blk_cell (i := 3) rfl 1
  have x0 := S4.blk_cell (i := 2) rfl 0
  have x1 := S4.blk_cell (i := 2) rfl 1
  have z0 := S4.blk_frozen (i := 2) rfl 0
  have z1 := S4.blk_frozen (i := 2) rfl 1
  have S5 := (S4.blk_set (i := 2) rfl 0 (.int .i64 c)).blk_set (i := 2) rfl 1 (.slice none 0 0)
  simp only [List.set_cons_succ, List.set_cons_zero] at S5
  have HS5 := Lib.hid S5
  clear S3 S4 S5 hb3 HS2 d0 d1 e0 e1
  go_wp2_with fail
  exact bodyPost_ret (res_int _ 4 _ _ (W.heap.size + 1 + 1) c Tryz.results143 rfl (HS5.out.blk_cell (i := 2) rfl 0) (HS5.out.blk_cell (i := 2) rfl 1)) rfl ⟨rfl, HS5.out.bel⟩
set_option maxRecDepth 100000 in
set_option maxHeartbeats 1000000 in
theorem ngcd_any (W : World) (a b : Int) (h0 : -4611686018427387904 ≤ a) (h1 : a ≤ 4611686018427387904) (h2 : -4611686018427387904 ≤ b) (h3 : b ≤ 4611686018427387904) : Calls Tryz.prog 142 #[intV a, intV b] W fun e w' => e = .returned (intV (Nat.gcd a.natAbs b.natAbs : Int)) ∧ Below W.heap.size W w' := by
  have HA := Lib.hid (fun w => abs_any w a (by omega) (by omega))
  have HB := Lib.hid (fun w => abs_any w b (by omega) (by omega))
  have hab : a.natAbs ≤ 4611686018427387904 ∧ b.natAbs ≤ 4611686018427387904 := by omega
  have S0 := ((((St.refl W).blk_new #[.int .i64 a, .slice none 0 0] 153).blk_new #[.int .i64 b, .slice none 0 0] 153).blk_new #[.int .i64 0, .slice none 0 0] 153)
  simp only [List.cons_append, List.nil_append, World.size_alloc] at S0
  clear h0 h1 h2 h3
  go_enter Tryz.func142, Tryz.ntmps142
  go_wp2_with fail
  obtain ⟨g2, hg2⟩ : ∃ g, g = W.heap.size := ⟨_, rfl⟩
  obtain ⟨g3, hg3⟩ : ∃ g, g = W.heap.size + 1 := ⟨_, rfl⟩
  obtain ⟨g4, hg4⟩ : ∃ g, g = W.heap.size + 1 + 1 := ⟨_, rfl⟩
  have n23 : ¬ g2 = g3 := by omega
  have n32 : ¬ g3 = g2 := by omega
  rw [← hg4, ← hg3, ← hg2] at S0
  rw [← hg4, ← hg3, ← hg2]
  have HS := Lib.hid S0
  clear S0 hg2 hg3 hg4
  generalize ((W.alloc (.cells #[.int .i64 a, .slice none 0 0] 153)).alloc (.cells #[.int .i64 b, .slice none 0 0] 153)).alloc (.cells #[.int .i64 0, .slice none 0 0] 153) = w1 at *
  refine wp_cls 4 (fun w' => St W w' [blk g2 153 #[.int .i64 a, .slice none 0 0], blk g3 153 #[.int .i64 b, .slice none 0 0], blk g4 153 #[.int .i64 0, .slice none 0 0]]) (by kernel_rfl) (by kernel_rfl) HS.out.drew ?_
  simp only [List.take_succ_cons, List.take_zero, List.drop_succ_cons, List.drop_zero]
  generalize hK : (fun w' => St W w' [blk g2 153 #[.int .i64 a, .slice none 0 0], blk g3 153 #[.int .i64 b, .slice none 0 0], blk g4 153 #[.int .i64 0, .slice none 0 0]]) = K
  intro hne
  have kS : ∀ y : Wd K, St W y.w [blk g2 153 #[.int .i64 a, .slice none 0 0], blk g3 153 #[.int .i64 b, .slice none 0 0], blk g4 153 #[.int .i64 0, .slice none 0 0]] := by subst hK; exact fun y => y.h
  have hK3 : ∀ w w' : World, K w → Below w.heap.size w w' → K w' := by subst hK; exact fun w w' h h' => h.ext h'
  have k0 : ∀ y : Wd K, y.w.cell? ⟨g2, 0, none⟩ = some (.int .i64 a) := fun y => (kS y).blk_cell (i := 0) rfl 0
  have k1 : ∀ y : Wd K, y.w.cell? ⟨g2, 1, none⟩ = some (.slice none 0 0) := fun y => (kS y).blk_cell (i := 0) rfl 1
  have k2 : ∀ y : Wd K, y.w.cell? ⟨g3, 0, none⟩ = some (.int .i64 b) := fun y => (kS y).blk_cell (i := 1) rfl 0
  have k3 : ∀ y : Wd K, y.w.cell? ⟨g3, 1, none⟩ = some (.slice none 0 0) := fun y => (kS y).blk_cell (i := 1) rfl 1
  have KS := Lib.hid kS
  have HKK := Lib.hid hK3
  clear hK kS hK3
  go_big_quiet_step ((fail))
  go_big_quiet_step ((go_at_call 163; exact cls_below HKK.out (HA.out _)))
  go_big_quiet_step ((fail))
  go_big_quiet_step ((go_at_call 163; exact cls_below HKK.out (HB.out _)))
  refine wpQuiet_nil ?_
  intro y
  have SY := Lib.hid (KS.out y)
  clear k0 k1 k2 k3 KS HKK hne HS
  generalize y.w = wy at *
  have d0 := SY.out.blk_cell (i := 0) rfl 0
  have d1 := SY.out.blk_cell (i := 0) rfl 1
  have y0 := SY.out.blk_frozen (i := 0) rfl 0
  have y1 := SY.out.blk_frozen (i := 0) rfl 1
  have e0 := SY.out.blk_cell (i := 1) rfl 0
  have e1 := SY.out.blk_cell (i := 1) rfl 1
  have z0 := SY.out.blk_frozen (i := 1) rfl 0
  have z1 := SY.out.blk_frozen (i := 1) rfl 1
  have S3 := (((SY.out.blk_set (i := 0) rfl 0 (.int .i64 (a.natAbs : Int))).blk_set (i := 0) rfl 1 (.slice none 0 0)).blk_set (i := 1) rfl 0 (.int .i64 (b.natAbs : Int))).blk_set (i := 1) rfl 1 (.slice none 0 0)
  simp only [List.set_cons_succ, List.set_cons_zero] at S3
  have HS3 := Lib.hid S3
  clear S3 SY
  go_wp2_with fail
  go_loopw [5] (fun _ w' => ∃ x y : Nat, x ≤ 4611686018427387904 ∧ y ≤ 4611686018427387904 ∧ Hid (Nat.gcd x y = Nat.gcd a.natAbs b.natAbs) ∧ St W w' [blk g2 153 #[.int .i64 (x : Int), .slice none 0 0], blk g3 153 #[.int .i64 (y : Int), .slice none 0 0], blk g4 153 #[.int .i64 0, .slice none 0 0]]) (fun _ w' => match w'.cell? ⟨g3, 0, none⟩ with | some (.int _ y) => y.toNat | _ => 0)
  case atStart => exact ⟨a.natAbs, b.natAbs, hab.1, hab.2, Lib.hid rfl, HS3.out⟩
  case round =>
    obtain ⟨x, y, hx, hy, hg, S⟩ := hrel
    clear HS3 HA HB hab
    have d0 := S.blk_cell (i := 0) rfl 0
    have d1 := S.blk_cell (i := 0) rfl 1
    have e0 := S.blk_cell (i := 1) rfl 0
    have e1 := S.blk_cell (i := 1) rfl 1
    have HS := Lib.hid S
    clear S
    rcases Nat.eq_zero_or_pos y with hy0 | hy0
    · subst hy0
      have HG : Hid ((Nat.gcd a.natAbs b.natAbs : Int) = (x : Int)) := Lib.hid (by rw [← hg.out, Nat.gcd_zero_right])
      go_wp2_with fail
      refine (sign_any _ _).mono ?_
      rintro e w2 ⟨rfl, hb2⟩
      have S2 := HS.out.ext hb2
      clear d0 d1 e0 e1 hb2 HS
      have d0 := S2.blk_cell (i := 0) rfl 0
      have d1 := S2.blk_cell (i := 0) rfl 1
      have e0 := S2.blk_cell (i := 2) rfl 0
      have e1 := S2.blk_cell (i := 2) rfl 1
      have z0 := S2.blk_frozen (i := 2) rfl 0
      have z1 := S2.blk_frozen (i := 2) rfl 1
      have S3 := (S2.blk_set (i := 2) rfl 0 (.int .i64 (x : Int))).blk_set (i := 2) rfl 1 (.slice none 0 0)
      simp only [List.set_cons_succ, List.set_cons_zero] at S3
      have HS3 := Lib.hid S3
      clear S2 S3
      go_wp2_with fail
      rw [HG.out]
      exact bodyPost_ret (res_int _ 4 _ _ g4 x Tryz.results142 rfl (HS3.out.blk_cell (i := 2) rfl 0) (HS3.out.blk_cell (i := 2) rfl 1)) rfl ⟨rfl, HS3.out.bel⟩
    · have hsg : max (-1 : Int) (min 1 (y : Int)) = 1 := by omega
      obtain ⟨r, hr⟩ : ∃ r, r = x % y := ⟨_, rfl⟩
      have hry : r < y := by rw [hr]; exact Nat.mod_lt _ hy0
      obtain ⟨c, hc⟩ : ∃ c, c = x / y := ⟨_, rfl⟩
      have hcx : c ≤ x := by rw [hc]; exact Nat.div_le_self _ _
      have HD : Hid (∀ w, Calls Tryz.prog 164 #[intV (x : Int), intV (y : Int)] w fun e w' => e = .returned (.tuple #[intV (c : Int), intV (r : Int)]) ∧ Below w.heap.size w w') := Lib.hid (fun w => divMod_any w x y c r (by omega) (by omega) (by omega) (by rw [hc]; rfl) (by rw [hr]; rfl) (by rw [hc]; rfl) (by rw [hr]; rfl) (by omega) (IntWalk.i64_in _ (by omega)))
      have HG : Hid (Nat.gcd y r = Nat.gcd a.natAbs b.natAbs) := Lib.hid (by rw [← hg.out, hr, Nat.gcd_comm y, ← Nat.gcd_rec, Nat.gcd_comm])
      clear hr hc hg
      go_wp2_with fail
      refine (sign_any _ _).mono ?_
      rintro e w2 ⟨rfl, hb2⟩
      rw [hsg]
      have HS2 := Lib.hid (HS.out.ext hb2)
      have HM := Lib.hid (show wr.cell? ⟨g3, 0, none⟩ = some (.int .i64 (y : Int)) from e0)
      clear d0 d1 e0 e1 hb2 HS hsg
      have d0 := HS2.out.blk_cell (i := 0) rfl 0
      have d1 := HS2.out.blk_cell (i := 0) rfl 1
      have e0 := HS2.out.blk_cell (i := 1) rfl 0
      have e1 := HS2.out.blk_cell (i := 1) rfl 1
      go_wp2_with fail
      refine (HD.out _).mono ?_
      rintro e w3 ⟨rfl, hb3⟩
      have S4 := ((HS2.out.ext hb3).blk_new #[.int .i64 (c : Int), .slice none 0 0] 153).blk_new #[.int .i64 (r : Int), .slice none 0 0] 153
      simp only [List.cons_append, List.nil_append, World.size_alloc] at S4
      have HS4 := Lib.hid S4
      clear d0 d1 e0 e1 hb3 HS2 S4 HD
      go_wp2_with fail
      obtain ⟨g5, hg5⟩ : ∃ g, g = w3.heap.size := ⟨_, rfl⟩
      obtain ⟨g6, hg6⟩ : ∃ g, g = w3.heap.size + 1 := ⟨_, rfl⟩
      rw [← hg6, ← hg5] at HS4
      rw [← hg6, ← hg5]
      generalize World.alloc (World.alloc w3 _) _ = w4 at *
      clear hg5 hg6
      refine wp_head_tail3 0 3 1 [] [0, 1] rfl (fun w' => ∃ z : Array Value, St W w' [blk g2 153 z, blk g3 153 #[.int .i64 (y : Int), .slice none 0 0], blk g4 153 #[.int .i64 0, .slice none 0 0], blk g5 153 #[.int .i64 (c : Int), .slice none 0 0], blk g6 153 #[.int .i64 (r : Int), .slice none 0 0]])
        (fun a a' w' => a' = a ∧ St W w' [blk g2 153 #[.int .i64 (y : Int), .slice none 0 0], blk g3 153 #[.int .i64 (y : Int), .slice none 0 0], blk g4 153 #[.int .i64 0, .slice none 0 0], blk g5 153 #[.int .i64 (c : Int), .slice none 0 0], blk g6 153 #[.int .i64 (r : Int), .slice none 0 0]]) (by kernel_rfl) (by kernel_rfl) ⟨_, HS4.out.drew⟩ ?_
      simp only [pick, List.filterMap_cons, List.filterMap_nil, List.getElem?_toArray, List.getElem?_cons_succ, List.getElem?_cons_zero]
      have HSD := Lib.hid HS4.out.drew
      generalize hK : (fun w' : World => ∃ z : Array Value, St W w' [blk g2 153 z, blk g3 153 #[.int .i64 (y : Int), .slice none 0 0], blk g4 153 #[.int .i64 0, .slice none 0 0], blk g5 153 #[.int .i64 (c : Int), .slice none 0 0], blk g6 153 #[.int .i64 (r : Int), .slice none 0 0]]) = K
      have kS : ∀ y' : Wd K, ∃ z : Array Value, St W y'.w [blk g2 153 z, blk g3 153 #[.int .i64 (y : Int), .slice none 0 0], blk g4 153 #[.int .i64 0, .slice none 0 0], blk g5 153 #[.int .i64 (c : Int), .slice none 0 0], blk g6 153 #[.int .i64 (r : Int), .slice none 0 0]] := by subst hK; exact fun y => y.h
      have hne : Nonempty (Wd K) := ⟨⟨_, by subst hK; exact ⟨_, HSD.out⟩⟩⟩
      have hKd : ∀ (w' : World) (z : Array Value), St W w' [blk g2 153 z, blk g3 153 #[.int .i64 (y : Int), .slice none 0 0], blk g4 153 #[.int .i64 0, .slice none 0 0], blk g5 153 #[.int .i64 (c : Int), .slice none 0 0], blk g6 153 #[.int .i64 (r : Int), .slice none 0 0]] → K w' := by
        intro w' z h
        subst hK
        exact ⟨z, h⟩
      have k0 : ∀ y' : Wd K, y'.w.cell? ⟨g3, 0, none⟩ = some (.int .i64 (y : Int)) := fun y' => by obtain ⟨z, h⟩ := kS y'; exact h.blk_cell (i := 1) rfl 0
      have k1 : ∀ y' : Wd K, y'.w.cell? ⟨g3, 1, none⟩ = some (.slice none 0 0) := fun y' => by obtain ⟨z, h⟩ := kS y'; exact h.blk_cell (i := 1) rfl 1
      have k2 : ∀ y' : Wd K, y'.w.cell? ⟨g6, 0, none⟩ = some (.int .i64 (r : Int)) := fun y' => by obtain ⟨z, h⟩ := kS y'; exact h.blk_cell (i := 4) rfl 0
      have k3 : ∀ y' : Wd K, y'.w.cell? ⟨g6, 1, none⟩ = some (.slice none 0 0) := fun y' => by obtain ⟨z, h⟩ := kS y'; exact h.blk_cell (i := 4) rfl 1
      clear hK
      generalize w4.drew = w0 at *
      refine wpQuiet_nil ?_
      change wpQuiet _ _ _ _ (_ :: _ :: []) _
      repeat (go_big_quiet_step ((fail)))
      refine wpQuiet_nil ?_
      clear kS k0 k1 k2 k3
      refine ⟨?_, ?_⟩
      · as_aux_lemma =>
        refine headW_all (rs := [2]) (by kernel_rfl) (by decide) (by decide) (List.forall_mem_cons.2 ⟨?_, List.forall_mem_nil _⟩)
        refine wpOp_list (o := _) rfl ?_
        intro Q' hQ'
        have d0 := HSD.out.blk_cell (i := 0) rfl 0
        have d1 := HSD.out.blk_cell (i := 0) rfl 1
        have z0 := HSD.out.blk_frozen (i := 0) rfl 0
        have z1 := HSD.out.blk_frozen (i := 0) rfl 1
        have S5 := (HSD.out.blk_set (i := 0) rfl 0 (.int .i64 (y : Int))).blk_set (i := 0) rfl 1 (.slice none 0 0)
        simp only [List.set_cons_succ, List.set_cons_zero] at S5
        go_wp2_with fail
        refine ⟨hKd _ _ S5, ?_⟩
        exact ⟨by kernel_rfl, by kernel_rfl, S5⟩
      rintro a' w9 ⟨rfl, S9⟩
      have d0 := S9.blk_cell (i := 1) rfl 0
      have d1 := S9.blk_cell (i := 1) rfl 1
      have z0 := S9.blk_frozen (i := 1) rfl 0
      have z1 := S9.blk_frozen (i := 1) rfl 1
      have S5 := (S9.blk_set (i := 1) rfl 0 (.int .i64 (r : Int))).blk_set (i := 1) rfl 1 (.slice none 0 0)
      simp only [List.set_cons_succ, List.set_cons_zero] at S5
      have HS5 := Lib.hid (S5.sub (L' := [_, _, _]) (List.sublist_append_left [_, _, _] [_, _]))
      have hm9 : ((w9.setCell ⟨g3, 0, none⟩ (.int .i64 (r : Int))).setCell ⟨g3, 1, none⟩ (.slice none 0 0)).cell? ⟨g3, 0, none⟩ = some (.int .i64 (r : Int)) := HS5.out.blk_cell (i := 1) rfl 0
      have HM9 := Lib.hid hm9
      clear S9 S5 hKd hne HSD HS4 hm9
      go_wp2_with fail
      refine NoPanic.normal ?_
      go_wp2_with fail
      go_roundw
      case rel => exact ⟨y, r, hy, by omega, HG, HS5.out⟩
      case measure =>
        rw [HM9.out, HM.out]
        show (r : Int).toNat < (y : Int).toNat
        omega
set_option maxRecDepth 100000 in
set_option maxHeartbeats 1000000 in
theorem make_any (W : World) (p q P Q : Int) (g : Nat) (hp : -1000000000000000 ≤ p ∧ p ≤ 1000000000000000) (hq : 2 ≤ q ∧ q ≤ 1000000000000000) (hg : g = Nat.gcd p.natAbs q.natAbs) (hg1 : 1 ≤ g) (hP : p = P * g) (hQ : q = Q * g) (hPb : -1000000000000000 ≤ P ∧ P ≤ 1000000000000000) (hQb : 1 ≤ Q ∧ Q ≤ 1000000000000000) : Calls Tryz.prog 101 #[intV p, intV q] W fun e w' => e = .returned (fracV P Q) ∧ Below W.heap.size W w' := by
  have hn := eqlU_nil
  have HG : Hid (∀ w, Calls Tryz.prog 142 #[intV p, intV q] w fun e w' => e = .returned (intV (g : Int)) ∧ Below w.heap.size w w') := Lib.hid (fun w => by rw [hg]; exact ngcd_any w p q (by omega) (by omega) (by omega) (by omega))
  have HQ1 : Hid (∀ w, Calls Tryz.prog 143 #[intV p, intV (g : Int)] w fun e w' => e = .returned (intV P) ∧ Below w.heap.size w w') := Lib.hid (fun w => quo_any w p g P 0 (by omega) (by omega) (by omega) (by rw [hP]; exact Int.mul_tdiv_cancel _ (by omega)) (by rw [hP]; exact Int.mul_tmod_left _ _) (by rw [hP]; exact Int.mul_ediv_cancel _ (by omega)) (by rw [hP]; exact Int.mul_emod_left _ _) (by omega) (IntWalk.i64_in _ (by omega)))
  have HQ2 : Hid (∀ w, Calls Tryz.prog 143 #[intV q, intV (g : Int)] w fun e w' => e = .returned (intV Q) ∧ Below w.heap.size w w') := Lib.hid (fun w => quo_any w q g Q 0 (by omega) (by omega) (by omega) (by rw [hQ]; exact Int.mul_tdiv_cancel _ (by omega)) (by rw [hQ]; exact Int.mul_tmod_left _ _) (by rw [hQ]; exact Int.mul_ediv_cancel _ (by omega)) (by rw [hQ]; exact Int.mul_emod_left _ _) (by omega) (IntWalk.i64_in _ (by omega)))
  have hsg : max (-1 : Int) (min 1 q) = 1 := by omega
  have hq1 : (q == 1) = false := by simp; omega
  clear hg hg1 hP hQ hp hq hPb hQb
  have S0 := ((St.refl W).blk_new #[.int .i64 p, .slice none 0 0] 153).blk_new #[.int .i64 q, .slice none 0 0] 153 |>.blk_new #[.int .i64 0, .slice none 0 0, .int .i64 0, .slice none 0 0] 155
  simp only [List.cons_append, List.nil_append, World.size_alloc] at S0
  have d0 := S0.blk_cell (i := 1) rfl 0
  have d1 := S0.blk_cell (i := 1) rfl 1
  go_enter Tryz.func101, Tryz.ntmps101
  go_wp2_with fail
  obtain ⟨g2, hg2⟩ : ∃ g, g = W.heap.size := ⟨_, rfl⟩
  obtain ⟨g3, hg3⟩ : ∃ g, g = W.heap.size + 1 := ⟨_, rfl⟩
  obtain ⟨g4, hg4⟩ : ∃ g, g = W.heap.size + 1 + 1 := ⟨_, rfl⟩
  rw [← hg4, ← hg3, ← hg2] at S0
  rw [← hg4, ← hg3, ← hg2]
  have HS := Lib.hid S0
  clear S0 hg2 hg3 hg4 d0 d1
  generalize World.alloc (World.alloc (World.alloc W _) _) _ = w1 at *
  refine (sign_any _ q).mono ?_
  rintro e w2 ⟨rfl, hb2⟩
  rw [hsg]
  have HS2 := Lib.hid (HS.out.ext hb2)
  clear hb2 HS hsg
  have d0 := HS2.out.blk_cell (i := 0) rfl 0
  have d1 := HS2.out.blk_cell (i := 0) rfl 1
  have e0 := HS2.out.blk_cell (i := 1) rfl 0
  have e1 := HS2.out.blk_cell (i := 1) rfl 1
  go_wp2_with fail
  refine (HG.out _).mono ?_
  rintro e w3 ⟨rfl, hb3⟩
  have S4 := (HS2.out.ext hb3).blk_new #[.int .i64 (g : Int), .slice none 0 0] 153
  simp only [List.cons_append, List.nil_append] at S4
  have HS4 := Lib.hid S4
  clear d0 d1 e0 e1 hb3 HS2 S4 HG hq1 hn
  go_wp2_with fail
  generalize w3.heap.size = g5 at *
  generalize World.alloc w3 _ = w4 at *
  refine wp_cls 7 (fun w' => St W w' [blk g2 153 #[.int .i64 p, .slice none 0 0], blk g3 153 #[.int .i64 q, .slice none 0 0], blk g4 155 #[.int .i64 0, .slice none 0 0, .int .i64 0, .slice none 0 0], blk g5 153 #[.int .i64 (g : Int), .slice none 0 0]]) (by kernel_rfl) (by kernel_rfl) HS4.out.drew ?_
  simp only [List.take_succ_cons, List.take_zero, List.drop_succ_cons, List.drop_zero]
  generalize hK : (fun w' => St W w' [blk g2 153 #[.int .i64 p, .slice none 0 0], blk g3 153 #[.int .i64 q, .slice none 0 0], blk g4 155 #[.int .i64 0, .slice none 0 0, .int .i64 0, .slice none 0 0], blk g5 153 #[.int .i64 (g : Int), .slice none 0 0]]) = K
  intro hne
  have kS : ∀ y : Wd K, St W y.w [blk g2 153 #[.int .i64 p, .slice none 0 0], blk g3 153 #[.int .i64 q, .slice none 0 0], blk g4 155 #[.int .i64 0, .slice none 0 0, .int .i64 0, .slice none 0 0], blk g5 153 #[.int .i64 (g : Int), .slice none 0 0]] := by subst hK; exact fun y => y.h
  have hK3 : ∀ w w' : World, K w → Below w.heap.size w w' → K w' := by subst hK; exact fun w w' h h' => h.ext h'
  have k0 : ∀ y : Wd K, y.w.cell? ⟨g2, 0, none⟩ = some (.int .i64 p) := fun y => (kS y).blk_cell (i := 0) rfl 0
  have k1 : ∀ y : Wd K, y.w.cell? ⟨g2, 1, none⟩ = some (.slice none 0 0) := fun y => (kS y).blk_cell (i := 0) rfl 1
  have k2 : ∀ y : Wd K, y.w.cell? ⟨g3, 0, none⟩ = some (.int .i64 q) := fun y => (kS y).blk_cell (i := 1) rfl 0
  have k3 : ∀ y : Wd K, y.w.cell? ⟨g3, 1, none⟩ = some (.slice none 0 0) := fun y => (kS y).blk_cell (i := 1) rfl 1
  have k4 : ∀ y : Wd K, y.w.cell? ⟨g5, 0, none⟩ = some (.int .i64 (g : Int)) := fun y => (kS y).blk_cell (i := 3) rfl 0
  have k5 : ∀ y : Wd K, y.w.cell? ⟨g5, 1, none⟩ = some (.slice none 0 0) := fun y => (kS y).blk_cell (i := 3) rfl 1
  have KS := Lib.hid kS
  have HKK := Lib.hid hK3
  clear hK kS hK3
  go_big_quiet_step ((fail))
  go_big_quiet_step ((fail))
  go_big_quiet_step ((go_at_call 143; exact cls_below HKK.out (HQ1.out _)))
  go_big_quiet_step ((fail))
  go_big_quiet_step ((fail))
  go_big_quiet_step ((go_at_call 143; exact cls_below HKK.out (HQ2.out _)))
  go_big_quiet_step ((fail))
  refine wpQuiet_nil ?_
  intro y
  have SY := Lib.hid (KS.out y)
  clear k0 k1 k2 k3 k4 k5 KS HKK hne HS4
  generalize y.w = wy at *
  have e0 := SY.out.blk_cell (i := 2) rfl 0
  have e1 := SY.out.blk_cell (i := 2) rfl 1
  have e2 := SY.out.blk_cell (i := 2) rfl 2
  have e3 := SY.out.blk_cell (i := 2) rfl 3
  have z0 := SY.out.blk_frozen (i := 2) rfl 0
  have z1 := SY.out.blk_frozen (i := 2) rfl 1
  have z2 := SY.out.blk_frozen (i := 2) rfl 2
  have z3 := SY.out.blk_frozen (i := 2) rfl 3
  have S3 := (((SY.out.blk_set (i := 2) rfl 0 (.int .i64 P)).blk_set (i := 2) rfl 1 (.slice none 0 0)).blk_set (i := 2) rfl 2 (.int .i64 Q)).blk_set (i := 2) rfl 3 (.slice none 0 0)
  simp only [List.set_cons_succ, List.set_cons_zero] at S3
  have HS3 := Lib.hid S3
  clear S3 SY
  go_wp2_with fail
  exact bodyPost_ret (res_frac _ 4 _ _ g4 P Q Tryz.results101 rfl (HS3.out.blk_cell (i := 2) rfl 0) (HS3.out.blk_cell (i := 2) rfl 1) (HS3.out.blk_cell (i := 2) rfl 2) (HS3.out.blk_cell (i := 2) rfl 3)) rfl ⟨rfl, HS3.out.bel⟩
set_option maxRecDepth 100000 in
set_option maxHeartbeats 1000000 in
theorem textq_any (W : World) (p q : Int) (tp tq : ByteArray) (hq : q ≠ 1) (hp : ItoaAt p tp W) (hqq : ItoaAt q tq W) (h1 : tp.size ≤ 1000) (h2 : tq.size ≤ 1000) : Calls Tryz.prog 139 #[fracV p q] W fun e w' => e = .returned (.string (tp ++ tB [47] ++ tq)) ∧ Below W.heap.size W w' := by
  have S0 := (St.refl W).blk_new #[.int .i64 p, .slice none 0 0, .int .i64 q, .slice none 0 0] 155
  simp only [List.nil_append] at S0
  have HP := Lib.hid hp
  have HQ := Lib.hid hqq
  have hqb : (q == 1) = false := by simpa using hq
  clear hp hqq hq
  go_enter Tryz.func139, Tryz.ntmps139
  have d0 := S0.blk_cell (i := 0) rfl 0
  have d1 := S0.blk_cell (i := 0) rfl 1
  have d2 := S0.blk_cell (i := 0) rfl 2
  have d3 := S0.blk_cell (i := 0) rfl 3
  have HS := Lib.hid S0
  have HSP : Hid (∀ w, Below W.heap.size W w → Calls Tryz.prog 160 #[intV p] w fun e w' => e = .returned (.string tp) ∧ Below w.heap.size w w') := Lib.hid (fun w hb => string_any w p tp (fun w' hb' => HP.out w' (hb.trans (hb'.mono hb.size))))
  have HSQ : Hid (∀ w, Below W.heap.size W w → Calls Tryz.prog 160 #[intV q] w fun e w' => e = .returned (.string tq) ∧ Below w.heap.size w w') := Lib.hid (fun w hb => string_any w q tq (fun w' hb' => HQ.out w' (hb.trans (hb'.mono hb.size))))
  clear S0 HP HQ
  go_wp2_with fail
  refine (isWhole_any _ p q).mono ?_
  rintro e w2 ⟨rfl, hb2⟩
  rw [hqb]
  have HS2 := Lib.hid (HS.out.ext hb2)
  clear d0 d1 d2 d3 hb2 HS
  go_wp2_with fail
  refine wp_cls 8 (fun w' => St W w' [blk W.heap.size 155 #[.int .i64 p, .slice none 0 0, .int .i64 q, .slice none 0 0]]) (by kernel_rfl) (by kernel_rfl) HS2.out.drew ?_
  simp only [List.take_succ_cons, List.take_zero, List.drop_succ_cons, List.drop_zero]
  generalize hK : (fun w' => St W w' [blk W.heap.size 155 #[.int .i64 p, .slice none 0 0, .int .i64 q, .slice none 0 0]]) = K
  intro hne
  have kS : ∀ y : Wd K, St W y.w [blk W.heap.size 155 #[.int .i64 p, .slice none 0 0, .int .i64 q, .slice none 0 0]] := by subst hK; exact fun y => y.h
  have hK3 : ∀ w w' : World, K w → Below w.heap.size w w' → K w' := by subst hK; exact fun w w' h h' => h.ext h'
  have k0 : ∀ y : Wd K, y.w.cell? ⟨W.heap.size, 0, none⟩ = some (.int .i64 p) := fun y => (kS y).blk_cell (i := 0) rfl 0
  have k1 : ∀ y : Wd K, y.w.cell? ⟨W.heap.size, 1, none⟩ = some (.slice none 0 0) := fun y => (kS y).blk_cell (i := 0) rfl 1
  have k2 : ∀ y : Wd K, y.w.cell? ⟨W.heap.size, 2, none⟩ = some (.int .i64 q) := fun y => (kS y).blk_cell (i := 0) rfl 2
  have k3 : ∀ y : Wd K, y.w.cell? ⟨W.heap.size, 3, none⟩ = some (.slice none 0 0) := fun y => (kS y).blk_cell (i := 0) rfl 3
  have KS := Lib.hid kS
  have HKK := Lib.hid hK3
  clear hK kS hK3
  go_big_quiet_step ((fail))
  go_big_quiet_step ((fail))
  go_big_quiet_step ((go_at_call 160; exact cls_below HKK.out (HSP.out _ (KS.out _).bel)))
  go_big_quiet_step ((fail))
  go_big_quiet_step ((fail))
  go_big_quiet_step ((fail))
  go_big_quiet_step ((go_at_call 160; exact cls_below HKK.out (HSQ.out _ (KS.out _).bel)))
  go_big_quiet_step ((fail))
  refine wpQuiet_nil ?_
  intro y
  have SY := Lib.hid (KS.out y)
  clear k0 k1 k2 k3 KS HKK hne HS2
  generalize y.w = wy at *
  go_wp2_with fail
  go_ret
  exact ⟨rfl, SY.out.bel⟩
set_option maxRecDepth 100000 in
set_option maxHeartbeats 1000000 in
theorem cresultq_any (W : World) (p q : Int) (tp tq : ByteArray) (hq : q ≠ 1) (hpb : -1000000000000000 ≤ p ∧ p ≤ 1000000000000000) (hqb : 1 ≤ q ∧ q ≤ 1000000000000000) (hp : ItoaAt p tp W) (hqq : ItoaAt q tq W) (h1 : tp.size ≤ 1000) (h2 : tq.size ≤ 1000) : Calls Tryz.prog 100 #[fracV p q] W fun e w' => e = .returned (.tuple #[.string (tp ++ tB [47] ++ tq), .int .i64 0]) ∧ Below W.heap.size W w' := by
  have hb := (Below.refl W.heap.size W).alloc (Nat.le_refl _) (.cells #[.int .i64 p, .slice none 0 0, .int .i64 q, .slice none 0 0] 155)
  have S0 := (St.refl W).blk_new #[.int .i64 p, .slice none 0 0, .int .i64 q, .slice none 0 0] 155
  have HT := Lib.hid hp
  have HT2 := Lib.hid hqq
  have HLG := Lib.hid (fun w => large_any w p q (by omega) (by omega) (by omega) (by omega))
  clear hp hqq
  go_enter Tryz.func100, Tryz.ntmps100
  go_wp2_with fail
  refine (HLG.out _).mono ?_
  rintro e w2 ⟨rfl, hb2⟩
  have S2 := S0.ext hb2
  have e0 := S2.blk_cell (i := 0) rfl 0
  have e1 := S2.blk_cell (i := 0) rfl 1
  have e2 := S2.blk_cell (i := 0) rfl 2
  have e3 := S2.blk_cell (i := 0) rfl 3
  have hb3 := S2.bel
  have HX := Lib.hid (textq_any w2 p q tp tq hq (fun w hw => HT.out w (hb3.trans (hw.mono hb3.size))) (fun w hw => HT2.out w (hb3.trans (hw.mono hb3.size))) h1 h2)
  clear S0 S2 hb2 hq
  go_wp2_with fail
  refine HX.out.mono ?_
  rintro e w3 ⟨rfl, hb4⟩
  go_wp2
  go_ret2
  exact ⟨rfl, hb3.trans (hb4.mono hb3.size)⟩
set_option maxRecDepth 100000 in
set_option maxHeartbeats 1000000 in
theorem cof_any (W : World) (p q : Int) (hp : -1000000000000000 ≤ p ∧ p ≤ 1000000000000000) (hq : 1 ≤ q ∧ q ≤ 1000000000000000) (hI : ∀ s, -1000000000000000 ≤ s → s ≤ 1000000000000000 → ItoaAt s (tB (Lib.itoa s)) W) : Calls Tryz.prog 48 #[.int .i64 p, .int .i64 q] W fun e w' => e = .returned (.tuple #[.string (tB (txtL p q)), .int .i64 0]) ∧ Below W.heap.size W w' := by
  obtain ⟨g, P, Q, hg1, hgg, hP, hQ, hQ1, hcop, hPa, hQa, htx⟩ := low_terms p q hq.1
  have hPb : -1000000000000000 ≤ P ∧ P ≤ 1000000000000000 := by omega
  have hQb : 1 ≤ Q ∧ Q ≤ 1000000000000000 := by omega
  have HQP := Lib.hid (hI P hPb.1 hPb.2)
  have HQQ := Lib.hid (hI Q (by omega) hQb.2)
  have hitl : ∀ z : Int, -1000000000000000 ≤ z → z ≤ 1000000000000000 → (tB (Lib.itoa z)).size ≤ 1000 := fun z h1 h2 => by
    rw [tB_size]
    exact itoa_len h1 h2
  have HMK : Hid (∀ w, Calls Tryz.prog 101 #[intV p, intV q] w fun e w' => e = .returned (fracV P Q) ∧ Below w.heap.size w w') := Lib.hid (fun w => by
    by_cases h1 : q = 1
    · subst h1
      have hg : g = 1 := by rw [hgg]; simp
      subst hg
      have e1 : P = p := by rw [hP]; simp
      have e2 : Q = 1 := by have := hQ; simp at this; omega
      rw [e1, e2]
      exact make1_any w p
    · exact make_any w p q P Q g hp (by omega) hgg hg1 hP hQ hPb hQb)
  have HRS : Hid (∀ w, Below W.heap.size W w → Calls Tryz.prog 100 #[fracV P Q] w fun e w' => e = .returned (.tuple #[.string (tB (txtL p q)), .int .i64 0]) ∧ Below w.heap.size w w') := Lib.hid (fun w hb => by
    by_cases h1 : Q = 1
    · rw [h1, htx, if_pos h1, List.append_nil]
      exact cresult1_any w P (tB (Lib.itoa P)) (by omega) (by omega) (fun w' hb' => HQP.out w' (hb.trans (hb'.mono hb.size)))
    · rw [htx, if_neg h1, show Lib.itoa P ++ 47 :: Lib.itoa Q = Lib.itoa P ++ [47] ++ Lib.itoa Q by simp, ← tB_app, ← tB_app]
      exact cresultq_any w P Q _ _ h1 hPb hQb (fun w' hb' => HQP.out w' (hb.trans (hb'.mono hb.size))) (fun w' hb' => HQQ.out w' (hb.trans (hb'.mono hb.size))) (hitl P hPb.1 hPb.2) (hitl Q (by omega) hQb.2))
  have hq0 : (q == 0) = false := by simp; omega
  clear hI hgg hP hQ htx hcop hitl HQP HQQ
  go_enter Tryz.func48, Tryz.ntmps48
  go_wp2_with fail
  refine (numOf_any _ p).mono ?_
  rintro e w2 ⟨rfl, hb2⟩
  go_wp2_with fail
  refine (numOf_any _ q).mono ?_
  rintro e w3 ⟨rfl, hb3⟩
  go_wp2_with fail
  refine (HMK.out _).mono ?_
  rintro e w4 ⟨rfl, hb4⟩
  have hb := hb2.trans ((hb3.trans (hb4.mono hb3.size)).mono hb2.size)
  have HX := Lib.hid (HRS.out w4 hb)
  go_wp2_with fail
  refine HX.out.mono ?_
  rintro e w5 ⟨rfl, hb5⟩
  go_wp2
  go_ret2
  exact ⟨rfl, hb.trans (hb5.mono hb.size)⟩
end Go.Proofs.YtlffgdmljioaoaaGreatDoor
/- Walks: slices.Index and Contains of ints; the program's CheckCycle. -/
namespace Go.Proofs.YtlffgdmljioaoaaGreatDoor
open Go.RowKit Go.Mem Go.Sheet
end Go.Proofs.YtlffgdmljioaoaaGreatDoor
/- Walks: the program's checkCycle. -/
namespace Go.Sheet
theorem matOk_of {m : IMat} (h : matE m = 0) : MatOk m.length m := by
  obtain ⟨h1, h2⟩ := matE_ok h
  refine ⟨rfl, fun r hr => (h2 r hr).1, fun i k hi hk => ?_⟩
  have hr : m[i] ∈ m := List.getElem_mem hi
  have hl := (h2 _ hr).1
  have e3 : m[i]? = some m[i] := List.getElem?_eq_getElem hi
  have hkl : k < m[i].length := by rw [hl]; exact hk
  have e4 : m[i][k]? = some m[i][k] := List.getElem?_eq_getElem hkl
  have e5 : at2 m i k = m[i][k] := by
    rw [at2, List.getD_eq_getElem?_getD, List.getD_eq_getElem?_getD, e3]
    show ((m[i])[k]?).getD 0 = _
    rw [e4]; rfl
  rw [e5]
  have he := (h2 _ hr).2 _ (List.getElem_mem hkl)
  rw [entryE_outB] at he
  by_cases hn : m[i][k] = -1000000000
  · exact .inl hn
  · rw [if_neg hn] at he
    cases hb : outB m[i][k] (-999999999) 999999999 with
    | true => rw [hb] at he; simp at he
    | false => exact .inr (outB_false.1 hb)
end Go.Sheet
namespace Go.Proofs.YtlffgdmljioaoaaGreatDoor
open Go.RowKit Go.Mem Go.Sheet
end Go.Proofs.YtlffgdmljioaoaaGreatDoor
