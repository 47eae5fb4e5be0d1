/- Part 11 of the walks of the golf union's program: LM4. -/
import Derived.Test.YtkkkfjinflepmaaGreatDoorB07
import Derived.Test.YtkkkfjinflepmaaGreatDoorB10
import Derived.Test.YtkkkfjinflepmaaGreatDoorB03
set_option linter.unusedVariables false
set_option linter.unusedSimpArgs false
set_option linter.unusedSectionVars false
set_option linter.constructorNameAsVariable false
/- Chapter 5: the program's check of players, where they are without an error. -/
namespace Go.Mem
open Go.RowKit Go.MapKept
theorem run_lookupS_none {P : Program} {w : World} (t : TypeId) (k e : TypeId) (hk : P.underlying k = some .string) (ht : P.underlying t = some (.map k e)) (hz : ∀ w, (zeroValue e).run P w = .ok (.bool false) w) {b clock : Nat} {es : Array MapEntry} (hb : w.heap[b]? = some (.map es clock))
    (key : ByteArray) (hf : Instr.findNow .string (.string key) es.toList 0 = some none) :
    (Instr.lookup t (.map (some b)) (.string key) false).run P w = .ok (.bool false) w := by
  have hkk : IsKey .string (.string key) := trivial
  simp [Instr.lookup, run_underlying ht, MapKept.run_getObj_map hb, MapKept.run_checkKey hk hkk, MapKept.run_findKey hk hf, Result.andThen, hz]
theorem wpList_mapUpdate_new {P : Program} {W w : World} {L : List Asr} {i : Nat} {ops : Array Oper} {rest : List Oper} {o : Oper} {a : Act} {Q : Exit → Act → World → Prop}
    (hg : o.guard = none) (m x v : Operand) (t : TypeId) (hop : o.op = Op.mapUpdate t m x v)
    (k e : TypeId) (hk : P.underlying k = some .string) (ht : P.underlying t = some (.map k e))
    {b clock : Nat} {es : Array MapEntry} (S : St W w L) (hi : L[i]? = some (mapS b es clock)) (hm : a.eval m = .map (some b)) (key : ByteArray) (hx : a.eval x = .string key)
    (hf : Instr.findNow .string (.string key) es.toList 0 = some none) (val : Value) (hv : a.eval v = val)
    (hK : ∀ w', St W w' (L.set i (mapS b (es.push { key := .string key, val := val, born := clock }) (clock + 1))) → wpList P ops Q rest (a.put o.dst undef) w') : wpList P ops Q (o :: rest) a w := by
  obtain ⟨F1, h1, ⟨hb, hF⟩, h3⟩ := S.upd hi
  have hrun : (Instr.mapUpdate t (.map (some b)) (.string key) val).run P w = .ok () (w.putObj b (.map (es.push { key := .string key, val := val, born := clock }) (clock + 1))) := by
    have hkk : IsKey .string (.string key) := trivial
    simp [Instr.mapUpdate, run_underlying ht, MapKept.run_getObj_map hb, MapKept.run_checkKey hk hkk, MapKept.run_findKey hk hf, MapKept.run_setObj_map _ hb, Result.andThen]
    rfl
  have hlt := (Array.getElem?_eq_some_iff.1 hb).1
  have hat : (w.putObj b (.map (es.push { key := .string key, val := val, born := clock }) (clock + 1))).heap[b]? = some (.map (es.push { key := .string key, val := val, born := clock }) (clock + 1)) := by
    show (w.heap.setIfInBounds b _)[b]? = _
    simp [hlt]
  refine wpList_plain hg fun K' hK' => ?_
  unfold Oper.wp
  simp [execOp, hop, hm, hx, hv, hrun, Result.andThen]
  exact hK' _ _ (hK _ (h3 _ _ F1 (some b) ⟨hat, hF⟩ (grownBy_putObj' w b _) (fun g hg => by cases hg; exact hF) (fun b hb => .inl hb)))
/-- a map whose keys are the first k names, each with true -/
def seenE (f : Nat → ByteArray) (k : Nat) : Array MapEntry := ((List.range k).map fun i => ({ key := .string (f i), val := .bool true, born := i } : MapEntry)).toArray
theorem seenE_push (f : Nat → ByteArray) (k : Nat) : (seenE f k).push { key := .string (f k), val := .bool true, born := k } = seenE f (k + 1) := by
  unfold seenE
  rw [List.range_succ, List.map_append]
  simp
theorem seen_none {f : Nat → ByteArray} {key : ByteArray} : ∀ (l : List Nat) (j : Nat), (∀ i ∈ l, f i ≠ key) → Instr.findNow .string (.string key) (l.map fun i => ({ key := .string (f i), val := .bool true, born := i } : MapEntry)) j = some none
  | [], _, _ => rfl
  | i :: l, j, h => by
    have h1 : Instr.sameNow .string (.string key) (.string (f i)) = some false := by
      have := h i (by simp)
      show some (key == f i) = some false
      have hb : (key == f i) = false := by
        rw [Bool.eq_false_iff]
        intro e
        apply this
        generalize f i = z at *
        obtain ⟨d⟩ := key
        obtain ⟨d'⟩ := z
        have : (d == d') = true := e
        rw [eq_of_beq this]
      rw [hb]
    rw [List.map_cons, Instr.findNow]
    simp only [h1]
    exact seen_none l (j + 1) fun i hi => h i (by simp [hi])
theorem seenE_none {f : Nat → ByteArray} {key : ByteArray} {k : Nat} (h : ∀ i, i < k → f i ≠ key) : Instr.findNow .string (.string key) (seenE f k).toList 0 = some none := by
  unfold seenE
  exact seen_none _ 0 fun i hi => h i (List.mem_range.1 hi)
end Go.Mem
namespace Go.Proofs.YtkkkfjinflepmaaGreatDoor
open Go.RowKit Go.Mem Go.Sheet Go.Adj
set_option maxRecDepth 100000 in
set_option maxHeartbeats 4000000 in
theorem checkPlayers_ok (W : World) (v vp : Value) (n m : Nat) (hs : List HI) (ps : List PI) (h : Rd W (· < W.heap.size) 2 v n (hs.flatMap HI.cells)) (hp : RdPl W (· < W.heap.size) vp m ps) (hg : GoodPs hs ps m) (hm : m ≤ 200) :
    Calls Tryz.prog 83 #[v, vp] W fun e w' => e = .returned (.int .i64 0) ∧ Below W.heap.size W w' := by
  have hl : n = hs.length := h.count (f := HI.cells) (size := 2) (fun _ => rfl) (by decide)
  obtain ⟨A, c, rfl, _, _, _⟩ := h.open_
  obtain ⟨Ap, cp, rfl, _, _, _⟩ := hp.1.open_
  have H := Lib.hid h
  have HPL := Lib.hid hp
  have HG := Lib.hid hg
  have HL := Lib.hid hl
  clear h hp hg hl
  have S0 := (St.refl W).mapS_new
  simp only [List.nil_append] at S0
  have hmm := @run_makeMap Tryz.prog
  go_enter Tryz.func83, Tryz.ntmps83
  go_wp2
  generalize hB : W.heap.size = gm at S0 ⊢
  have HB := Lib.hid hB
  clear hB hmm
  generalize W.alloc (.map #[] 0) = W1 at *
  go_loopw [12] (fun i w' => ∃ k : Nat, k ≤ m ∧ i = .int .i64 k ∧ St W w' [mapS gm (seenE (fun i => (pAt ps i).name) k) k]) (fun i _ => m - (intOf i).toNat)
  case atStart => exact ⟨0, Nat.zero_le _, rfl, S0⟩
  case round =>
    obtain ⟨k, hk, rfl, S⟩ := hrel
    clear S0
    by_cases hlt : k < m
    · obtain ⟨b, o, x, hA, hx, c0, c1, c2⟩ := (HPL.out.later S.bel).elem hlt
      subst hA
      have hxp := (HPL.out.later S.bel).2 x (List.mem_of_getElem? hx)
      have hgx := HG.out.ok k hlt
      have hnone : Instr.findNow .string (.string x.name) (seenE (fun i => (pAt ps i).name) k).toList 0 = some none := seenE_none fun i hi => by
        have := HG.out.two k i hlt hi
        rwa [pAt_eq hx] at this
      have hpush := seenE_push (fun i => (pAt ps i).name) k
      rw [pAt_eq hx] at hgx hpush
      obtain ⟨⟨g1, g2, g3, g4⟩, g5, g6⟩ := hgx
      have hmn : x.m = n := g3.trans HL.out.symm
      have HCE : Hid (∀ w, Below W.heap.size W w → CEnv w (.slice A n c) (.slice x.a x.m x.c) n hs x.es x.name) := fun w hb => by
        have := ((HPL.out.later hb).2 x (List.mem_of_getElem? hx))
        rw [hmn] at this ⊢
        exact ⟨H.out.later hb, this.1, g1, g2, this.2, by rwa [hmn] at g4⟩
      have hco : -99 ≤ x.co ∧ x.co ≤ 99 := ⟨g5, g6⟩
      have HPU := Lib.hid hpush
      have HNO := Lib.hid hnone
      clear hx hxp g1 g2 g3 g4 g5 g6 hpush hnone hmn
      obtain ⟨xn, xa, xm, xc, xes, xco⟩ := x
      simp only at c0 c1 c2 HCE hco HPU HNO
      have SA := (S.blk_new #[.string xn, .slice xa xm xc, .int .i64 xco] 37).drew
      simp only [List.cons_append, List.nil_append] at SA
      have HS := Lib.hid SA
      clear S
      generalize hes : seenE (fun i => (pAt ps i).name) k = es at *
      go_wp2_with fail
      generalize hgx : wr.heap.size = gx at *
      clear c0 c1 c2 hgx
      refine wp_cls 9 (fun w' => St W w' [mapS gm es k, blk gx 37 #[.string xn, .slice xa xm xc, .int .i64 xco]]) (by kernel_rfl) (by kernel_rfl) SA ?_
      simp only [List.take_succ_cons, List.take_zero, List.drop_succ_cons, List.drop_zero]
      generalize hK : (fun w' => St W w' [mapS gm es k, blk gx 37 #[.string xn, .slice xa xm xc, .int .i64 xco]]) = K
      intro hne
      have kS : ∀ y : Wd K, St W y.w [mapS gm es k, blk gx 37 #[.string xn, .slice xa xm xc, .int .i64 xco]] := by subst hK; exact fun y => y.h
      have hK3 : ∀ w w' : World, K w → Below w.heap.size w w' → K w' := by subst hK; exact fun w w' h h' => h.ext h'
      have k0 : ∀ y : Wd K, y.w.cell? ⟨gx, 0, none⟩ = some (.string xn) := fun y => (kS y).blk_cell (i := 1) rfl 0
      have k1 : ∀ y : Wd K, y.w.cell? ⟨gx, 1, none⟩ = some (.slice xa xm xc) := fun y => (kS y).blk_cell (i := 1) rfl 1
      have k2 : ∀ y : Wd K, y.w.cell? ⟨gx, 2, none⟩ = some (.int .i64 xco) := fun y => (kS y).blk_cell (i := 1) rfl 2
      have k3 : ∀ y : Wd K, (Instr.lookup 109 (.map (some gm)) (.string xn) false).run Tryz.prog y.w = .ok (.bool false) y.w := fun y =>
        run_lookupS_none 109 9 4 Tryz.underlying9 Tryz.underlying109 zeroB ((kS y).mapS_at (i := 0) rfl) xn HNO.out
      have HCP : Hid (∀ y : Wd K, Calls Tryz.prog 111 #[.slice A n c, .agg #[.string xn, .slice xa xm xc, .int .i64 xco]] y.w fun e w' => e = .returned (.int .i64 0) ∧ Below y.w.heap.size y.w w') := fun y =>
        checkPlayer_ok y.w _ _ n hs xes xn xco hco (HCE.out _ (kS y).bel)
      have KS := Lib.hid kS
      clear hK kS SA HS
      iterate 2 (go_big_quiet_step ((fail)))
      go_big_quiet_step ((go_at_call 111; exact cls_below hK3 (HCP.out _)))
      iterate 5 (go_big_quiet_step ((fail)))
      go_big_quiet_step ((go_at_call 62; exact cls_same (formatNo _ _)))
      refine wpQuiet_nil ?_
      intro y
      have SY := Lib.hid (KS.out y)
      clear k0 k1 k2 k3 HCP KS hK3 hne
      generalize y.w = wy at *
      have SZ := SY.out.alloc (.cells #[.int .i64 0, .int .i64 0] 48)
      have z0 := SZ.blk_cell (i := 1) rfl 0
      have HSZ := Lib.hid SZ
      clear SZ
      go_wp2_with (first
        | (go_at_call 61; refine (formatOk2 _ _ (by simp) (by simp) (by simp)).mono ?_; rintro e w' ⟨rfl, rfl⟩)
        | (at_mapUpdate; refine wpList_mapUpdate_new rfl _ _ _ 109 rfl 9 4 Tryz.underlying9 Tryz.underlying109 HSZ.out (i := 0) rfl rfl xn rfl HNO.out (.bool true) rfl ?_; intro w6 S6))
      rw [HPU.out] at S6
      have S7 := S6.sub (L' := [_]) (List.sublist_append_left [_] [_])
      go_roundw
      case rel => exact ⟨k + 1, by omega, by go_num, S7⟩
      case measure => simp [intOf]; omega
    · have HS := Lib.hid S
      clear S
      go_wp2
      go_ret
      exact ⟨rfl, HS.out.bel⟩
end Go.Proofs.YtkkkfjinflepmaaGreatDoor
