/- Part 14 of the walks of the golf union's program: US14, US15, UM14, US16, US4. -/
import Derived.Test.YtnaafefcijgpkaaGreatDoorB13
import Derived.Deep.CutBlock
import Derived.Deep.DeepCutAuto
import Derived.Test.YtnaafefcijgpkaaGreatDoorB06
set_option linter.unusedVariables false
set_option linter.unusedSimpArgs false
set_option linter.unusedSectionVars false
set_option linter.constructorNameAsVariable false
/- Chapter 10, the program: checkPast, of a union without an error. -/
namespace Go.Proofs.YtnaafefcijgpkaaGreatDoor
open Go.RowKit Go.Mem Go.Sheet Go.Adj
set_option maxRecDepth 100000 in
set_option maxHeartbeats 8000000 in
theorem uCheckPast_ok (W : World) (u : UI) (hg : GoodU u 256 200) (h : RdU W (· < W.heap.size) u) :
    Calls Tryz.prog 53 #[u.val] W fun e w' => e = .returned (.int .i64 0) ∧ Below W.heap.size W w' := by
  have HPS : Hid (∀ w, Below W.heap.size W w → RdKp w (· < w.heap.size) u.vp u.np u.ps) := fun w hb => h.p.later hb
  have HG1 := Lib.hid hg.ps
  have HG2 := Lib.hid hg.ps2
  have hn1 := hg.len.2.2.2.2
  obtain ⟨Ap, cp, ep, _, _, _⟩ := h.p.1.open_
  clear h hg
  obtain ⟨vc, nc, cl, vm, nm, ms, vh, nh, hs, vk, nk, ks, vs, ns, sg, vp, np, ps⟩ := u
  simp only [UI.val] at *
  subst ep
  have S0 := ((St.refl W).blk_new #[vc, vm, vh, vk, vs, .slice Ap np cp] 28).mapS_new
  simp only [List.cons_append, List.nil_append, World.size_alloc] at S0
  have d0 := S0.blk_cell (i := 0) rfl 5
  have hmm := @run_makeMap Tryz.prog
  go_enter Tryz.func53, Tryz.ntmps53
  go_wp2_with fail
  obtain ⟨gb, hgb⟩ : ∃ g, g = W.heap.size := ⟨_, rfl⟩
  obtain ⟨g3, hg3⟩ : ∃ g, g = W.heap.size + 1 := ⟨_, rfl⟩
  rw [← hg3, ← hgb] at S0
  rw [← hg3, ← hgb]
  generalize (W.alloc (.cells #[vc, vm, vh, vk, vs, .slice Ap np cp] 28)).alloc (.map #[] 0) = w1 at *
  have HS0 := Lib.hid S0
  clear S0 hg3 hgb hmm
  go_loopw [14] (fun i w' => ∃ k : Nat, k ≤ np ∧ i = .int .i64 k ∧ St W w' [blk gb 28 #[vc, vm, vh, vk, vs, .slice Ap np cp], mapS g3 (seenE (fun i => (kpAt ps i).name) k) k]) (fun i _ => np - (intOf i).toNat)
  case atStart => exact ⟨0, Nat.zero_le _, rfl, HS0.out⟩
  case round =>
    obtain ⟨k, hk, rfl, S⟩ := hrel
    clear HS0 d0
    by_cases hlt : k < np
    · obtain ⟨b, o, rfl, hx, c0, c1, c2⟩ := rd_kp (HPS.out wr S.bel).1 hlt
      have HNO : Hid (Instr.findNow .string (.string (kpAt ps k).name) (seenE (fun i => (kpAt ps i).name) k).toList 0 = some none) := Lib.hid (seenE_none fun i hi => HG2.out k i hlt hi)
      have HPU : Hid ((seenE (fun i => (kpAt ps i).name) k).push { key := .string (kpAt ps k).name, val := .bool true, born := k } = seenE (fun i => (kpAt ps i).name) (k + 1)) := Lib.hid (seenE_push (fun i => (kpAt ps i).name) k)
      obtain ⟨hg1, hg2, hg3, hg4⟩ := HG1.out k hlt
      have hmem := List.mem_of_getElem? hx
      have HNM : Hid (∀ w, Calls Tryz.prog 66 #[.string (kpAt ps k).name] w fun e w' => e = .returned (.bool true) ∧ Below w.heap.size w w') := Lib.hid (fun w => by
        have h1 := cardIsName_any (kpAt ps k).name w ((HPS.out wr S.bel).2 _ hmem).2.2
        rw [hg1] at h1
        exact h1)
      have HXH : Hid (∀ w, Below W.heap.size W w → Rd w (· < w.heap.size) 2 (.slice (kpAt ps k).ha (kpAt ps k).hn (kpAt ps k).hc) (kpAt ps k).hn ((kpAt ps k).hs.flatMap HI.cells)) := Lib.hid (fun w hb => ((HPS.out w hb).2 _ hmem).1)
      have HCD : Hid (∀ w, Below W.heap.size W w → RdCd w (· < w.heap.size) (.slice (kpAt ps k).ca (kpAt ps k).cn (kpAt ps k).cc) (kpAt ps k).cn (kpAt ps k).cs) := Lib.hid (fun w hb => ((HPS.out w hb).2 _ hmem).2.1)
      have HCH : Hid (∀ w, Below W.heap.size W w → Calls Tryz.prog 80 #[.slice (kpAt ps k).ha (kpAt ps k).hn (kpAt ps k).hc] w fun e w' => e = .returned (.int .i64 0) ∧ Below w.heap.size w w') := Lib.hid (fun w hb => checkHoles_ok w _ _ _ (HXH.out w hb) hg2)
      have HLX : Hid ((kpAt ps k).hn = (kpAt ps k).hs.length) := Lib.hid ((HXH.out wr S.bel).count (f := HI.cells) (size := 2) (fun _ => rfl) (by decide))
      have HGC := Lib.hid hg4
      have HS0 := Lib.hid S
      clear S hx hmem hg1 hg2 hg4
      generalize hes : seenE (fun i => (kpAt ps i).name) k = es at *
      generalize kpAt ps k = x at *
      obtain ⟨xn, xha, xhn, xhc, xhs, xca, xcn, xcc, xcs⟩ := x
      simp only at c0 c1 c2 HNO HPU HNM HXH HCD HCH HGC HLX hg3
      have t0 : decide (200 < (xcn : Int)) = false := decide_eq_false (by omega)
      have t0' : decide (200 < xcn) = false := decide_eq_false (by omega)
      have SA := HS0.out.blk_new #[.string xn, .slice xha xhn xhc, .slice xca xcn xcc] 87
      simp only [List.cons_append, List.nil_append] at SA
      have HS := Lib.hid SA
      clear SA HS0
      go_wp2_with fail
      clear c0 c1 c2
      generalize wr.heap.size = gx at *
      generalize wr.alloc (.cells #[.string xn, .slice xha xhn xhc, .slice xca xcn xcc] 87) = w3 at *
      refine wp_cls 18 (fun w' => St W w' [blk gb 28 #[vc, vm, vh, vk, vs, .slice (some ⟨b, o, none⟩) np cp], mapS g3 es k, blk gx 87 #[.string xn, .slice xha xhn xhc, .slice xca xcn xcc]]) (by kernel_rfl) (by kernel_rfl) HS.out.drew ?_
      simp only [List.take_succ_cons, List.take_zero, List.drop_succ_cons, List.drop_zero]
      generalize hK : (fun w' => St W w' [blk gb 28 #[vc, vm, vh, vk, vs, .slice (some ⟨b, o, none⟩) np cp], mapS g3 es k, blk gx 87 #[.string xn, .slice xha xhn xhc, .slice xca xcn xcc]]) = K
      intro hne
      have kS : ∀ y : Wd K, St W y.w [blk gb 28 #[vc, vm, vh, vk, vs, .slice (some ⟨b, o, none⟩) np cp], mapS g3 es k, blk gx 87 #[.string xn, .slice xha xhn xhc, .slice xca xcn xcc]] := by subst hK; exact fun y => y.h
      have hK3 : ∀ w w' : World, K w → Below w.heap.size w w' → K w' := by subst hK; exact fun w w' h h' => h.ext h'
      have k0 : ∀ y : Wd K, y.w.cell? ⟨gx, 0, none⟩ = some (.string xn) := fun y => (kS y).blk_cell (i := 2) rfl 0
      have k1 : ∀ y : Wd K, y.w.cell? ⟨gx, 1, none⟩ = some (.slice xha xhn xhc) := fun y => (kS y).blk_cell (i := 2) rfl 1
      have k2 : ∀ y : Wd K, y.w.cell? ⟨gx, 2, none⟩ = some (.slice xca xcn xcc) := fun y => (kS y).blk_cell (i := 2) rfl 2
      have k3 : ∀ y : Wd K, (Instr.lookup 151 (.map (some g3)) (.string xn) false).run Tryz.prog y.w = .ok (.bool false) y.w := fun y => run_lookupS_none 151 9 4 Tryz.underlying9 Tryz.underlying151 zeroB ((kS y).mapS_at (i := 1) rfl) xn HNO.out
      have k4 : ∀ y : Wd K, Calls Tryz.prog 80 #[.slice xha xhn xhc] y.w fun e w' => e = .returned (.int .i64 0) ∧ Below y.w.heap.size y.w w' := fun y => HCH.out y.w (kS y).bel
      have KS := Lib.hid kS
      have HKK := Lib.hid hK3
      clear hK kS hK3
      have HC9 := Lib.hid k4
      clear k4
      repeat (go_big_quiet_step ((first
        | (go_at_call 66; exact cls_below HKK.out (HNM.out _))
        | (go_at_call 80; exact cls_below HKK.out (HC9.out _))
        | (go_at_call 59; exact cls_same (uNo _ _)))))
      clear HC9
      refine wpQuiet_nil ?_
      intro y
      have SY := Lib.hid (KS.out y)
      clear k0 k1 k2 k3 KS HKK hne HS
      generalize y.w = wy at *
      have S9 := SY.out.alloc (.cells #[.int .i64 0, .int .i64 0, .int .i64 0, .int .i64 0] 38)
      have z0 := S9.blk_cell (i := 2) rfl 0
      have HSZ := Lib.hid S9
      clear SY S9
      go_wp2_with (first
        | (go_at_call 32; refine (uOk4 _ _ (by simp) (by simp) (by simp) (by simp) (by simp)).mono ?_; rintro e w' ⟨rfl, rfl⟩)
        | (at_mapUpdate; refine wpList_mapUpdate_new rfl _ _ _ 151 rfl 9 4 Tryz.underlying9 Tryz.underlying151 HSZ.out (i := 1) rfl rfl xn rfl HNO.out (.bool true) rfl ?_; intro w6 S6; rw [HPU.out] at S6; have HS6 := Lib.hid S6; have x2 := S6.blk_cell (i := 2) rfl 2; clear S6))
      clear z0 HSZ
      simp only [List.set_cons_succ, List.set_cons_zero] at HS6
      go_loopw [47] (fun i w' => ∃ q : Nat, q ≤ xcn ∧ i = .int .i64 q ∧ St W w' [blk gb 28 #[vc, vm, vh, vk, vs, .slice (some ⟨b, o, none⟩) np cp], mapS g3 (seenE (fun i => (kpAt ps i).name) (k + 1)) (k + 1), blk gx 87 #[.string xn, .slice xha xhn xhc, .slice xca xcn xcc]]) (fun i _ => xcn - (intOf i).toNat)
      case atStart => exact ⟨0, Nat.zero_le _, rfl, HS6.out⟩
      case round =>
        obtain ⟨q, hq, rfl, S⟩ := hrel
        clear HS6 x2
        by_cases hlq : q < xcn
        · have hcl := HCD.out wr S.bel
          obtain ⟨b2, o2, rfl, hx2, c0, c1⟩ := rd_cd hcl.1 hlq
          have hgc := HGC.out q hlq
          have hee := (hcl.2 _ (List.mem_of_getElem? hx2)).1
          have HCC : Hid (∀ w, Below wr.heap.size wr w → Calls Tryz.prog 84 #[.slice xha xhn xhc, .agg #[.string (cdAt xcs q).name, .slice (cdAt xcs q).a (cdAt xcs q).m (cdAt xcs q).c]] w fun e w' => e = .returned (.int .i64 0) ∧ Below w.heap.size w w') := Lib.hid (fun w hb => by
            have hm : (cdAt xcs q).m = xhn := hgc.2.2.1.trans HLX.out.symm
            rw [hm] at hee ⊢
            exact checkCard_ok w _ _ xhn xhs _ _ ⟨HXH.out w (S.bel.trans (hb.mono S.bel.size)), hee.later hb, hgc.1, hgc.2.1, (hcl.2 _ (List.mem_of_getElem? hx2)).2, fun i hi => hgc.2.2.2 i (by rw [hm]; exact hi)⟩)
          clear hcl hx2 hgc hee
          generalize cdAt xcs q = z at *
          obtain ⟨zn, za, zm, zc, zes⟩ := z
          simp only at c0 c1 HCC
          have SA := S.blk_new #[.string zn, .slice za zm zc] 47
          simp only [List.cons_append, List.nil_append] at SA
          have x1 := SA.blk_cell (i := 2) rfl 1
          have HC := Lib.hid (HCC.out _ ((Below.refl _ _).alloc (Nat.le_refl _) (.cells #[.string zn, .slice za zm zc] 47)))
          have HSA := Lib.hid SA
          clear S SA HCC
          go_wp2_with (go_at_call 84; refine HC.out.mono ?_; rintro e w' ⟨rfl, hb2⟩; have HS9 := Lib.hid ((HSA.out.ext hb2).sub (L' := [_, _, _]) (List.sublist_append_left [_, _, _] [_])); clear hb2)
          go_roundw
          case rel => exact ⟨q + 1, by omega, by go_num, HS9.out⟩
          case measure => simp [intOf]; omega
        · obtain rfl : xcn = q := by omega
          have HSE := Lib.hid (S.sub (L' := [_, _]) (List.sublist_append_left [_, _] [_]))
          clear S
          go_wp2_with fail
          go_roundw
          case rel => exact ⟨k + 1, by omega, by go_num, HSE.out⟩
          case measure => simp [intOf]; omega
    · obtain rfl : np = k := by omega
      have HB := Lib.hid S.bel
      clear S
      go_wp2_with fail
      go_ret
      exact ⟨rfl, HB.out⟩
end Go.Proofs.YtnaafefcijgpkaaGreatDoor
/- A map with a struct {string, int, bool} as key, whose entries all lie at true. -/
namespace Go.Proofs.YtnaafefcijgpkaaGreatDoor
open Go.RowKit Go.Mem Go.Sheet Go.Adj Go.MapKept
def keyV (a : ByteArray) (h : Int) (o : Bool) : Value := .agg #[.string a, .int .i64 h, .bool o]
theorem check_key (e : Bool) (a : ByteArray) (h : Int) (o : Bool) (w : World) : (Instr.checkKey e 10000 155 (keyV a h o)).run Tryz.prog w = .ok () w := by
  kernel_rfl
theorem equal_key_ne {a b : ByteArray} {h i : Int} {o p : Bool} (hne : ¬ (a = b ∧ h = i ∧ o = p)) (w : World) : (Op.equal 155 (keyV a h o) (keyV b i p)).run Tryz.prog w = .ok false w := by
  show (Op.equalIn 10000 155 (keyV a h o) (keyV b i p)).run Tryz.prog w = _
  unfold keyV
  rw [run_equalIn_agg w 9999 155 _ _ (by kernel_rfl) (by kernel_rfl)]
  have hf : (Tryz.prog.fieldsOf 155).toList.map (fun f => (f.name != "_", f.type, f.offset)) = [(true, 9, 0), (true, 3, 1), (true, 4, 2)] := by kernel_rfl
  generalize (Tryz.prog.fieldsOf 155).toList = L at *
  have hL : ∃ f1 f2 f3, L = [f1, f2, f3] := by
    match L, congrArg List.length hf with
    | [f1, f2, f3], _ => exact ⟨f1, f2, f3, rfl⟩
  obtain ⟨f1, f2, f3, rfl⟩ := hL
  obtain ⟨⟨h1, h2, h3⟩, ⟨h4, h5, h6⟩, h7, h8, h9⟩ : (f1.name ≠ "_" ∧ f1.type = 9 ∧ f1.offset = 0) ∧ (f2.name ≠ "_" ∧ f2.type = 3 ∧ f2.offset = 1) ∧ (f3.name ≠ "_" ∧ f3.type = 4 ∧ f3.offset = 2) := by simpa using hf
  simp only [Op.eqFields, h2, h3, h5, h6, h8, h9]
  by_cases e1 : a = b
  · by_cases e2 : h = i
    · have e3 : ¬ o = p := fun e => hne ⟨e1, e2, e⟩
      subst e1 e2
      have q3 : (o == p) = false := by simpa using e3
      simp [go_sem, Tryz.underlying3, Tryz.underlying4, Tryz.underlying9, h1, h4, h7, q3]
    · have q2 : (h == i) = false := by simpa using e2
      subst e1
      simp [go_sem, Tryz.underlying3, Tryz.underlying4, Tryz.underlying9, h1, h4, h7, q2]
  · have q1 := bytes_neU e1
    simp [go_sem, Tryz.underlying3, Tryz.underlying4, Tryz.underlying9, h1, h4, h7, q1]
def keyE (ks : List MkI) (k : Nat) : Array MapEntry := ((List.range k).map fun i => ({ key := keyV (mkAt ks i).pl (mkAt ks i).h (ownK (mkAt ks i)), val := .bool true, born := i } : MapEntry)).toArray
theorem keyE_push (ks : List MkI) (k : Nat) : (keyE ks k).push { key := keyV (mkAt ks k).pl (mkAt ks k).h (ownK (mkAt ks k)), val := .bool true, born := k } = keyE ks (k + 1) := by
  unfold keyE
  rw [List.range_succ, List.map_append]
  simp
theorem asking_none {kt : TypeId} {key : Value} : ∀ (es : List MapEntry) (i : Nat), (∀ e ∈ es, ∀ w, (Op.equal kt key e.key).run Tryz.prog w = .ok false w) → ∀ w, (Instr.findAsking kt key es i).run Tryz.prog w = .ok none w
  | [], _, _, w => by simp [Instr.findAsking]
  | e :: es, i, h, w => by
    have h1 := h e (by simp) w
    have h2 := asking_none es (i + 1) (fun x hx => h x (by simp [hx])) w
    unfold Instr.findAsking
    simp [Sem.run_bind, h1, Result.andThen, h2]
theorem find_key {ks : List MkI} {k : Nat} {a : ByteArray} {h : Int} {o : Bool} (hno : ∀ i, i < k → ¬ (a = (mkAt ks i).pl ∧ h = (mkAt ks i).h ∧ o = ownK (mkAt ks i))) (w : World) :
    (Instr.findKey 155 (keyV a h o) (keyE ks k).toList).run Tryz.prog w = .ok none w := by
  have hu : ∃ fs, Tryz.prog.underlying 155 = some (.struct fs) := ⟨_, Tryz.underlying155⟩
  obtain ⟨fs, hu⟩ := hu
  have ha : ∀ e ∈ (keyE ks k).toList, ∀ w, (Op.equal 155 (keyV a h o) e.key).run Tryz.prog w = .ok false w := fun e he w => by
    unfold keyE at he
    obtain ⟨i, hi, rfl⟩ := List.mem_map.1 he
    exact equal_key_ne (hno i (List.mem_range.1 hi)) w
  unfold Instr.findKey
  generalize (keyE ks k).toList = l at *
  cases l with
  | nil => simp [run_underlying hu, Result.andThen, Instr.findNow]
  | cons e es =>
    have hn : Instr.findNow (.struct fs) (keyV a h o) (e :: es) 0 = none := by
      unfold Instr.findNow keyV
      simp [Instr.sameNow]
    simp only [Sem.run_bind, run_underlying hu, Result.andThen, hn]
    exact asking_none _ _ ha w
theorem run_lookupK_none {w : World} {b clock : Nat} {ks : List MkI} {k : Nat} (hb : w.heap[b]? = some (.map (keyE ks k) clock)) {a : ByteArray} {h : Int} {o : Bool} (hno : ∀ i, i < k → ¬ (a = (mkAt ks i).pl ∧ h = (mkAt ks i).h ∧ o = ownK (mkAt ks i))) :
    (Instr.lookup 153 (.map (some b)) (keyV a h o) false).run Tryz.prog w = .ok (.bool false) w := by
  have hz := zeroB w
  simp only [Instr.lookup, Sem.run_bind, run_underlying Tryz.underlying153, Result.andThen, MapKept.run_getObj_map hb, check_key, find_key hno, hz, Sem.run_pure]
  rfl
theorem wpList_mapUpdate_key {W w : World} {L : List Asr} {i : Nat} {ops : Array Oper} {rest : List Oper} {op : Oper} {a : Act} {Q : Exit → Act → World → Prop}
    (hg : op.guard = none) (m x v : Operand) (hop : op.op = Op.mapUpdate 153 m x v)
    {b clock : Nat} {ks : List MkI} {k : Nat} (S : St W w L) (hi : L[i]? = some (mapS b (keyE ks k) clock)) (hm : a.eval m = .map (some b)) (p : ByteArray) (h : Int) (o : Bool) (hx : a.eval x = keyV p h o)
    (hno : ∀ i, i < k → ¬ (p = (mkAt ks i).pl ∧ h = (mkAt ks i).h ∧ o = ownK (mkAt ks i))) (val : Value) (hv : a.eval v = val)
    (hK : ∀ w', St W w' (L.set i (mapS b ((keyE ks k).push { key := keyV p h o, val := val, born := clock }) (clock + 1))) → wpList Tryz.prog ops Q rest (a.put op.dst undef) w') : wpList Tryz.prog ops Q (op :: rest) a w := by
  obtain ⟨F1, h1, ⟨hb, hF⟩, h3⟩ := S.upd hi
  have hrun : (Instr.mapUpdate 153 (.map (some b)) (keyV p h o) val).run Tryz.prog w = .ok () (w.putObj b (.map ((keyE ks k).push { key := keyV p h o, val := val, born := clock }) (clock + 1))) := by
    simp only [Instr.mapUpdate, Sem.run_bind, run_underlying Tryz.underlying153, Result.andThen, MapKept.run_getObj_map hb, check_key, find_key hno, MapKept.run_setObj_map _ hb]
    rfl
  have hlt := (Array.getElem?_eq_some_iff.1 hb).1
  have hat : (w.putObj b (.map ((keyE ks k).push { key := keyV p h o, val := val, born := clock }) (clock + 1))).heap[b]? = some (.map ((keyE ks k).push { key := keyV p h o, val := val, born := clock }) (clock + 1)) := by
    show (w.heap.setIfInBounds b _)[b]? = _
    simp [hlt]
  refine wpList_plain hg fun K' hK' => ?_
  unfold Oper.wp
  simp [execOp, hop, hm, hx, hv, hrun, Result.andThen]
  exact hK' _ _ (hK _ (h3 _ _ F1 (some b) ⟨hat, hF⟩ (grownBy_putObj' w b _) (fun g hg => by cases hg; exact hF) (fun b hb => .inl hb)))
end Go.Proofs.YtnaafefcijgpkaaGreatDoor
/- Chapter 10, the reference: CheckUnion. -/
namespace Go.Proofs.YtnaafefcijgpkaaGreatDoor
open Go.RowKit Go.Mem Go.Sheet Go.Adj
theorem rd_takeU {w : World} {S : Nat → Prop} {A : Option Addr} {n m c j : Nat} {xs : List Value} (h : Rd w S 1 (.slice A m c) n xs) (hj : j ≤ n) : Rd w S 1 (.slice A j c) j (xs.take j) := by
  obtain ⟨A', c', hv, h1, h2, h3, h4, h5⟩ := h
  injection hv with e1 e2 e3
  subst e1 e2 e3
  refine ⟨A, c, rfl, by omega, h2, by rw [List.length_take, h3]; omega, h4, fun h0 => ?_⟩
  obtain ⟨b, o, hA, hS, hb, hc⟩ := h5 (by omega)
  refine ⟨b, o, hA, hS, hb, fun q u hq => hc q u ?_⟩
  have hql := (List.getElem?_eq_some_iff.1 hq).1
  rw [List.length_take] at hql
  rwa [List.getElem?_take_of_lt (by omega)] at hq
def SigOk (u : UI) (i : Nat) : Prop := (∃ j, j < u.nm ∧ (mbAt u.ms j).name = sAt u.sg i) ∧ (∀ j, j < i → sAt u.sg j ≠ sAt u.sg i) ∧ Sgn u (sAt u.sg i)
theorem goodU_of {u : UI} {a b : Nat} (l : u.nc ≤ a ∧ u.nm ≤ b ∧ u.nk ≤ 1000 ∧ u.ns ≤ b ∧ u.np ≤ a) (c : ∀ i, i < u.nc → nameB (sAt u.cl i) = true ∧ ∀ j, j < i → sAt u.cl j ≠ sAt u.cl i)
    (m : ∀ i, i < u.nm → MemOk u i) (hh : u.nh = 0 ∨ GoodH u.hs) (k : ∀ i, i < u.nk → MarkOk u i) (s : ∀ i, i < u.ns → SigOk u i) (p : ∀ i, i < u.np → KeptOk u i) : GoodU u a b where
  len := l
  cl := fun i hi => (c i hi).1
  cl2 := fun i j hi hj => (c i hi).2 j hj
  mb := fun i hi => ⟨(m i hi).1, (m i hi).2.2.2.1, (m i hi).2.2.2.2, (m i hi).2.2.1⟩
  mb2 := fun i j hi hj => (m i hi).2.1 j hj
  hs := hh
  kk := fun i hi => ⟨(k i hi).1, (k i hi).2.1, (k i hi).2.2.1, (k i hi).2.2.2.1, (k i hi).2.2.2.2.1⟩
  kk2 := fun i j hi hj => (k i hi).2.2.2.2.2 j hj
  sg := fun i hi => ⟨(s i hi).1, (s i hi).2.2⟩
  sg2 := fun i j hi hj => (s i hi).2.1 j hj
  ps := fun i hi => (p i hi).1
  ps2 := fun i j hi hj => (p i hi).2 j hj
set_option maxRecDepth 100000 in
set_option maxHeartbeats 8000000 in
theorem refCheckUnion_any (W : World) (u : UI) (h : RdU W (· < W.heap.size) u) :
    Calls Tryz.prog 19 #[u.val] W fun e w' => IsE (GoodU u 256 200) e ∧ Below W.heap.size W w' := by
  have HGU := Lib.hid h
  have hc := h.c
  have hm := h.m
  have hh := h.h
  have hk := h.k
  have hs := h.s
  have hp := h.p
  have hso := h.so
  clear h
  have HGD : Hid (∀ P : Prop, P = GoodU u 256 200 → P = GoodU u 256 200) := fun _ h => h
  obtain ⟨vc, nc, cl, vm, nm, ms, vh, nh, hs0, vk, nk, ks, vs, ns, sg, vp, np, ps⟩ := u
  simp only [UI.val] at *
  have l1 := hc.le
  have l2 := hm.le
  have l3 := hh.le
  have l4 := hk.le
  have l5 := hs.le
  have l6 := hp.1.le
  obtain ⟨Ac, cc, rfl, _, _, _⟩ := hc.open_
  obtain ⟨Am, cm, rfl, _, _, _⟩ := hm.open_
  obtain ⟨Ah, ch, rfl, _, _, _⟩ := hh.open_
  obtain ⟨Ak, ck, rfl, _, _, _⟩ := hk.open_
  obtain ⟨As, cs, rfl, _, _, _⟩ := hs.open_
  obtain ⟨Ap, cp, rfl, _, _, _⟩ := hp.1.open_
  have S0 := (St.refl W).blk_new #[.slice Ac nc cc, .slice Am nm cm, .slice Ah nh ch, .slice Ak nk ck, .slice As ns cs, .slice Ap np cp] 34
  simp only [List.nil_append] at S0
  obtain ⟨gc, hgc⟩ : ∃ g, g = W.heap.size := ⟨_, rfl⟩
  rw [← hgc] at S0
  have HS0 := Lib.hid S0
  have d0 := S0.blk_cell (i := 0) rfl 0
  have d1 := S0.blk_cell (i := 0) rfl 1
  have d3 := S0.blk_cell (i := 0) rfl 3
  have d4 := S0.blk_cell (i := 0) rfl 4
  have d5 := S0.blk_cell (i := 0) rfl 5
  clear S0
  go_enter Tryz.func19, Tryz.ntmps19
  by_cases h1 : nc ≤ 256 ∧ nm ≤ 200 ∧ nk ≤ 1000 ∧ ns ≤ 200 ∧ np ≤ 256
  case neg =>
    by_cases g0 : 256 < nc
    · have t1 : decide (256 < (nc : Int)) = true := decide_eq_true (by omega)
      have t1' : decide (256 < nc) = true := decide_eq_true g0
      clear g0 h1
      go_wp2_with fail
      go_ret
      exact ⟨isE_ne (by decide), HS0.out.bel⟩
    have q0 : decide (256 < (nc : Int)) = false := decide_eq_false (by omega)
    have q0' : decide (256 < nc) = false := decide_eq_false (by omega)
    by_cases g1 : 200 < nm
    · have t1 : decide (200 < (nm : Int)) = true := decide_eq_true (by omega)
      have t1' : decide (200 < nm) = true := decide_eq_true g1
      clear g1 h1
      go_wp2_with fail
      go_ret
      exact ⟨isE_ne (by decide), HS0.out.bel⟩
    have q1 : decide (200 < (nm : Int)) = false := decide_eq_false (by omega)
    have q1' : decide (200 < nm) = false := decide_eq_false (by omega)
    by_cases g2 : 1000 < nk
    · have t1 : decide (1000 < (nk : Int)) = true := decide_eq_true (by omega)
      have t1' : decide (1000 < nk) = true := decide_eq_true g2
      clear g2 h1
      go_wp2_with fail
      go_ret
      exact ⟨isE_ne (by decide), HS0.out.bel⟩
    have q2 : decide (1000 < (nk : Int)) = false := decide_eq_false (by omega)
    have q2' : decide (1000 < nk) = false := decide_eq_false (by omega)
    by_cases g3 : 200 < ns
    · have t1 : decide (200 < (ns : Int)) = true := decide_eq_true (by omega)
      have t1' : decide (200 < ns) = true := decide_eq_true g3
      clear g3 h1
      go_wp2_with fail
      go_ret
      exact ⟨isE_ne (by decide), HS0.out.bel⟩
    have q3 : decide (200 < (ns : Int)) = false := decide_eq_false (by omega)
    have q3' : decide (200 < ns) = false := decide_eq_false (by omega)
    by_cases g4 : 256 < np
    · have t1 : decide (256 < (np : Int)) = true := decide_eq_true (by omega)
      have t1' : decide (256 < np) = true := decide_eq_true g4
      clear g4 h1
      go_wp2_with fail
      go_ret
      exact ⟨isE_ne (by decide), HS0.out.bel⟩
    have q4 : decide (256 < (np : Int)) = false := decide_eq_false (by omega)
    have q4' : decide (256 < np) = false := decide_eq_false (by omega)
    exact absurd ⟨by omega, by omega, by omega, by omega, by omega⟩ h1
  have t1 : decide (256 < (nc : Int)) = false := decide_eq_false (by omega)
  have t2 : decide (200 < (nm : Int)) = false := decide_eq_false (by omega)
  have t3 : decide (1000 < (nk : Int)) = false := decide_eq_false (by omega)
  have t4 : decide (200 < (ns : Int)) = false := decide_eq_false (by omega)
  have t5 : decide (256 < (np : Int)) = false := decide_eq_false (by omega)
  have t1' : decide (256 < nc) = false := decide_eq_false (by omega)
  have t2' : decide (200 < nm) = false := decide_eq_false (by omega)
  have t3' : decide (1000 < nk) = false := decide_eq_false (by omega)
  have t4' : decide (200 < ns) = false := decide_eq_false (by omega)
  have t5' : decide (256 < np) = false := decide_eq_false (by omega)
  go_wp2_with fail
  rw [← hgc]
  generalize W.alloc (.cells #[.slice Ac nc cc, .slice Am nm cm, .slice Ah nh ch, .slice Ak nk ck, .slice As ns cs, .slice Ap np cp] 34) = w1 at *
  clear hgc
  go_loopw [3] (fun i w' => ∃ k : Nat, k ≤ nc ∧ i = .int .i64 k ∧ Hid (∀ i, i < k → nameB (sAt cl i) = true ∧ ∀ j, j < i → sAt cl j ≠ sAt cl i) ∧ St W w' [blk gc 34 #[.slice Ac nc cc, .slice Am nm cm, .slice Ah nh ch, .slice Ak nk ck, .slice As ns cs, .slice Ap np cp]]) (fun i _ => nc - (intOf i).toNat)
  case atStart => exact ⟨0, Nat.zero_le _, rfl, fun i hi => absurd hi (Nat.not_lt_zero _), HS0.out⟩
  case round =>
    obtain ⟨k, hk0, rfl, hin, S⟩ := hrel
    clear HS0 d0 d1 d3 d4 d5
    have d0 := S.blk_cell (i := 0) rfl 0
    have d1 := S.blk_cell (i := 0) rfl 1
    by_cases hlt : k < nc
    · obtain ⟨b, o, rfl, hx, c0⟩ := rd_str (hc.later S.bel) hlt
      have HSZ := Lib.hid (hso.1 _ (List.mem_of_getElem? hx))
      have HNM := Lib.hid (refIsName_any (sAt cl k) wr HSZ.out)
      have HS := Lib.hid S
      clear S hx
      go_wp2_with fail
      go_at_call 44
      refine HNM.out.mono ?_
      rintro e w' ⟨rfl, rfl⟩
      cases hnb : nameB (sAt cl k) with
      | false =>
        go_wp2_with fail
        go_ret
        exact ⟨isE_ne (by decide), HS.out.bel⟩
      | true =>
        go_wp2_with fail
        have l0 := World.block_lt_of_cell? _ _ c0
        refine wp_cls 9 (fun w' => ∃ n, w' = wr.drewN n) (by kernel_rfl) (by kernel_rfl) ⟨1, rfl⟩ ?_
        simp only [List.take_succ_cons, List.take_zero, List.drop_succ_cons, List.drop_zero]
        generalize hK : (fun w' => ∃ n, w' = wr.drewN n) = K
        intro hne
        have kw : ∀ y : Wd K, ∃ n, y.w = wr.drewN n := by subst hK; exact fun y => y.h
        have k1 : ∀ y : Wd K, y.w.cell? ⟨gc, 0, none⟩ = some (.slice (some ⟨b, o, none⟩) nc cc) := fun y => by obtain ⟨n, e⟩ := kw y; rw [e]; exact d0
        have k2 : ∀ y : Wd K, y.w.cell? ⟨b, o + k, none⟩ = some (.string (sAt cl k)) := fun y => by obtain ⟨n, e⟩ := kw y; rw [e]; exact c0
        clear hK d0 d1 c0
        repeat (go_big_quiet_step ((fail)))
        refine wpQuiet_nil ?_
        intro y
        obtain ⟨nn, hyn⟩ := kw y
        have HSY := Lib.hid (HS.out.drewN nn)
        rw [← hyn] at HSY
        clear kw k1 k2 hyn hne
        have HHA := Lib.hid (refHas_any y.w _ _ k (sAt cl k) (cl.take k) (by rw [List.map_take]; exact rd_takeU (hc.later HSY.out.bel) (by omega)))
        have HTK : Hid (∀ j, j < k → sAt (cl.take k) j = sAt cl j) := fun j hj => by
          unfold sAt
          rw [List.getD_eq_getElem?_getD, List.getD_eq_getElem?_getD, List.getElem?_take_of_lt hj]
        go_wp2_with fail
        go_at_call 45
        refine HHA.out.mono ?_
        rintro e w' ⟨hb, rfl⟩
        rcases isW_of hb with ⟨rfl, hx⟩ | ⟨rfl, hx⟩
        · clear hb hx HHA
          go_wp2_with fail
          go_ret
          exact ⟨isE_ne (by decide), HSY.out.bel⟩
        · have HN : Hid (∀ i, i < k + 1 → nameB (sAt cl i) = true ∧ ∀ j, j < i → sAt cl j ≠ sAt cl i) := fun i hi => by
            rcases Nat.lt_or_ge i k with h3 | h3
            · exact hin.out i h3
            · obtain rfl : i = k := by omega
              exact ⟨hnb, fun j hj e => hx ⟨j, hj, by rw [HTK.out j hj]; exact e⟩⟩
          clear hb hx HHA hin
          go_wp2_with fail
          go_roundw
          case rel => exact ⟨k + 1, by omega, by go_num, HN, HSY.out⟩
          case measure => simp [intOf]; omega
    · obtain rfl : nc = k := by omega
      have HCL := Lib.hid hin.out
      have HS1 := Lib.hid S
      clear S hin hlt hk0
      have HLH : Hid (nh = hs0.length) := hh.count (f := HI.cells) (size := 2) (fun _ => rfl) (by decide)
      have HFIN : Hid ((∀ i, i < nm → MemOk ⟨.slice Ac nc cc, nc, cl, .slice Am nm cm, nm, ms, .slice Ah nh ch, nh, hs0, .slice Ak nk ck, nk, ks, .slice As ns cs, ns, sg, .slice Ap np cp, np, ps⟩ i) → (nh = 0 ∨ GoodH hs0) → (∀ i, i < nk → MarkOk ⟨.slice Ac nc cc, nc, cl, .slice Am nm cm, nm, ms, .slice Ah nh ch, nh, hs0, .slice Ak nk ck, nk, ks, .slice As ns cs, ns, sg, .slice Ap np cp, np, ps⟩ i) → (∀ i, i < ns → SigOk ⟨.slice Ac nc cc, nc, cl, .slice Am nm cm, nm, ms, .slice Ah nh ch, nh, hs0, .slice Ak nk ck, nk, ks, .slice As ns cs, ns, sg, .slice Ap np cp, np, ps⟩ i) → (∀ i, i < np → KeptOk ⟨.slice Ac nc cc, nc, cl, .slice Am nm cm, nm, ms, .slice Ah nh ch, nh, hs0, .slice Ak nk ck, nk, ks, .slice As ns cs, ns, sg, .slice Ap np cp, np, ps⟩ i) → GoodU ⟨.slice Ac nc cc, nc, cl, .slice Am nm cm, nm, ms, .slice Ah nh ch, nh, hs0, .slice Ak nk ck, nk, ks, .slice As ns cs, ns, sg, .slice Ap np cp, np, ps⟩ 256 200) := fun a b c d e => goodU_of h1 HCL.out a b c d e
      have HMM : Hid (∀ i w, i < nm → Below W.heap.size W w → Calls Tryz.prog 46 #[.agg #[.slice Ac nc cc, .slice Am nm cm, .slice Ah nh ch, .slice Ak nk ck, .slice As ns cs, .slice Ap np cp], .int .i64 i] w fun e w' => IsE (MemOk ⟨.slice Ac nc cc, nc, cl, .slice Am nm cm, nm, ms, .slice Ah nh ch, nh, hs0, .slice Ak nk ck, nk, ks, .slice As ns cs, ns, sg, .slice Ap np cp, np, ps⟩ i) e ∧ Below w.heap.size w w') := fun i w hi hb => refCheckMember_any w _ i hi (HGU.out.later hb)
      have HKM : Hid (∀ i w, i < nk → Below W.heap.size W w → Calls Tryz.prog 48 #[.agg #[.slice Ac nc cc, .slice Am nm cm, .slice Ah nh ch, .slice Ak nk ck, .slice As ns cs, .slice Ap np cp], .int .i64 i] w fun e w' => IsE (MarkOk ⟨.slice Ac nc cc, nc, cl, .slice Am nm cm, nm, ms, .slice Ah nh ch, nh, hs0, .slice Ak nk ck, nk, ks, .slice As ns cs, ns, sg, .slice Ap np cp, np, ps⟩ i) e ∧ Below w.heap.size w w') := fun i w hi hb => refCheckMark_any w _ i hi (HGU.out.later hb)
      have HPM : Hid (∀ i w, i < np → Below W.heap.size W w → Calls Tryz.prog 50 #[.agg #[.slice Ac nc cc, .slice Am nm cm, .slice Ah nh ch, .slice Ak nk ck, .slice As ns cs, .slice Ap np cp], .int .i64 i] w fun e w' => IsE (KeptOk ⟨.slice Ac nc cc, nc, cl, .slice Am nm cm, nm, ms, .slice Ah nh ch, nh, hs0, .slice Ak nk ck, nk, ks, .slice As ns cs, ns, sg, .slice Ap np cp, np, ps⟩ i) e ∧ Below w.heap.size w w') := fun i w hi hb => refCheckKept_any w _ i hi (HGU.out.later hb)
      have HMB : Hid (∀ s w, Below W.heap.size W w → Calls Tryz.prog 10 #[.agg #[.slice Ac nc cc, .slice Am nm cm, .slice Ah nh ch, .slice Ak nk ck, .slice As ns cs, .slice Ap np cp], .string s] w fun e w' => e = .returned (.int .i64 (memI ms s)) ∧ Below w.heap.size w w') := fun s w hb => refMember_any w _ s (HGU.out.later hb)
      have HSB : Hid (nh ≤ 36 → ∀ s w, Below W.heap.size W w → Calls Tryz.prog 49 #[.agg #[.slice Ac nc cc, .slice Am nm cm, .slice Ah nh ch, .slice Ak nk ck, .slice As ns cs, .slice Ap np cp], .string s] w fun e w' => IsE (Sgn ⟨.slice Ac nc cc, nc, cl, .slice Am nm cm, nm, ms, .slice Ah nh ch, nh, hs0, .slice Ak nk ck, nk, ks, .slice As ns cs, ns, sg, .slice Ap np cp, np, ps⟩ s) e ∧ Below w.heap.size w w') := fun hn s w hb => refSignable_any w _ s hn (HGU.out.later hb)
      have HLM : Hid (nm = ms.length) := hm.count (f := MbI.cells) (size := 3) (fun _ => rfl) (by decide)
      have HSO : Hid (∀ i, i < nm → ∀ s, (∃ j, j < nm ∧ (mbAt ms j).name = s) → True) := fun _ _ _ _ => trivial
      have HSI : Hid (∀ i, (∃ j, j < nm ∧ (mbAt ms j).name = sAt sg i) → (∀ j, j < i → sAt sg j ≠ sAt sg i) → Sgn ⟨.slice Ac nc cc, nc, cl, .slice Am nm cm, nm, ms, .slice Ah nh ch, nh, hs0, .slice Ak nk ck, nk, ks, .slice As ns cs, ns, sg, .slice Ap np cp, np, ps⟩ (sAt sg i) → SigOk ⟨.slice Ac nc cc, nc, cl, .slice Am nm cm, nm, ms, .slice Ah nh ch, nh, hs0, .slice Ak nk ck, nk, ks, .slice As ns cs, ns, sg, .slice Ap np cp, np, ps⟩ i) := fun i a b c => ⟨a, b, c⟩
      generalize hMO : (fun i => MemOk ⟨.slice Ac nc cc, nc, cl, .slice Am nm cm, nm, ms, .slice Ah nh ch, nh, hs0, .slice Ak nk ck, nk, ks, .slice As ns cs, ns, sg, .slice Ap np cp, np, ps⟩ i) = MO at *
      generalize hKO : (fun i => MarkOk ⟨.slice Ac nc cc, nc, cl, .slice Am nm cm, nm, ms, .slice Ah nh ch, nh, hs0, .slice Ak nk ck, nk, ks, .slice As ns cs, ns, sg, .slice Ap np cp, np, ps⟩ i) = KO at *
      generalize hSO : (fun i => SigOk ⟨.slice Ac nc cc, nc, cl, .slice Am nm cm, nm, ms, .slice Ah nh ch, nh, hs0, .slice Ak nk ck, nk, ks, .slice As ns cs, ns, sg, .slice Ap np cp, np, ps⟩ i) = SO at *
      generalize hPO : (fun i => KeptOk ⟨.slice Ac nc cc, nc, cl, .slice Am nm cm, nm, ms, .slice Ah nh ch, nh, hs0, .slice Ak nk ck, nk, ks, .slice As ns cs, ns, sg, .slice Ap np cp, np, ps⟩ i) = PO at *
      go_upto_block 2 with fail
      clear d0 d1
      go_cut [4] from 37 (fun ev w' => ∃ ec : Int, ev = .int .i64 ec ∧ Hid (ec = 0 → ∀ i, i < nm → MO i) ∧ St W w' [blk gc 34 #[.slice Ac nc cc, .slice Am nm cm, .slice Ah nh ch, .slice Ak nk ck, .slice As ns cs, .slice Ap np cp]])
      case first =>
        go_wp2_with fail
        go_loopw [5, 4] (fun iv ev w' => ∃ (k : Nat) (ec : Int), k ≤ nm ∧ iv = .int .i64 k ∧ ev = .int .i64 ec ∧ Hid (ec = 0 → ∀ i, i < k → MO i) ∧ St W w' [blk gc 34 #[.slice Ac nc cc, .slice Am nm cm, .slice Ah nh ch, .slice Ak nk ck, .slice As ns cs, .slice Ap np cp]]) (fun iv _ _ => nm - (intOf iv).toNat)
        case atStart => exact ⟨0, 0, Nat.zero_le _, rfl, rfl, fun _ i hi => absurd hi (Nat.not_lt_zero _), HS1.out⟩
        case round =>
          obtain ⟨k, ec, hk0, rfl, rfl, hin, S⟩ := hrel
          clear HS1
          have d0 := S.blk_cell (i := 0) rfl 0
          have d1 := S.blk_cell (i := 0) rfl 1
          have d2 := S.blk_cell (i := 0) rfl 2
          have d3 := S.blk_cell (i := 0) rfl 3
          have d4 := S.blk_cell (i := 0) rfl 4
          have d5 := S.blk_cell (i := 0) rfl 5
          by_cases hlt : k < nm
          · have t0 : decide ((k : Int) < (nm : Int)) = true := decide_eq_true (by omega)
            have t0' : decide (k < nm) = true := decide_eq_true hlt
            by_cases h0 : ec = 0
            · subst h0
              have HMC := Lib.hid (HMM.out k wr hlt S.bel)
              have HIN := Lib.hid (hin.out rfl)
              have HS := Lib.hid S
              clear S hin
              go_wp2_with fail
              go_at_call 46
              refine HMC.out.mono ?_
              rintro e w3 ⟨⟨ec, rfl, hg⟩, hb⟩
              have HS3 := Lib.hid (HS.out.ext hb)
              have HG3 := Lib.hid hg
              clear hg hb HS HMC d0 d1 d2 d3 d4 d5
              go_wp2_with fail
              go_roundw
              case rel =>
                refine ⟨k + 1, ec, by omega, by go_num, rfl, fun h0 i hi => ?_, HS3.out⟩
                rcases Nat.lt_or_ge i k with h3 | h3
                · exact HIN.out i h3
                · obtain rfl : i = k := by omega
                  rw [← hMO]; exact HG3.out h0
              case measure => simp [intOf]; omega
            · have z0 : (ec == 0) = false := by simp [h0]
              have H0 := Lib.hid h0
              have HS := Lib.hid S
              clear S h0 hlt hin
              go_wp2_with fail
              go_meet
              case rel => exact ⟨ec, rfl, fun h => absurd h H0.out, HS.out⟩
          · obtain rfl : nm = k := by omega
            have HS := Lib.hid S
            clear S hlt hk0
            go_wp2_with fail
            go_meet
            case rel => exact ⟨ec, rfl, hin, HS.out⟩
      case rest =>
        obtain ⟨e0, rfl, hp1, S⟩ := hcut
        have HP1 := hp1
        have HS2 := Lib.hid S
        have d2 := S.blk_cell (i := 0) rfl 2
        clear S hp1 HS1
        go_upto_region 15 with fail
        go_cut [82] from 37 (fun v w' => ∃ b : Bool, v = .bool b ∧ Hid (b = true ↔ (e0 = 0 ∧ 0 < nh)) ∧ wc = w')
        case first =>
          by_cases h0 : e0 = 0
          · have z0 : (e0 == 0) = true := by simp [h0]
            have H0 := Lib.hid h0
            by_cases h2 : 0 < nh
            · have t0 : decide ((0 : Int) < (nh : Int)) = true := decide_eq_true (by omega)
              have t0' : decide (0 < nh) = true := decide_eq_true h2
              have H2 := Lib.hid h2
              clear h0 h2
              go_wp2_with fail
              go_meet
              case rel => exact ⟨true, rfl, Lib.hid ⟨fun _ => ⟨H0.out, H2.out⟩, fun _ => rfl⟩, rfl⟩
            · have t0 : decide ((0 : Int) < (nh : Int)) = false := decide_eq_false (by omega)
              have t0' : decide (0 < nh) = false := decide_eq_false h2
              have H2 := Lib.hid h2
              clear h0 h2
              go_wp2_with fail
              go_meet
              case rel => exact ⟨false, rfl, Lib.hid ⟨(fun h => by cases h), fun h => absurd h.2 H2.out⟩, rfl⟩
          · have z0 : (e0 == 0) = false := by simp [h0]
            have H0 := Lib.hid h0
            clear h0
            go_wp2_with fail
            go_meet
            case rel => exact ⟨false, rfl, Lib.hid ⟨(fun h => by cases h), fun h => absurd h.1 H0.out⟩, rfl⟩
        case rest =>
          obtain ⟨bo, rfl, hbo, rfl⟩ := hcut
          go_upto_if 82 with fail
          go_cut [4] from 37 (fun ev w' => ∃ ec : Int, ev = .int .i64 ec ∧ Hid (ec = 0 → e0 = 0 ∧ (nh = 0 ∨ GoodH hs0)) ∧ St W w' [blk gc 34 #[.slice Ac nc cc, .slice Am nm cm, .slice Ah nh ch, .slice Ak nk ck, .slice As ns cs, .slice Ap np cp]])
          case first =>
            cases bo
            · go_wp2_with fail
              go_meet
              case rel =>
                refine ⟨e0, rfl, fun h => ⟨h, ?_⟩, HS2.out⟩
                rcases Nat.eq_zero_or_pos nh with h2 | h2
                · exact .inl h2
                · have := hbo.out.2 ⟨h, h2⟩; cases this
            · have HCH := Lib.hid (refCheckHoles_any wc _ nh hs0 (hh.later HS2.out.bel))
              go_wp2_with fail
              go_at_call 47
              refine HCH.out.mono ?_
              rintro e w4 ⟨⟨ec, rfl, hg⟩, q, rfl⟩
              have HG := Lib.hid hg
              have HS4 := Lib.hid (HS2.out.drewN q)
              clear hg HCH HS2
              go_wp2_with fail
              go_meet
              case rel => exact ⟨ec, rfl, fun h => ⟨(hbo.out.1 (by trivial)).1, .inr (HG.out h)⟩, HS4.out⟩
          case rest =>
            obtain ⟨ec, rfl, hp4, S⟩ := hcut
            obtain ⟨e4, he4⟩ : ∃ z, z = ec := ⟨_, rfl⟩
            rw [← he4] at hp4 ⊢
            have HP2 := hp4
            have HS3 := Lib.hid S
            clear S hp4 he4 HS2 d2 hbo
            generalize e0 = e1 at *
            generalize e4 = e0 at *
            go_upto_block 4 with fail
            go_cut [4] from 37 (fun ev w' => ∃ ec : Int, ev = .int .i64 ec ∧ Hid (ec = 0 → e0 = 0 ∧ ∀ i, i < nk → KO i) ∧ St W w' [blk gc 34 #[.slice Ac nc cc, .slice Am nm cm, .slice Ah nh ch, .slice Ak nk ck, .slice As ns cs, .slice Ap np cp]])
            case first =>
              go_wp2_with fail
              go_loopw [6, 4] (fun iv ev w' => ∃ (k : Nat) (ec : Int), k ≤ nk ∧ iv = .int .i64 k ∧ ev = .int .i64 ec ∧ Hid (ec = 0 → e0 = 0 ∧ ∀ i, i < k → KO i) ∧ St W w' [blk gc 34 #[.slice Ac nc cc, .slice Am nm cm, .slice Ah nh ch, .slice Ak nk ck, .slice As ns cs, .slice Ap np cp]]) (fun iv _ _ => nk - (intOf iv).toNat)
              case atStart => exact ⟨0, e0, Nat.zero_le _, rfl, rfl, fun h => ⟨h, fun i hi => absurd hi (Nat.not_lt_zero _)⟩, HS3.out⟩
              case round =>
                obtain ⟨k, ec, hk0, rfl, rfl, hin, S⟩ := hrel
                clear HS3
                have d0 := S.blk_cell (i := 0) rfl 0
                have d1 := S.blk_cell (i := 0) rfl 1
                have d2 := S.blk_cell (i := 0) rfl 2
                have d3 := S.blk_cell (i := 0) rfl 3
                have d4 := S.blk_cell (i := 0) rfl 4
                have d5 := S.blk_cell (i := 0) rfl 5
                by_cases hlt : k < nk
                · have t0 : decide ((k : Int) < (nk : Int)) = true := decide_eq_true (by omega)
                  have t0' : decide (k < nk) = true := decide_eq_true hlt
                  by_cases h0 : ec = 0
                  · subst h0
                    have HMC := Lib.hid (HKM.out k wr hlt S.bel)
                    have HIN := Lib.hid (hin.out rfl)
                    have HS := Lib.hid S
                    clear S hin
                    go_wp2_with fail
                    go_at_call 48
                    refine HMC.out.mono ?_
                    rintro e w3 ⟨⟨ec, rfl, hg⟩, hb⟩
                    have HS3 := Lib.hid (HS.out.ext hb)
                    have HG3 := Lib.hid hg
                    clear hg hb HS HMC d0 d1 d2 d3 d4 d5
                    go_wp2_with fail
                    go_roundw
                    case rel =>
                      refine ⟨k + 1, ec, by omega, by go_num, rfl, fun h0 => ⟨HIN.out.1, fun i hi => ?_⟩, HS3.out⟩
                      rcases Nat.lt_or_ge i k with h3 | h3
                      · exact HIN.out.2 i h3
                      · obtain rfl : i = k := by omega
                        rw [← hKO]; exact HG3.out h0
                    case measure => simp [intOf]; omega
                  · have z0 : (ec == 0) = false := by simp [h0]
                    have H0 := Lib.hid h0
                    have HS := Lib.hid S
                    clear S h0 hlt hin
                    go_wp2_with fail
                    go_meet
                    case rel => exact ⟨ec, rfl, fun h => absurd h H0.out, HS.out⟩
                · obtain rfl : nk = k := by omega
                  have HS := Lib.hid S
                  clear S hlt hk0
                  go_wp2_with fail
                  go_meet
                  case rel => exact ⟨ec, rfl, hin, HS.out⟩
            case rest =>
              obtain ⟨ec, rfl, hp4, S⟩ := hcut
              obtain ⟨e4, he4⟩ : ∃ z, z = ec := ⟨_, rfl⟩
              rw [← he4] at hp4 ⊢
              have HP3 := hp4
              have HS4 := Lib.hid S
              clear S hp4 he4
              have HNH : Hid (e4 = 0 → nh ≤ 36) := fun h => by
                have h3 := (HP3.out h).1
                rcases (HP2.out h3).2 with h2 | h2
                · omega
                · have := h2.len; have := HLH.out; omega
              generalize e0 = e2 at *
              generalize e4 = e0 at *
              go_upto_block 6 with fail
              go_cut [4] from 37 (fun ev w' => ∃ ec : Int, ev = .int .i64 ec ∧ Hid (ec = 0 → e0 = 0 ∧ ∀ i, i < ns → SO i) ∧ St W w' [blk gc 34 #[.slice Ac nc cc, .slice Am nm cm, .slice Ah nh ch, .slice Ak nk ck, .slice As ns cs, .slice Ap np cp]])
              case first =>
                go_wp2_with fail
                go_loopw [7, 4] (fun iv ev w' => ∃ (k : Nat) (ec : Int), k ≤ ns ∧ iv = .int .i64 k ∧ ev = .int .i64 ec ∧ Hid (ec = 0 → e0 = 0 ∧ ∀ i, i < k → SO i) ∧ St W w' [blk gc 34 #[.slice Ac nc cc, .slice Am nm cm, .slice Ah nh ch, .slice Ak nk ck, .slice As ns cs, .slice Ap np cp]]) (fun iv _ _ => ns - (intOf iv).toNat)
                case atStart => exact ⟨0, e0, Nat.zero_le _, rfl, rfl, fun h => ⟨h, fun i hi => absurd hi (Nat.not_lt_zero _)⟩, HS4.out⟩
                case round =>
                  obtain ⟨k, ec, hk0, rfl, rfl, hin, S⟩ := hrel
                  clear HS4
                  have d0 := S.blk_cell (i := 0) rfl 0
                  have d1 := S.blk_cell (i := 0) rfl 1
                  have d2 := S.blk_cell (i := 0) rfl 2
                  have d3 := S.blk_cell (i := 0) rfl 3
                  have d4 := S.blk_cell (i := 0) rfl 4
                  have d5 := S.blk_cell (i := 0) rfl 5
                  by_cases hlt : k < ns
                  · have t0 : decide ((k : Int) < (ns : Int)) = true := decide_eq_true (by omega)
                    have t0' : decide (k < ns) = true := decide_eq_true hlt
                    by_cases h0 : ec = 0
                    · subst h0
                      obtain ⟨b, o, rfl, hx, c0⟩ := rd_str (hs.later S.bel) hlt
                      have HSTR := Lib.hid (fun w' (hb : Below W.heap.size W w') => rd_str (hs.later hb) hlt)
                      have HIN := Lib.hid (hin.out rfl)
                      have HS := Lib.hid S
                      clear S hin hx
                      go_wp2_with fail
                      generalize wr = wq at *
                      refine wp_cls 6 (fun w' => ∃ n, w' = wq.drewN n) (by kernel_rfl) (by kernel_rfl) ⟨1, rfl⟩ ?_
                      simp only [List.take_succ_cons, List.take_zero, List.drop_succ_cons, List.drop_zero]
                      generalize hK : (fun w' => ∃ n, w' = wq.drewN n) = K
                      intro hne
                      have kw : ∀ y : Wd K, ∃ n, y.w = wq.drewN n := by subst hK; exact fun y => y.h
                      have k0 : ∀ y : Wd K, y.w.cell? ⟨gc, 0, none⟩ = some (Value.slice Ac nc cc) := fun y => by obtain ⟨n, e⟩ := kw y; rw [e]; exact d0
                      have k1 : ∀ y : Wd K, y.w.cell? ⟨gc, 1, none⟩ = some (Value.slice Am nm cm) := fun y => by obtain ⟨n, e⟩ := kw y; rw [e]; exact d1
                      have k2 : ∀ y : Wd K, y.w.cell? ⟨gc, 2, none⟩ = some (Value.slice Ah nh ch) := fun y => by obtain ⟨n, e⟩ := kw y; rw [e]; exact d2
                      have k3 : ∀ y : Wd K, y.w.cell? ⟨gc, 3, none⟩ = some (Value.slice Ak nk ck) := fun y => by obtain ⟨n, e⟩ := kw y; rw [e]; exact d3
                      have k4 : ∀ y : Wd K, y.w.cell? ⟨gc, 4, none⟩ = some (Value.slice (some ⟨b, o, none⟩) ns cs) := fun y => by obtain ⟨n, e⟩ := kw y; rw [e]; exact d4
                      have k5 : ∀ y : Wd K, y.w.cell? ⟨gc, 5, none⟩ = some (Value.slice Ap np cp) := fun y => by obtain ⟨n, e⟩ := kw y; rw [e]; exact d5
                      have k6 : ∀ y : Wd K, y.w.cell? ⟨b, o + k, none⟩ = some (Value.string (sAt sg k)) := fun y => by obtain ⟨n, e⟩ := kw y; rw [e]; exact c0
                      clear hK c0 d0 d1 d2 d3 d4 d5
                      repeat (go_big_quiet_step ((fail)))
                      refine wpQuiet_nil ?_
                      intro y
                      obtain ⟨nn, hyn⟩ := kw y
                      have HSY := Lib.hid (HS.out.drewN nn)
                      rw [← hyn] at HSY
                      clear kw k0 k1 k2 k3 k4 k5 k6 hyn hne HS
                      generalize y.w = wq at *
                      have HM1 := Lib.hid (HMB.out (sAt sg k) wq HSY.out.bel)
                      obtain ⟨mi, hmi⟩ : ∃ z, z = memI ms (sAt sg k) := ⟨_, rfl⟩
                      rw [← hmi] at HM1
                      have HMI := Lib.hid hmi
                      clear hmi
                      go_wp2_with fail
                      go_at_call 10
                      refine HM1.out.mono ?_
                      rintro e w2 ⟨rfl, hb⟩
                      have HS := Lib.hid (HSY.out.ext hb)
                      clear hb HSY HM1
                      by_cases h1 : mi < 0
                      · have t1 : decide (mi < 0) = true := decide_eq_true h1
                        clear h1
                        go_wp2_with fail
                        go_roundw
                        case rel => exact ⟨k + 1, 10, by omega, by go_num, rfl, fun h => absurd h (by decide), HS.out⟩
                        case measure => simp [intOf]; omega
                      have t1 : decide (mi < 0) = false := decide_eq_false h1
                      have HMEM : Hid (∃ j, j < nm ∧ (mbAt ms j).name = sAt sg k) := by
                        show ∃ j, _
                        rw [HLM.out]
                        exact memI_has (by rw [← HMI.out]; exact h1)
                      clear h1
                      obtain ⟨b', o', hbo, _, c0⟩ := HSTR.out w2 HS.out.bel
                      cases hbo
                      have d0 := HS.out.blk_cell (i := 0) rfl 0
                      have d1 := HS.out.blk_cell (i := 0) rfl 1
                      have d2 := HS.out.blk_cell (i := 0) rfl 2
                      have d3 := HS.out.blk_cell (i := 0) rfl 3
                      have d4 := HS.out.blk_cell (i := 0) rfl 4
                      have d5 := HS.out.blk_cell (i := 0) rfl 5
                      go_wp2_with fail
                      generalize w2 = wq at *
                      refine wp_cls 9 (fun w' => ∃ n, w' = wq.drewN n) (by kernel_rfl) (by kernel_rfl) ⟨1, rfl⟩ ?_
                      simp only [List.take_succ_cons, List.take_zero, List.drop_succ_cons, List.drop_zero]
                      generalize hK : (fun w' => ∃ n, w' = wq.drewN n) = K
                      intro hne
                      have kw : ∀ y : Wd K, ∃ n, y.w = wq.drewN n := by subst hK; exact fun y => y.h
                      have k0 : ∀ y : Wd K, y.w.cell? ⟨gc, 4, none⟩ = some (Value.slice (some ⟨b, o, none⟩) ns cs) := fun y => by obtain ⟨n, e⟩ := kw y; rw [e]; exact d4
                      have k1 : ∀ y : Wd K, y.w.cell? ⟨b, o + k, none⟩ = some (Value.string (sAt sg k)) := fun y => by obtain ⟨n, e⟩ := kw y; rw [e]; exact c0
                      clear hK c0 d4
                      repeat (go_big_quiet_step ((fail)))
                      refine wpQuiet_nil ?_
                      intro y
                      obtain ⟨nn, hyn⟩ := kw y
                      have HSY := Lib.hid (HS.out.drewN nn)
                      rw [← hyn] at HSY
                      clear kw k0 k1 hyn hne HS
                      generalize y.w = wq at *
                      have HHA := Lib.hid (refHas_any wq _ _ k (sAt sg k) (sg.take k) (by rw [List.map_take]; exact rd_takeU (hs.later HSY.out.bel) (by omega)))
                      have HTK : Hid (∀ j, j < k → sAt (sg.take k) j = sAt sg j) := fun j hj => by
                        unfold sAt
                        rw [List.getD_eq_getElem?_getD, List.getD_eq_getElem?_getD, List.getElem?_take_of_lt hj]
                      go_wp2_with fail
                      go_at_call 45
                      refine HHA.out.mono ?_
                      rintro e w' ⟨hb, rfl⟩
                      rcases isW_of hb with ⟨rfl, hx⟩ | ⟨rfl, hx⟩
                      · clear hb hx HHA
                        go_wp2_with fail
                        go_roundw
                        case rel => exact ⟨k + 1, 9, by omega, by go_num, rfl, fun h => absurd h (by decide), HSY.out⟩
                        case measure => simp [intOf]; omega
                      have HNEW : Hid (∀ j, j < k → sAt sg j ≠ sAt sg k) := fun j hj e => hx ⟨j, hj, by rw [HTK.out j hj]; exact e⟩
                      clear hb hx HHA HTK
                      obtain ⟨b', o', hbo, _, c0⟩ := HSTR.out wq HSY.out.bel
                      cases hbo
                      have d0 := HSY.out.blk_cell (i := 0) rfl 0
                      have d1 := HSY.out.blk_cell (i := 0) rfl 1
                      have d2 := HSY.out.blk_cell (i := 0) rfl 2
                      have d3 := HSY.out.blk_cell (i := 0) rfl 3
                      have d4 := HSY.out.blk_cell (i := 0) rfl 4
                      have d5 := HSY.out.blk_cell (i := 0) rfl 5
                      have HS := HSY
                      clear HSY
                      go_wp2_with fail
                      refine wp_cls 6 (fun w' => ∃ n, w' = wq.drewN n) (by kernel_rfl) (by kernel_rfl) ⟨1, rfl⟩ ?_
                      simp only [List.take_succ_cons, List.take_zero, List.drop_succ_cons, List.drop_zero]
                      generalize hK : (fun w' => ∃ n, w' = wq.drewN n) = K
                      intro hne
                      have kw : ∀ y : Wd K, ∃ n, y.w = wq.drewN n := by subst hK; exact fun y => y.h
                      have k0 : ∀ y : Wd K, y.w.cell? ⟨gc, 0, none⟩ = some (Value.slice Ac nc cc) := fun y => by obtain ⟨n, e⟩ := kw y; rw [e]; exact d0
                      have k1 : ∀ y : Wd K, y.w.cell? ⟨gc, 1, none⟩ = some (Value.slice Am nm cm) := fun y => by obtain ⟨n, e⟩ := kw y; rw [e]; exact d1
                      have k2 : ∀ y : Wd K, y.w.cell? ⟨gc, 2, none⟩ = some (Value.slice Ah nh ch) := fun y => by obtain ⟨n, e⟩ := kw y; rw [e]; exact d2
                      have k3 : ∀ y : Wd K, y.w.cell? ⟨gc, 3, none⟩ = some (Value.slice Ak nk ck) := fun y => by obtain ⟨n, e⟩ := kw y; rw [e]; exact d3
                      have k4 : ∀ y : Wd K, y.w.cell? ⟨gc, 4, none⟩ = some (Value.slice (some ⟨b, o, none⟩) ns cs) := fun y => by obtain ⟨n, e⟩ := kw y; rw [e]; exact d4
                      have k5 : ∀ y : Wd K, y.w.cell? ⟨gc, 5, none⟩ = some (Value.slice Ap np cp) := fun y => by obtain ⟨n, e⟩ := kw y; rw [e]; exact d5
                      have k6 : ∀ y : Wd K, y.w.cell? ⟨b, o + k, none⟩ = some (Value.string (sAt sg k)) := fun y => by obtain ⟨n, e⟩ := kw y; rw [e]; exact c0
                      clear hK c0 d0 d1 d2 d3 d4 d5
                      repeat (go_big_quiet_step ((fail)))
                      refine wpQuiet_nil ?_
                      intro y
                      obtain ⟨nn, hyn⟩ := kw y
                      have HSY := Lib.hid (HS.out.drewN nn)
                      rw [← hyn] at HSY
                      clear kw k0 k1 k2 k3 k4 k5 k6 hyn hne HS
                      generalize y.w = wq at *
                      have HM1 := Lib.hid (HSB.out (HNH.out HIN.out.1) (sAt sg k) wq HSY.out.bel)
                      go_wp2_with fail
                      go_at_call 49
                      refine HM1.out.mono ?_
                      rintro e w2 ⟨⟨ec, rfl, hg⟩, hb⟩
                      have HS := Lib.hid (HSY.out.ext hb)
                      have HG3 := Lib.hid hg
                      clear hg hb HSY HM1
                      go_wp2_with fail
                      go_roundw
                      case rel =>
                        refine ⟨k + 1, ec, by omega, by go_num, rfl, fun h0 => ⟨HIN.out.1, fun i hi => ?_⟩, HS.out⟩
                        rcases Nat.lt_or_ge i k with h3 | h3
                        · exact HIN.out.2 i h3
                        · obtain rfl : i = k := by omega
                          rw [← hSO]; exact HSI.out i HMEM.out HNEW.out (HG3.out h0)
                      case measure => simp [intOf]; omega
                    · have z0 : (ec == 0) = false := by simp [h0]
                      have H0 := Lib.hid h0
                      have HS := Lib.hid S
                      clear S h0 hlt hin
                      go_wp2_with fail
                      go_meet
                      case rel => exact ⟨ec, rfl, fun h => absurd h H0.out, HS.out⟩
                  · obtain rfl : ns = k := by omega
                    have HS := Lib.hid S
                    clear S hlt hk0
                    go_wp2_with fail
                    go_meet
                    case rel => exact ⟨ec, rfl, hin, HS.out⟩
              case rest =>
                obtain ⟨ec, rfl, hp4, S⟩ := hcut
                obtain ⟨e4, he4⟩ : ∃ z, z = ec := ⟨_, rfl⟩
                rw [← he4] at hp4 ⊢
                have HP4 := hp4
                have HS5 := Lib.hid S
                clear S hp4 he4
                generalize e0 = e3 at *
                generalize e4 = e0 at *
                go_upto_block 8 with fail
                go_cut [4] from 37 (fun ev w' => ∃ ec : Int, ev = .int .i64 ec ∧ Hid (ec = 0 → e0 = 0 ∧ ∀ i, i < np → PO i) ∧ St W w' [blk gc 34 #[.slice Ac nc cc, .slice Am nm cm, .slice Ah nh ch, .slice Ak nk ck, .slice As ns cs, .slice Ap np cp]])
                case first =>
                  go_wp2_with fail
                  go_loopw [8, 4] (fun iv ev w' => ∃ (k : Nat) (ec : Int), k ≤ np ∧ iv = .int .i64 k ∧ ev = .int .i64 ec ∧ Hid (ec = 0 → e0 = 0 ∧ ∀ i, i < k → PO i) ∧ St W w' [blk gc 34 #[.slice Ac nc cc, .slice Am nm cm, .slice Ah nh ch, .slice Ak nk ck, .slice As ns cs, .slice Ap np cp]]) (fun iv _ _ => np - (intOf iv).toNat)
                  case atStart => exact ⟨0, e0, Nat.zero_le _, rfl, rfl, fun h => ⟨h, fun i hi => absurd hi (Nat.not_lt_zero _)⟩, HS5.out⟩
                  case round =>
                    obtain ⟨k, ec, hk0, rfl, rfl, hin, S⟩ := hrel
                    clear HS5
                    have d0 := S.blk_cell (i := 0) rfl 0
                    have d1 := S.blk_cell (i := 0) rfl 1
                    have d2 := S.blk_cell (i := 0) rfl 2
                    have d3 := S.blk_cell (i := 0) rfl 3
                    have d4 := S.blk_cell (i := 0) rfl 4
                    have d5 := S.blk_cell (i := 0) rfl 5
                    by_cases hlt : k < np
                    · have t0 : decide ((k : Int) < (np : Int)) = true := decide_eq_true (by omega)
                      have t0' : decide (k < np) = true := decide_eq_true hlt
                      by_cases h0 : ec = 0
                      · subst h0
                        have HMC := Lib.hid (HPM.out k wr hlt S.bel)
                        have HIN := Lib.hid (hin.out rfl)
                        have HS := Lib.hid S
                        clear S hin
                        go_wp2_with fail
                        go_at_call 50
                        refine HMC.out.mono ?_
                        rintro e w3 ⟨⟨ec, rfl, hg⟩, hb⟩
                        have HS3 := Lib.hid (HS.out.ext hb)
                        have HG3 := Lib.hid hg
                        clear hg hb HS HMC d0 d1 d2 d3 d4 d5
                        go_wp2_with fail
                        go_roundw
                        case rel =>
                          refine ⟨k + 1, ec, by omega, by go_num, rfl, fun h0 => ⟨HIN.out.1, fun i hi => ?_⟩, HS3.out⟩
                          rcases Nat.lt_or_ge i k with h3 | h3
                          · exact HIN.out.2 i h3
                          · obtain rfl : i = k := by omega
                            rw [← hPO]; exact HG3.out h0
                        case measure => simp [intOf]; omega
                      · have z0 : (ec == 0) = false := by simp [h0]
                        have H0 := Lib.hid h0
                        have HS := Lib.hid S
                        clear S h0 hlt hin
                        go_wp2_with fail
                        go_meet
                        case rel => exact ⟨ec, rfl, fun h => absurd h H0.out, HS.out⟩
                    · obtain rfl : np = k := by omega
                      have HS := Lib.hid S
                      clear S hlt hk0
                      go_wp2_with fail
                      go_meet
                      case rel => exact ⟨ec, rfl, hin, HS.out⟩
                case rest =>
                  obtain ⟨e5, rfl, hp5, S5⟩ := hcut
                  have HF : Hid (e5 = 0 → GoodU ⟨.slice Ac nc cc, nc, cl, .slice Am nm cm, nm, ms, .slice Ah nh ch, nh, hs0, .slice Ak nk ck, nk, ks, .slice As ns cs, ns, sg, .slice Ap np cp, np, ps⟩ 256 200) := fun h => by
                    have h5 := hp5.out h
                    have h4 := HP4.out h5.1
                    have h3 := HP3.out h4.1
                    have h2 := HP2.out h3.1
                    refine HFIN.out (fun i hi => ?_) h2.2 (fun i hi => ?_) (fun i hi => ?_) (fun i hi => ?_)
                    · have := HP1.out h2.1 i hi; rw [← hMO] at this; exact this
                    · have := h3.2 i hi; rw [← hKO] at this; exact this
                    · have := h4.2 i hi; rw [← hSO] at this; exact this
                    · have := h5.2 i hi; rw [← hPO] at this; exact this
                  have HB := Lib.hid S5.bel
                  clear S5 hp5
                  go_wp2_with fail
                  go_ret
                  exact ⟨⟨e5, rfl, HF.out⟩, HB.out⟩
end Go.Proofs.YtnaafefcijgpkaaGreatDoor
/- Chapter 10, the program: checkMarks, of a union without an error. -/
namespace Go.Proofs.YtnaafefcijgpkaaGreatDoor
open Go.RowKit Go.Mem Go.Sheet Go.Adj
set_option maxRecDepth 100000 in
set_option maxHeartbeats 8000000 in
theorem uCheckMarks_ok (W : World) (u : UI) (hg : GoodU u 256 200) (h : RdU W (· < W.heap.size) u) :
    Calls Tryz.prog 52 #[u.val] W fun e w' => e = .returned (.int .i64 0) ∧ Below W.heap.size W w' := by
  have HKS : Hid (∀ w, Below W.heap.size W w → Rd w (· < w.heap.size) 5 u.vk u.nk (u.ks.flatMap MkI.cells)) := fun w hb => h.k.later hb
  have HSS : Hid (∀ w, Below W.heap.size W w → Rd w (· < w.heap.size) 1 u.vs u.ns (u.sg.map .string)) := fun w hb => h.s.later hb
  have HLM : u.nm = u.ms.length := h.m.count (f := MbI.cells) (size := 3) (fun _ => rfl) (by decide)
  have HLH : u.nh = u.hs.length := h.h.count (f := HI.cells) (size := 2) (fun _ => rfl) (by decide)
  have HPOS : Hid (∀ s, (∃ j, j < u.nm ∧ (mbAt u.ms j).name = s) → 0 ≤ memI u.ms s) := Lib.hid (fun s he => (mem_pos hg HLM he).1)
  have HMB : Hid (∀ s w, Below W.heap.size W w → Calls Tryz.prog 60 #[u.val, .string s] w fun e w' => e = .returned (.int .i64 (memI u.ms s)) ∧ Below w.heap.size w w') := Lib.hid (fun s w hb => uMember_any w u s (h.later hb))
  have hn4 := h.h.le
  have hnh : u.nh ≤ 36 := by
    rcases hg.hs with h0 | h0
    · omega
    · have := h0.len; omega
  have HSG : Hid (∀ i w, i < u.ns → Below W.heap.size W w → Calls Tryz.prog 83 #[u.val, .string (sAt u.sg i)] w fun e w' => e = .returned (.int .i64 0) ∧ Below w.heap.size w w') := Lib.hid (fun i w hi hb => uSignable_ok w u _ hnh (hg.sg i hi).2 (h.later hb))
  have HG1 := Lib.hid hg.kk
  have HG2 := Lib.hid hg.kk2
  have HG3 := Lib.hid hg.sg
  have HG4 := Lib.hid hg.sg2
  have hn1 := hg.len.2.2.1
  have hn2 := hg.len.2.2.2.1
  clear HLM HLH hnh
  obtain ⟨Ac, cc, ec, _, _, _⟩ := h.c.open_
  obtain ⟨Am, cm, em, _, _, _⟩ := h.m.open_
  obtain ⟨Ah, ch, eh, _, _, _⟩ := h.h.open_
  obtain ⟨Ak, ck, ek, _, _, _⟩ := h.k.open_
  obtain ⟨As, cs, es, _, _, _⟩ := h.s.open_
  obtain ⟨Ap, cp, ep, _, _, _⟩ := h.p.1.open_
  clear h hg
  obtain ⟨vc, nc, cl, vm, nm, ms, vh, nh, hs, vk, nk, ks, vs, ns, sg, vp, np, ps⟩ := u
  simp only [UI.val] at *
  subst ec em eh ek es ep
  have S0 := ((St.refl W).blk_new #[.slice Ac nc cc, .slice Am nm cm, .slice Ah nh ch, .slice Ak nk ck, .slice As ns cs, .slice Ap np cp] 28).mapS_new
  simp only [List.cons_append, List.nil_append, World.size_alloc] at S0
  have d0 := S0.blk_cell (i := 0) rfl 3
  have hmm := @run_makeMap Tryz.prog
  go_enter Tryz.func52, Tryz.ntmps52
  go_wp2_with fail
  obtain ⟨gb, hgb⟩ : ∃ g, g = W.heap.size := ⟨_, rfl⟩
  obtain ⟨g3, hg3⟩ : ∃ g, g = W.heap.size + 1 := ⟨_, rfl⟩
  rw [← hg3, ← hgb] at S0
  rw [← hg3, ← hgb]
  generalize (W.alloc (.cells #[.slice Ac nc cc, .slice Am nm cm, .slice Ah nh ch, .slice Ak nk ck, .slice As ns cs, .slice Ap np cp] 28)).alloc (.map #[] 0) = w1 at *
  have HS0 := Lib.hid S0
  clear S0 hg3 hgb hmm
  go_loopw [16] (fun i w' => ∃ k : Nat, k ≤ nk ∧ i = .int .i64 k ∧ St W w' [blk gb 28 #[.slice Ac nc cc, .slice Am nm cm, .slice Ah nh ch, .slice Ak nk ck, .slice As ns cs, .slice Ap np cp], mapS g3 (keyE ks k) k]) (fun i _ => nk - (intOf i).toNat)
  case atStart => exact ⟨0, Nat.zero_le _, rfl, HS0.out⟩
  case round =>
    obtain ⟨k, hk, rfl, S⟩ := hrel
    clear HS0 d0
    by_cases hlt : k < nk
    · obtain ⟨b, o, rfl, hx, c0, c1, c2, c3, c4⟩ := rd_mk (HKS.out wr S.bel) hlt
      have HNO : Hid (∀ i, i < k → ¬ ((mkAt ks k).pl = (mkAt ks i).pl ∧ (mkAt ks k).h = (mkAt ks i).h ∧ ownK (mkAt ks k) = ownK (mkAt ks i))) := Lib.hid (fun i hi e => by
        have h1 := HG2.out k i hlt hi
        unfold keyK at h1
        rw [decide_eq_true e.1.symm, decide_eq_true e.2.1.symm, e.2.2] at h1
        simp at h1)
      obtain ⟨hg1, hg2, hg3, hg4, hg5⟩ := HG1.out k hlt
      have HOW := Lib.hid (fun w => uOwn_any w (mkAt ks k))
      have HCE := Lib.hid (fun w => uCheckEntry_ok w (mkAt ks k).s (mkAt ks k).m hg5)
      have HPU := Lib.hid (keyE_push ks k)
      have HS0 := Lib.hid S
      clear S hx hg5
      generalize hes : keyE ks k = es at *
      have HES := Lib.hid hes
      clear hes
      generalize mkAt ks k = x at *
      generalize ownK x = ob at *
      obtain ⟨xp, xb, xh, xs, xm⟩ := x
      simp only at c0 c1 c2 c3 c4 HNO HOW HCE HPU hg1 hg2 hg3 hg4
      have HLK : Hid (∀ gx gk w, St W w [blk gb 28 #[.slice Ac nc cc, .slice Am nm cm, .slice Ah nh ch, .slice (some ⟨b, o, none⟩) nk ck, .slice As ns cs, .slice Ap np cp], mapS g3 es k, blk gx 67 #[.string xp, .string xb, .int .i64 xh, .int .i64 xs, .string xm], blk gk 155 #[.string xp, .int .i64 xh, .bool ob]] → (Instr.lookup 153 (.map (some g3)) (.agg #[.string xp, .int .i64 xh, .bool ob]) false).run Tryz.prog w = .ok (.bool false) w) := Lib.hid (fun gx gk w hS => by
        have h1 := hS.mapS_at (i := 1) rfl
        rw [← HES.out] at h1
        exact run_lookupK_none h1 HNO.out)
      have SA := HS0.out.blk_new #[.string xp, .string xb, .int .i64 xh, .int .i64 xs, .string xm] 67
      simp only [List.cons_append, List.nil_append] at SA
      have HS := Lib.hid SA
      clear SA HS0
      go_wp2_with fail
      clear c0 c1 c2 c3 c4
      generalize wr.heap.size = gx at *
      generalize wr.alloc (.cells #[.string xp, .string xb, .int .i64 xh, .int .i64 xs, .string xm] 67) = w3 at *
      refine wp_head_tail3 0 8 3 [] [0, 1, 2, 3, 4] rfl (fun w' => St W w' [blk gb 28 #[.slice Ac nc cc, .slice Am nm cm, .slice Ah nh ch, .slice (some ⟨b, o, none⟩) nk ck, .slice As ns cs, .slice Ap np cp], mapS g3 es k, blk gx 67 #[.string xp, .string xb, .int .i64 xh, .int .i64 xs, .string xm]])
        (fun a a' w' => ∃ gk : Nat, a' = ((a.put (some 25) (.bool ob)).put (some 26) (.agg #[.string xp, .int .i64 xh, .bool ob])).put (some 6) (.pointer (some ⟨gk, 0, none⟩)) ∧ St W w' [blk gb 28 #[.slice Ac nc cc, .slice Am nm cm, .slice Ah nh ch, .slice (some ⟨b, o, none⟩) nk ck, .slice As ns cs, .slice Ap np cp], mapS g3 es k, blk gx 67 #[.string xp, .string xb, .int .i64 xh, .int .i64 xs, .string xm], blk gk 155 #[.string ⟨#[]⟩, .int .i64 0, .bool false]]) (by kernel_rfl) (by kernel_rfl) HS.out.drew ?_
      simp only [pick, List.filterMap_cons, List.filterMap_nil, List.getElem?_toArray, List.getElem?_cons_succ, List.getElem?_cons_zero]
      have HSD := Lib.hid HS.out.drew
      generalize hK : (fun w' : World => St W w' [blk gb 28 #[.slice Ac nc cc, .slice Am nm cm, .slice Ah nh ch, .slice (some ⟨b, o, none⟩) nk ck, .slice As ns cs, .slice Ap np cp], mapS g3 es k, blk gx 67 #[.string xp, .string xb, .int .i64 xh, .int .i64 xs, .string xm]]) = K
      have kS : ∀ y : Wd K, St W y.w [blk gb 28 #[.slice Ac nc cc, .slice Am nm cm, .slice Ah nh ch, .slice (some ⟨b, o, none⟩) nk ck, .slice As ns cs, .slice Ap np cp], mapS g3 es k, blk gx 67 #[.string xp, .string xb, .int .i64 xh, .int .i64 xs, .string xm]] := by subst hK; exact fun y => y.h
      have hne : Nonempty (Wd K) := ⟨⟨_, by subst hK; exact HSD.out⟩⟩
      have hKd : ∀ (w' : World) (M : List Asr), St W w' ([blk gb 28 #[.slice Ac nc cc, .slice Am nm cm, .slice Ah nh ch, .slice (some ⟨b, o, none⟩) nk ck, .slice As ns cs, .slice Ap np cp], mapS g3 es k, blk gx 67 #[.string xp, .string xb, .int .i64 xh, .int .i64 xs, .string xm]] ++ M) → K w' := by
        intro w' M h
        subst hK
        exact h.sub (List.sublist_append_left _ _)
      have k0 : ∀ y : Wd K, y.w.cell? ⟨gx, 0, none⟩ = some (.string xp) := fun y => (kS y).blk_cell (i := 2) rfl 0
      have k1 : ∀ y : Wd K, y.w.cell? ⟨gx, 1, none⟩ = some (.string xb) := fun y => (kS y).blk_cell (i := 2) rfl 1
      have k2 : ∀ y : Wd K, y.w.cell? ⟨gx, 2, none⟩ = some (.int .i64 xh) := fun y => (kS y).blk_cell (i := 2) rfl 2
      have k3 : ∀ y : Wd K, y.w.cell? ⟨gx, 3, none⟩ = some (.int .i64 xs) := fun y => (kS y).blk_cell (i := 2) rfl 3
      have k4 : ∀ y : Wd K, y.w.cell? ⟨gx, 4, none⟩ = some (.string xm) := fun y => (kS y).blk_cell (i := 2) rfl 4
      clear hK
      generalize (w3).drew = w0 at *
      refine wpQuiet_nil ?_
      change wpQuiet _ _ _ _ (_ :: _ :: _ :: _ :: _ :: []) _
      repeat (go_big_quiet_step ((fail)))
      refine wpQuiet_nil ?_
      clear kS k0 k1 k2 k3 k4
      have S := HSD.out
      clear HS HSD
      refine ⟨?_, ?_⟩
      · as_aux_lemma =>
        refine headW_all (rs := [5, 7]) (by kernel_rfl) (by decide) (by decide) (List.forall_mem_cons.2 ⟨?_, List.forall_mem_cons.2 ⟨?_, List.forall_mem_nil _⟩⟩)
        · as_aux_lemma =>
          refine wpOp_list (o := _) rfl ?_
          intro Q' hQ'
          go_wp2_with (go_at_call 81; refine (HOW.out _).mono ?_; rintro e w5 ⟨rfl, hb⟩)
          have S := S.ext hb
          clear hb
          refine ⟨hKd _ _ S, ?_⟩
          refine headW_all (rs := [6, 7]) (by kernel_rfl) (by decide) (by decide) (List.forall_mem_cons.2 ⟨?_, List.forall_mem_cons.2 ⟨?_, List.forall_mem_nil _⟩⟩)
          · as_aux_lemma =>
            refine wpOp_list (o := _) rfl ?_
            intro Q' hQ'
            go_wp2_with fail
            refine ⟨hKd _ _ S, ?_⟩
            refine headW_all (rs := [7]) (by kernel_rfl) (by decide) (by decide) (List.forall_mem_cons.2 ⟨?_, List.forall_mem_nil _⟩)
            refine wpOp_list (o := _) rfl ?_
            intro Q' hQ'
            have SA := S.blk_new #[.string ⟨#[]⟩, .int .i64 0, .bool false] 155
            simp only [List.cons_append, List.nil_append] at SA
            go_wp2_with fail
            clear S
            generalize Array.size _ = gk at SA ⊢
            generalize World.alloc _ _ = wx at SA ⊢
            have S := SA
            clear SA
            refine ⟨hKd _ _ S, ?_⟩
            exact ⟨by kernel_rfl, gk, by kernel_rfl, S⟩
          · as_aux_lemma =>
            refine wpOp_list (o := _) rfl ?_
            intro Q' hQ'
            have SA := S.blk_new #[.string ⟨#[]⟩, .int .i64 0, .bool false] 155
            simp only [List.cons_append, List.nil_append] at SA
            go_wp2_with fail
            clear S
            generalize Array.size _ = gk at SA ⊢
            generalize World.alloc _ _ = wx at SA ⊢
            have S := SA
            clear SA
            refine ⟨hKd _ _ S, ?_⟩
            refine headW_all (rs := [6]) (by kernel_rfl) (by decide) (by decide) (List.forall_mem_cons.2 ⟨?_, List.forall_mem_nil _⟩)
            refine wpOp_list (o := _) rfl ?_
            intro Q' hQ'
            go_wp2_with fail
            refine ⟨hKd _ _ S, ?_⟩
            exact ⟨by kernel_rfl, gk, by kernel_rfl, S⟩
        · as_aux_lemma =>
          refine wpOp_list (o := _) rfl ?_
          intro Q' hQ'
          have SA := S.blk_new #[.string ⟨#[]⟩, .int .i64 0, .bool false] 155
          simp only [List.cons_append, List.nil_append] at SA
          go_wp2_with fail
          clear S
          generalize Array.size _ = gk at SA ⊢
          generalize World.alloc _ _ = wx at SA ⊢
          have S := SA
          clear SA
          refine ⟨hKd _ _ S, ?_⟩
          refine headW_all (rs := [5]) (by kernel_rfl) (by decide) (by decide) (List.forall_mem_cons.2 ⟨?_, List.forall_mem_nil _⟩)
          refine wpOp_list (o := _) rfl ?_
          intro Q' hQ'
          go_wp2_with (go_at_call 81; refine (HOW.out _).mono ?_; rintro e w5 ⟨rfl, hb⟩)
          have S := S.ext hb
          clear hb
          refine ⟨hKd _ _ S, ?_⟩
          refine headW_all (rs := [6]) (by kernel_rfl) (by decide) (by decide) (List.forall_mem_cons.2 ⟨?_, List.forall_mem_nil _⟩)
          refine wpOp_list (o := _) rfl ?_
          intro Q' hQ'
          go_wp2_with fail
          refine ⟨hKd _ _ S, ?_⟩
          exact ⟨by kernel_rfl, gk, by kernel_rfl, S⟩
      · rintro a' w9 ⟨gk, rfl, S9⟩
        have S4 := S9.blk_row (i := 3) rfl #[.string xp, .int .i64 xh, .bool ob]
        simp only [List.set_cons_zero, List.set_cons_succ] at S4
        have HS4 := Lib.hid S4
        refine wpList_store_row rfl 155 (.tmp 6) (.tmp 26) rfl gk #[.string xp, .int .i64 xh, .bool ob] rfl rfl 155 _ (S9.blk_at (i := 3) rfl).2.2 (by kernel_rfl) rfl (by simp [Value.oneCell']) ?_
        clear S4 S9 HOW
        generalize World.setRow _ _ _ = w4 at *
        go_wp2_with fail
        refine NoPanic.normal ?_
        have d0 := HS4.out.blk_cell (i := 0) rfl 0
        have d1 := HS4.out.blk_cell (i := 0) rfl 1
        have d2 := HS4.out.blk_cell (i := 0) rfl 2
        have d3 := HS4.out.blk_cell (i := 0) rfl 3
        have d4 := HS4.out.blk_cell (i := 0) rfl 4
        have d5 := HS4.out.blk_cell (i := 0) rfl 5
        have e0 := HS4.out.blk_cell (i := 2) rfl 0
        have HM0 := Lib.hid (HMB.out xp _ HS4.out.bel)
        obtain ⟨mi, hmi⟩ : ∃ z, z = memI ms xp := ⟨_, rfl⟩
        obtain ⟨mj, hmj⟩ : ∃ z, z = memI ms xb := ⟨_, rfl⟩
        rw [← hmi] at HM0
        have hp1 : 0 ≤ mi := by rw [hmi]; exact HPOS.out _ hg1
        have hp2 : 0 ≤ mj := by rw [hmj]; exact HPOS.out _ hg2
        have t1 : decide (mi < 0) = false := decide_eq_false (by omega)
        have t2 : decide (mj < 0) = false := decide_eq_false (by omega)
        have HMJ := Lib.hid hmj
        clear hmi hmj hp1 hp2
        go_wp2_with fail
        have HM1 := HM0
        clear HM0
        go_at_call 60
        refine HM1.out.mono ?_
        rintro e w5 ⟨rfl, hb⟩
        have HS5 := Lib.hid (HS4.out.ext hb)
        clear hb HS4 HM1 d0 d1 d2 d3 d4 d5 e0
        have d0 := HS5.out.blk_cell (i := 0) rfl 0
        have d1 := HS5.out.blk_cell (i := 0) rfl 1
        have d2 := HS5.out.blk_cell (i := 0) rfl 2
        have d3 := HS5.out.blk_cell (i := 0) rfl 3
        have d4 := HS5.out.blk_cell (i := 0) rfl 4
        have d5 := HS5.out.blk_cell (i := 0) rfl 5
        have e1 := HS5.out.blk_cell (i := 2) rfl 1
        have HM2 := Lib.hid (HMB.out xb w5 HS5.out.bel)
        rw [← HMJ.out] at HM2
        go_wp2_with fail
        go_at_call 60
        refine HM2.out.mono ?_
        rintro e w6 ⟨rfl, hb⟩
        have HS := Lib.hid (HS5.out.ext hb)
        clear hb HS5 HM2 d0 d1 d2 d3 d4 d5 e1 HMJ
        have d2 := HS.out.blk_cell (i := 0) rfl 2
        have e2 := HS.out.blk_cell (i := 2) rfl 2
        go_wp2_with (go_at_call 67; refine (uIn _ _ _ _ hg3 hg4).mono ?_; rintro e w' ⟨rfl, rfl⟩)
        clear d2 e2
        refine wp_cls 9 (fun w' => St W w' [blk gb 28 #[.slice Ac nc cc, .slice Am nm cm, .slice Ah nh ch, .slice (some ⟨b, o, none⟩) nk ck, .slice As ns cs, .slice Ap np cp], mapS g3 es k, blk gx 67 #[.string xp, .string xb, .int .i64 xh, .int .i64 xs, .string xm], blk gk 155 #[.string xp, .int .i64 xh, .bool ob]]) (by kernel_rfl) (by kernel_rfl) HS.out.drew ?_
        simp only [List.take_succ_cons, List.take_zero, List.drop_succ_cons, List.drop_zero]
        generalize hK : (fun w' => St W w' [blk gb 28 #[.slice Ac nc cc, .slice Am nm cm, .slice Ah nh ch, .slice (some ⟨b, o, none⟩) nk ck, .slice As ns cs, .slice Ap np cp], mapS g3 es k, blk gx 67 #[.string xp, .string xb, .int .i64 xh, .int .i64 xs, .string xm], blk gk 155 #[.string xp, .int .i64 xh, .bool ob]]) = K
        intro hne
        have kS : ∀ y : Wd K, St W y.w [blk gb 28 #[.slice Ac nc cc, .slice Am nm cm, .slice Ah nh ch, .slice (some ⟨b, o, none⟩) nk ck, .slice As ns cs, .slice Ap np cp], mapS g3 es k, blk gx 67 #[.string xp, .string xb, .int .i64 xh, .int .i64 xs, .string xm], blk gk 155 #[.string xp, .int .i64 xh, .bool ob]] := by subst hK; exact fun y => y.h
        have hK3 : ∀ w w' : World, K w → Below w.heap.size w w' → K w' := by subst hK; exact fun w w' h h' => h.ext h'
        have k0 : ∀ y : Wd K, y.w.cell? ⟨gx, 3, none⟩ = some (.int .i64 xs) := fun y => (kS y).blk_cell (i := 2) rfl 3
        have k1 : ∀ y : Wd K, y.w.cell? ⟨gx, 4, none⟩ = some (.string xm) := fun y => (kS y).blk_cell (i := 2) rfl 4
        have k2 : ∀ y : Wd K, y.w.cell? ⟨gk, 0, none⟩ = some (.string xp) := fun y => (kS y).blk_cell (i := 3) rfl 0
        have k3 : ∀ y : Wd K, y.w.cell? ⟨gk, 1, none⟩ = some (.int .i64 xh) := fun y => (kS y).blk_cell (i := 3) rfl 1
        have k4 : ∀ y : Wd K, y.w.cell? ⟨gk, 2, none⟩ = some (.bool ob) := fun y => (kS y).blk_cell (i := 3) rfl 2
        have k5 : ∀ y : Wd K, (Instr.lookup 153 (.map (some g3)) (.agg #[.string xp, .int .i64 xh, .bool ob]) false).run Tryz.prog y.w = .ok (.bool false) y.w := fun y => HLK.out _ _ y.w (kS y)
        have KS := Lib.hid kS
        have HKK := Lib.hid hK3
        clear hK kS hK3
        repeat (go_big_quiet_step ((first
          | (go_at_call 68; exact cls_below HKK.out (HCE.out _))
          | (go_at_call 59; exact cls_same (uNo _ _)))))
        refine wpQuiet_nil ?_
        intro y
        have SY := Lib.hid (KS.out y)
        clear k0 k1 k2 k3 k4 k5 KS HKK hne HS
        generalize y.w = wy at *
        have S9 := SY.out.alloc (.cells #[.int .i64 0, .int .i64 0, .int .i64 0] 38)
        have z0 := S9.blk_cell (i := 3) rfl 0
        have z1 := S9.blk_cell (i := 3) rfl 1
        have z2 := S9.blk_cell (i := 3) rfl 2
        have HSZ := Lib.hid S9
        have S9m := S9
        rw [← HES.out] at S9m
        have HSM := Lib.hid S9m
        clear SY S9 S9m
        go_wp2_with (first
          | (go_at_call 32; refine (uOk3 _ _ (by simp) (by simp) (by simp) (by simp)).mono ?_; rintro e w' ⟨rfl, rfl⟩)
          | (at_mapUpdate; refine wpList_mapUpdate_key rfl _ _ _ rfl HSM.out (i := 1) rfl rfl xp xh ob rfl HNO.out (.bool true) rfl ?_; intro w6 S6; rw [HES.out, HPU.out] at S6; simp only [List.set_cons_succ, List.set_cons_zero] at S6; have HS6 := Lib.hid (S6.sub (L' := [_, _]) (List.sublist_append_left [_, _] [_, _])); clear S6))
        go_roundw
        case rel => exact ⟨k + 1, by omega, by go_num, HS6.out⟩
        case measure => simp [intOf]; omega
    · obtain rfl : nk = k := by omega
      have S1 := S.sub (L' := [_]) (.cons_cons _ (List.nil_sublist _))
      have d4 := S1.blk_cell (i := 0) rfl 4
      have HS1 := Lib.hid S1
      clear S S1 hlt hk
      go_wp2_with fail
      go_loopw [67] (fun i w' => ∃ k : Nat, k ≤ ns ∧ i = .int .i64 k ∧ St W w' [blk gb 28 #[.slice Ac nc cc, .slice Am nm cm, .slice Ah nh ch, .slice Ak nk ck, .slice As ns cs, .slice Ap np cp]]) (fun i _ => ns - (intOf i).toNat)
      case atStart => exact ⟨0, Nat.zero_le _, rfl, HS1.out⟩
      case round =>
        obtain ⟨k, hk, rfl, S⟩ := hrel
        clear HS1 d4
        by_cases hlt : k < ns
        · obtain ⟨b, o, rfl, hx, c0⟩ := rd_str (HSS.out wr S.bel) hlt
          have HCT : Hid (∀ w, Below W.heap.size W w → Calls Tryz.prog 82 #[.slice (some ⟨b, o, none⟩) k cs, .string (sAt sg k)] w fun e w' => e = .returned (.bool false) ∧ w = w') := Lib.hid (fun w hb =>
            containsS_no w _ _ k (sAt sg k) (sg.take k) (fun j hj => by
              have e : sAt (sg.take k) j = sAt sg j := by
                unfold sAt
                rw [List.getD_eq_getElem?_getD, List.getD_eq_getElem?_getD, List.getElem?_take_of_lt hj]
              rw [e]
              exact HG4.out k j hlt hj) (by rw [List.map_take]; exact rd_takeU (HSS.out w hb) (by omega)))
          have HSG1 := Lib.hid (fun w hb => HSG.out k w hlt hb)
          have HM1 := Lib.hid (fun w hb => HMB.out (sAt sg k) w hb)
          have hp1 : 0 ≤ memI ms (sAt sg k) := HPOS.out _ (HG3.out k hlt).1
          have HS := Lib.hid S
          clear S hx
          generalize memI ms (sAt sg k) = mi at *
          generalize sAt sg k = sn at *
          have t1 : decide (mi < 0) = false := decide_eq_false (by omega)
          clear hp1
          go_wp2_with fail
          clear c0
          refine wp_cls 15 (fun w' => St W w' [blk gb 28 #[.slice Ac nc cc, .slice Am nm cm, .slice Ah nh ch, .slice Ak nk ck, .slice (some ⟨b, o, none⟩) ns cs, .slice Ap np cp]]) (by kernel_rfl) (by kernel_rfl) HS.out.drew ?_
          simp only [List.take_succ_cons, List.take_zero, List.drop_succ_cons, List.drop_zero]
          generalize hK : (fun w' => St W w' [blk gb 28 #[.slice Ac nc cc, .slice Am nm cm, .slice Ah nh ch, .slice Ak nk ck, .slice (some ⟨b, o, none⟩) ns cs, .slice Ap np cp]]) = K
          intro hne
          have kS : ∀ y : Wd K, St W y.w [blk gb 28 #[.slice Ac nc cc, .slice Am nm cm, .slice Ah nh ch, .slice Ak nk ck, .slice (some ⟨b, o, none⟩) ns cs, .slice Ap np cp]] := by subst hK; exact fun y => y.h
          have hK3 : ∀ w w' : World, K w → Below w.heap.size w w' → K w' := by subst hK; exact fun w w' h h' => h.ext h'
          have k0 : ∀ y : Wd K, y.w.cell? ⟨gb, 0, none⟩ = some (Value.slice Ac nc cc) := fun y => (kS y).blk_cell (i := 0) rfl 0
          have k1 : ∀ y : Wd K, y.w.cell? ⟨gb, 1, none⟩ = some (Value.slice Am nm cm) := fun y => (kS y).blk_cell (i := 0) rfl 1
          have k2 : ∀ y : Wd K, y.w.cell? ⟨gb, 2, none⟩ = some (Value.slice Ah nh ch) := fun y => (kS y).blk_cell (i := 0) rfl 2
          have k3 : ∀ y : Wd K, y.w.cell? ⟨gb, 3, none⟩ = some (Value.slice Ak nk ck) := fun y => (kS y).blk_cell (i := 0) rfl 3
          have k4 : ∀ y : Wd K, y.w.cell? ⟨gb, 4, none⟩ = some (Value.slice (some ⟨b, o, none⟩) ns cs) := fun y => (kS y).blk_cell (i := 0) rfl 4
          have k5 : ∀ y : Wd K, y.w.cell? ⟨gb, 5, none⟩ = some (Value.slice Ap np cp) := fun y => (kS y).blk_cell (i := 0) rfl 5
          have k6 : ∀ y : Wd K, Calls Tryz.prog 60 #[.agg #[.slice Ac nc cc, .slice Am nm cm, .slice Ah nh ch, .slice Ak nk ck, .slice (some ⟨b, o, none⟩) ns cs, .slice Ap np cp], .string sn] y.w fun e w' => e = .returned (.int .i64 mi) ∧ Below y.w.heap.size y.w w' := fun y => HM1.out y.w (kS y).bel
          have k7 : ∀ y : Wd K, Calls Tryz.prog 82 #[.slice (some ⟨b, o, none⟩) k cs, .string sn] y.w fun e w' => e = .returned (.bool false) ∧ y.w = w' := fun y => HCT.out y.w (kS y).bel
          have k8 : ∀ y : Wd K, Calls Tryz.prog 83 #[.agg #[.slice Ac nc cc, .slice Am nm cm, .slice Ah nh ch, .slice Ak nk ck, .slice (some ⟨b, o, none⟩) ns cs, .slice Ap np cp], .string sn] y.w fun e w' => e = .returned (.int .i64 0) ∧ Below y.w.heap.size y.w w' := fun y => HSG1.out y.w (kS y).bel
          have KS := Lib.hid kS
          have HKK := Lib.hid hK3
          clear hK kS hK3
          have K6 := Lib.hid k6
          have K7 := Lib.hid k7
          have K8 := Lib.hid k8
          clear k6 k7 k8
          repeat (go_big_quiet_step ((first
            | (go_at_call 60; exact cls_below HKK.out (K6.out _))
            | (go_at_call 82; exact cls_same (K7.out _))
            | (go_at_call 83; exact cls_below HKK.out (K8.out _))
            | (go_at_call 59; exact cls_same (uNo _ _)))))
          clear K6 K7 K8
          refine wpQuiet_nil ?_
          intro y
          have SY := Lib.hid (KS.out y)
          clear k0 k1 k2 k3 k4 k5 KS HKK hne HS
          generalize y.w = wy at *
          have HSZ := Lib.hid (SY.out.alloc (.cells #[.int .i64 0, .int .i64 0, .int .i64 0] 38))
          clear SY
          go_wp2_with (go_at_call 32; refine (uOk3 _ _ (by simp) (by simp) (by simp) (by simp)).mono ?_; rintro e w' ⟨rfl, rfl⟩)
          go_roundw
          case rel => exact ⟨k + 1, by omega, by go_num, HSZ.out⟩
          case measure => simp [intOf]; omega
        · obtain rfl : ns = k := by omega
          have HB := Lib.hid S.bel
          clear S
          go_wp2_with fail
          go_ret
          exact ⟨rfl, HB.out⟩
end Go.Proofs.YtnaafefcijgpkaaGreatDoor
/- Chapter 10: Few of the reference; a union as one of the reference. -/
namespace Go.Proofs.YtnaafefcijgpkaaGreatDoor
open Go.RowKit Go.Mem Go.Sheet Go.Adj
set_option maxRecDepth 100000 in
set_option maxHeartbeats 4000000 in
theorem u10Few_any (W : World) (u : UI) (h : RdU W (· < W.heap.size) u) :
    Calls Tryz.prog 5 #[u.val] W fun e w' => IsBo (ShortU u ∧ GoodU u 256 200) e ∧ Below W.heap.size W w' := by
  have HSH := Lib.hid (fun w (hb : Below W.heap.size W w) => refShort_any w u (h.later hb))
  have HCU := Lib.hid (fun w (hb : Below W.heap.size W w) => refCheckUnion_any w u (h.later hb))
  generalize ShortU u = P at *
  generalize GoodU u 256 200 = Q at *
  clear h
  obtain ⟨vc, nc, cl, vm, nm, ms, vh, nh, hs, vk, nk, ks, vs, ns, sg, vp, np, ps⟩ := u
  simp only [UI.val] at *
  have S0 := (St.refl W).blk_new #[vc, vm, vh, vk, vs, vp] 34
  simp only [List.nil_append] at S0
  obtain ⟨gc, hgc⟩ : ∃ g, g = W.heap.size := ⟨_, rfl⟩
  rw [← hgc] at S0
  have HS0 := Lib.hid S0
  clear S0
  go_enter Tryz.func5, Tryz.ntmps5
  have d0 := HS0.out.blk_cell (i := 0) rfl 0
  have d1 := HS0.out.blk_cell (i := 0) rfl 1
  have d2 := HS0.out.blk_cell (i := 0) rfl 2
  have d3 := HS0.out.blk_cell (i := 0) rfl 3
  have d4 := HS0.out.blk_cell (i := 0) rfl 4
  have d5 := HS0.out.blk_cell (i := 0) rfl 5
  go_wp2_with fail
  rw [← hgc]
  generalize W.alloc (.cells #[vc, vm, vh, vk, vs, vp] 34) = w1 at *
  clear hgc
  go_at_call 18
  refine (HSH.out w1 HS0.out.bel).mono ?_
  rintro e w2 ⟨⟨bo, rfl, g1⟩, hb⟩
  have HS2 := Lib.hid (HS0.out.ext hb)
  have G1 := Lib.hid g1
  clear hb HS0 d0 d1 d2 d3 d4 d5 g1 HSH
  cases bo
  · go_wp2_with fail
    go_ret
    exact ⟨isBo_no, HS2.out.bel⟩
  have G2 := Lib.hid (G1.out rfl)
  clear G1
  have d0 := HS2.out.blk_cell (i := 0) rfl 0
  have d1 := HS2.out.blk_cell (i := 0) rfl 1
  have d2 := HS2.out.blk_cell (i := 0) rfl 2
  have d3 := HS2.out.blk_cell (i := 0) rfl 3
  have d4 := HS2.out.blk_cell (i := 0) rfl 4
  have d5 := HS2.out.blk_cell (i := 0) rfl 5
  go_wp2_with fail
  go_at_call 19
  refine (HCU.out w2 HS2.out.bel).mono ?_
  rintro e w3 ⟨⟨ec, rfl, g1⟩, hb⟩
  have HS3 := Lib.hid (HS2.out.ext hb)
  have G3 := Lib.hid g1
  clear hb HS2 d0 d1 d2 d3 d4 d5 g1 HCU
  go_wp2_with fail
  go_ret
  refine ⟨isBo_of fun h => ?_, HS3.out.bel⟩
  exact ⟨G2.out, G3.out (by simpa using h)⟩
theorem eltRM : Elt Tryz.prog 30 83 (.agg #[.string ⟨#[]⟩, .string ⟨#[]⟩, .int .i64 0]) 3 40 := ⟨Tryz.underlying30, by kernel_rfl, rfl, by decide⟩
theorem eltRK : Elt Tryz.prog 31 84 (.agg #[.string ⟨#[]⟩, .string ⟨#[]⟩, .int .i64 0, .int .i64 0, .string ⟨#[]⟩]) 5 64 := ⟨Tryz.underlying31, by kernel_rfl, rfl, by decide⟩
theorem eltRP : Elt Tryz.prog 32 88 (.agg #[.string ⟨#[]⟩, .slice none 0 0, .slice none 0 0]) 3 64 := ⟨Tryz.underlying32, by kernel_rfl, rfl, by decide⟩
theorem rd_three {w : World} {a b c : Value} {t : TypeId} {g : Nat} (hg : w.heap.size = g) : Rd (w.alloc (.cells #[a, b, c] t)) (fun _ => True) 3 (.slice (some ⟨g, 0, none⟩) 1 1) 1 [a, b, c] :=
  hg ▸ rd_new (m := 1) w #[a, b, c] t rfl (by omega) (fun _ => True) trivial
theorem rd_five {w : World} {a b c d e : Value} {t : TypeId} {g : Nat} (hg : w.heap.size = g) : Rd (w.alloc (.cells #[a, b, c, d, e] t)) (fun _ => True) 5 (.slice (some ⟨g, 0, none⟩) 1 1) 1 [a, b, c, d, e] :=
  hg ▸ rd_new (m := 1) w #[a, b, c, d, e] t rfl (by omega) (fun _ => True) trivial
theorem one_mb (a b : ByteArray) (x : Int) : ∀ u ∈ [Value.string a, Value.string b, Value.int .i64 x], u.oneCell' = true := by simp [Value.oneCell']
theorem one_mk (a b m : ByteArray) (x y : Int) : ∀ u ∈ [Value.string a, Value.string b, Value.int .i64 x, Value.int .i64 y, Value.string m], u.oneCell' = true := by simp [Value.oneCell']
theorem one_kp (a : ByteArray) (A B : Option Addr) (m c n d : Nat) : ∀ u ∈ [Value.string a, Value.slice A m c, Value.slice B n d], u.oneCell' = true := by simp [Value.oneCell']
theorem res_lown (tmps : Array Value) (w : World) (g : Nat) (a b c d e f : Value) (h2 : tmps.getD 2 undef = .pointer (some ⟨g, 0, none⟩)) (c0 : w.cell? ⟨g, 0, none⟩ = some a) (c1 : w.cell? ⟨g, 1, none⟩ = some b) (c2 : w.cell? ⟨g, 2, none⟩ = some c) (c3 : w.cell? ⟨g, 3, none⟩ = some d) (c4 : w.cell? ⟨g, 4, none⟩ = some e) (c5 : w.cell? ⟨g, 5, none⟩ = some f) : (results Tryz.f6 tmps).run Tryz.prog w = .ok (.agg #[a, b, c, d, e, f]) w := by
  have e2 : tmps[2]?.getD undef = .pointer (some ⟨g, 0, none⟩) := by simpa using h2
  simp [results, Tryz.results6, e2, c0, c1, c2, c3, c4, c5, go_sem]
theorem take_atG {α : Type} {l : List α} {k : Nat} {x : α} (h : l[k]? = some x) : l.take (k + 1) = l.take k ++ [x] := by
  rw [List.take_add_one, h]; rfl
end Go.Proofs.YtnaafefcijgpkaaGreatDoor
