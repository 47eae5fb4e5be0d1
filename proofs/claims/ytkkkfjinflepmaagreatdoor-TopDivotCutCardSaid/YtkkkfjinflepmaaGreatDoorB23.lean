/- Part 23 of the walks of the golf union's program: DE9. -/
import Derived.Test.YtkkkfjinflepmaaGreatDoorB22
import Derived.Laws.EntriesVeiled
set_option linter.unusedVariables false
set_option linter.unusedSimpArgs false
set_option linter.unusedSectionVars false
set_option linter.constructorNameAsVariable false
/- Chapter 7: Advance. -/
namespace Go.Proofs.YtkkkfjinflepmaaGreatDoor
open Go.RowKit Go.Mem Go.Sheet Go.Adj
def stayO (l : List Nat) : Option Nat → Bool
  | none => false
  | some p => !(l.contains p)
def pairO (l : List Nat) (a b : Option Nat) : Option Nat := if stayO l a then a else if stayO l b then b else none
def advL (l : List Nat) (S : List (Option Nat)) (m : Nat) : List (Option Nat) := (List.range m).map fun i => pairO l (S.getD (2 * i) none) (S.getD (2 * i + 1) none)
theorem strsO_eq (f : Nat → ByteArray) (S : List (Option Nat)) : strsO f S = strsV (fun i => nmO f (S.getD i none)) S.length := by
  unfold strsO strsV
  apply List.ext_getElem?
  intro i
  rw [List.getElem?_map, List.getElem?_map]
  rcases Nat.lt_or_ge i S.length with h | h
  · rw [List.getElem?_range h, List.getElem?_eq_getElem h]
    show some (Value.string (nmO f S[i])) = some (Value.string (nmO f (S.getD i none)))
    rw [List.getD_eq_getElem?_getD, List.getElem?_eq_getElem h]; rfl
  · rw [List.getElem?_eq_none h, List.getElem?_eq_none (by simpa using h)]; rfl
def strsL (f : Nat → ByteArray) (l : List Nat) : List Value := l.map fun p => .string (f p)
theorem nmO_pair (f : Nat → ByteArray) (l : List Nat) (a b : Option Nat) : nmO f (pairO l a b) = if stayO l a then nmO f a else if stayO l b then nmO f b else ⟨#[]⟩ := by
  unfold pairO
  split
  · rfl
  · split <;> rfl
theorem advL_strs (f : Nat → ByteArray) (l : List Nat) (S : List (Option Nat)) (m : Nat) :
    strsO f (advL l S m) = pairV Value.string (fun i => if stayO l (S.getD (2 * i) none) then nmO f (S.getD (2 * i) none) else if stayO l (S.getD (2 * i + 1) none) then nmO f (S.getD (2 * i + 1) none) else ⟨#[]⟩) m := by
  unfold strsO advL pairV
  rw [List.map_map]
  refine List.map_congr_left fun i _ => ?_
  show Value.string (nmO f (pairO l _ _)) = _
  rw [nmO_pair]
theorem name_ne {s : ByteArray} (h : nameB s = true) : s ≠ ⟨#[]⟩ := by
  intro e
  subst e
  revert h
  decide
theorem GoodNs.ne {f : Nat → ByteArray} {n i j : Nat} (h : GoodNs f n) (hi : i < n) (hj : j < n) (e : f i = f j) : i = j := by
  rcases Nat.lt_trichotomy i j with hlt | rfl | hlt
  · exact absurd e (h.two j i hj hlt)
  · rfl
  · exact absurd e.symm (h.two i j hi hlt)
/-- who stays, where those who are out are known -/
theorem stays_any {W w : World} {L : List Asr} {i j gp b q : Nat} (S : St W w L) (hi : L[i]? = some (blk gp 110 #[.map (some b)])) (f : Nat → ByteArray) (np : Nat) (hg : GoodNs f np) (l : List Nat) (hj : L[j]? = some (mapS b (seenE (fun j => f (l.getD j 0)) l.length) q))
    (hl : ∀ p ∈ l, p < np) (s : Option Nat) (hs : ∀ p, s = some p → p < np) :
    Calls Tryz.prog 53 #[.string (nmO f s), .pointer (some ⟨gp, 0, none⟩)] w fun e w' => e = .returned (.bool (stayO l s)) ∧ w = w' := by
  cases s with
  | none => exact stays_no w _
  | some p =>
    have hp := hs p rfl
    refine stays_yes w gp b (f p) (l.contains p) (name_ne (hg.ok p hp).1) (S.blk_cell hi 0) (lookN (S.mapS_at hj) (fun h => ?_) fun h i hil e => ?_)
    · obtain ⟨i, hi, e⟩ := mem_getD (List.contains_iff_mem.1 h)
      exact ⟨i, hi, by rw [e]⟩
    · have h1 := hg.ne (hl _ (getD_mem hil)) hp e
      have h2 : l.contains p = true := List.contains_iff_mem.2 (h1 ▸ getD_mem hil)
      rw [h2] at h
      cases h
set_option maxRecDepth 100000 in
set_option maxHeartbeats 8000000 in
theorem advance_ok (W : World) (n m : Nat) (vs vl : Value) (f : Nat → ByteArray) (np : Nat) (S : List (Option Nat)) (l : List Nat) (h1 : Rd W (· < W.heap.size) 1 vs n (strsO f S)) (h2 : Rd W (· < W.heap.size) 1 vl l.length (strsL f l))
    (hg : GoodNs f np) (hnS : n = S.length) (hnm : n = 2 * m) (hn : n = 2 ∨ n = 4 ∨ n = 8 ∨ n = 16) (hSn : (pres S).Nodup) (hSb : ∀ p ∈ pres S, p < np) (hl : l.Nodup) (hlb : ∀ p ∈ l, p ∈ pres S)
    (hop : ∀ i, i < m → (stayO l (S.getD (2 * i) none) && stayO l (S.getD (2 * i + 1) none)) = false) :
    Calls Tryz.prog 21 #[vs, vl] W fun e w' => ∃ v', e = .returned (.tuple #[v', .int .i64 0]) ∧ St W w' [row 9 1 v' m (strsO f (advL l S m))] := by
  have hq63 : l.length ≤ 9223372036854775807 := h2.le
  obtain ⟨A, c, rfl, _, _, _⟩ := h1.open_
  obtain ⟨A2, c2, rfl, _, _, _⟩ := h2.open_
  have H1 := Lib.hid h1
  have H2 := Lib.hid h2
  have HG := Lib.hid hg
  have HNS := Lib.hid hnS
  have HSN := Lib.hid hSn
  have HSB := Lib.hid hSb
  have HL := Lib.hid hl
  have HLB := Lib.hid hlb
  have HOP := Lib.hid hop
  have HNM := Lib.hid hnm
  have t1 : decide ((n : Int) < 2) = false := decide_eq_false (by omega)
  have t2 : decide ((256 : Int) < (n : Int)) = false := decide_eq_false (by omega)
  have t3 : (bits BinOp.and IntKind.i64 (n : Int) ((n : Int) - 1) != 0) = false := by
    clear HNS HNM
    rcases hn with rfl | rfl | rfl | rfl <;> decide +kernel
  have hn16 : n ≤ 16 := by omega
  have HN := Lib.hid hn
  have S0 := (St.refl W).mapS_new
  simp only [List.nil_append] at S0
  have HS0 := Lib.hid S0
  obtain ⟨q, hq⟩ : ∃ q, q = l.length := ⟨_, rfl⟩
  have HQL := Lib.hid hq
  rw [← hq] at hq63 ⊢
  have hmm := @run_makeMap Tryz.prog
  clear h1 h2 hg hnS hSn hSb hl hlb hop hnm hn S0 hq
  go_enter Tryz.func21, Tryz.ntmps21
  go_wp2_with fail
  obtain ⟨g, hgd⟩ : ∃ g, g = fun j => f ((pres S).getD j 0) := ⟨_, rfl⟩
  have HGD := Lib.hid hgd
  have HS1 : Hid (St W (W.alloc (.map #[] 0)) [mapS W.heap.size (seenE g (pres (S.take 0)).length) (pres (S.take 0)).length]) := HS0.out
  clear HS0 hgd
  generalize W.alloc (.map #[] 0) = w1 at *
  obtain ⟨gb, hgb⟩ : ∃ gb, gb = W.heap.size := ⟨_, rfl⟩
  rw [← hgb] at HS1 ⊢
  have HGB := Lib.hid hgb
  clear hgb
  go_loopw [35] (fun i w' => ∃ k : Nat, k ≤ n ∧ i = .int .i64 (k : Int) ∧ St W w' [mapS gb (seenE g (pres (S.take k)).length) (pres (S.take k)).length]) (fun i _ => n - (intOf i).toNat)
  case atStart => exact ⟨0, Nat.zero_le _, rfl, HS1.out⟩
  case round =>
    obtain ⟨k, hk, rfl, S1⟩ := hrel
    clear HS1
    by_cases hlt : k < n
    · obtain ⟨s, hs⟩ : ∃ s, S[k]? = some s := ⟨S[k]'(by rw [← HNS.out]; exact hlt), List.getElem?_eq_getElem _⟩
      obtain ⟨b, o, u, hA, _, hu, d0⟩ := (H1.out.later S1.bel).at_ hlt
      subst hA
      unfold strsO at hu
      rw [List.getElem?_map, hs] at hu
      cases hu
      cases s with
      | none =>
        have e1 := pres_none hs
        have HS2 : Hid (St W wr [mapS gb (seenE g (pres (S.take (k + 1))).length) (pres (S.take (k + 1))).length]) := by rw [e1]; exact S1
        have d1 : wr.cell? ⟨b, o + k, none⟩ = some (.string ⟨#[]⟩) := d0
        clear S1 e1 d0 hs
        go_wp2_with fail
        go_roundw
        case rel => exact ⟨k + 1, by omega, by go_num, HS2.out⟩
        case measure => simp [intOf]; omega
      | some p =>
        obtain ⟨e1, e2, e3⟩ := pres_at hs HSN.out
        have hp : p < np := HSB.out p (List.mem_filterMap.2 ⟨some p, List.mem_of_getElem? hs, rfl⟩)
        have hgp := HG.out.ok p hp
        have hl2 : (pres (S.take k)).length < (pres S).length := by
          obtain ⟨r, hr⟩ := pres_pre S (k + 1)
          rw [hr, List.length_append, e2]; omega
        have hc := namesCheck_ok W wr _ 0 gb (pres (S.take k)).length g (f p) S1 rfl hgp.1 hgp.2 (by rw [HGD.out]; show f _ = f p; rw [e1]) (fun j hj he => by
          rw [HGD.out] at he
          have hjm : (pres S).getD j 0 ∈ pres S := getD_mem (by omega)
          exact e3 j hj (HG.out.ne (HSB.out _ hjm) hp he))
        rw [← e2] at hc
        have hne := bytes_ne0 (name_ne hgp.1)
        have d1 : wr.cell? ⟨b, o + k, none⟩ = some (.string (f p)) := d0
        have HC := Lib.hid hc
        clear S1 e1 e2 e3 d0 hs hc hgp hl2
        generalize f p = fp at *
        go_wp2_with fail
        go_at_call 51
        refine HC.out.mono ?_
        rintro e w2 ⟨rfl, S2⟩
        have HS2 := Lib.hid S2
        clear S2 HC
        go_wp2_with fail
        go_roundw
        case rel => exact ⟨k + 1, by omega, by go_num, HS2.out⟩
        case measure => simp [intOf]; omega
    · obtain rfl : n = k := by omega
      have HS2 : Hid (St W wr [mapS gb (seenE g (pres S).length) (pres S).length]) := by rw [show S.take n = S from List.take_of_length_le (Nat.le_of_eq HNS.out.symm)] at S1; exact S1
      have S3 := (HS2.out.mapS_new).blk_new #[.map (some wr.heap.size)] 110
      simp only [List.cons_append, List.nil_append, World.size_alloc] at S3
      obtain ⟨g2, hgd2⟩ : ∃ g, g = fun j => f (l.getD j 0) := ⟨_, rfl⟩
      have HGD2 := Lib.hid hgd2
      have HS3 : Hid (St W ((wr.alloc (.map #[] 0)).alloc (.cells #[.map (some wr.heap.size)] 110)) [mapS gb (seenE g (pres S).length) (pres S).length, mapS wr.heap.size (seenE g2 0) 0, blk (wr.heap.size + 1) 110 #[.map (some wr.heap.size)]]) := S3
      clear S1 S3 HS2 hgd2
      go_wp2_with fail
      generalize (wr.alloc (.map #[] 0)).alloc (.cells #[.map (some wr.heap.size)] 110) = w3 at *
      obtain ⟨gm, hgm⟩ : ∃ gm, gm = wr.heap.size := ⟨_, rfl⟩
      obtain ⟨gp, hgp⟩ : ∃ gp, gp = wr.heap.size + 1 := ⟨_, rfl⟩
      rw [← hgp, ← hgm] at HS3 ⊢
      clear hgm hgp
      go_loopw [51] (fun i w' => ∃ k : Nat, k ≤ q ∧ i = .int .i64 (k : Int) ∧ St W w' [mapS gb (seenE g (pres S).length) (pres S).length, mapS gm (seenE g2 k) k, blk gp 110 #[.map (some gm)]]) (fun i _ => q - (intOf i).toNat)
      case atStart => exact ⟨0, Nat.zero_le _, rfl, HS3.out⟩
      case round =>
        obtain ⟨k, hk, rfl, S3⟩ := hrel
        clear HS3
        by_cases hlt : k < q
        · have hlq : k < l.length := by rw [← HQL.out]; exact hlt
          obtain ⟨b, o, u, hA, _, hu, d0⟩ := (H2.out.later S3.bel).at_ hlq
          subst hA
          unfold strsL at hu
          rw [List.getElem?_map, List.getElem?_eq_getElem hlq] at hu
          cases hu
          have hlm : l[k] ∈ l := List.getElem_mem hlq
          have hgk : l.getD k 0 = l[k] := by rw [List.getD_eq_getElem?_getD, List.getElem?_eq_getElem hlq]; rfl
          have hlk := HLB.out _ hlm
          have hp := HSB.out _ hlk
          have HIN : Hid (∀ w, St W w [mapS gb (seenE g (pres S).length) (pres S).length, mapS gm (seenE g2 k) k, blk gp 110 #[.map (some gm)]] →
              (Instr.lookup 110 (.map (some gb)) (.string (f l[k])) false).run Tryz.prog w = .ok (.bool true) w) := fun w hw =>
            lookN (hw.mapS_at (i := 0) rfl) (fun _ => by
              obtain ⟨i, hi, e⟩ := mem_getD hlk
              exact ⟨i, hi, by rw [HGD.out]; show f _ = _; rw [e]⟩) (fun h => by cases h)
          have hno : ∀ i, i < k → g2 i ≠ f l[k] := fun i hi e => by
            rw [HGD2.out] at e
            have hil : i < l.length := by omega
            have e2 : l.getD i 0 = l[i] := by rw [List.getD_eq_getElem?_getD, List.getElem?_eq_getElem hil]; rfl
            have e3 := HG.out.ne (HSB.out _ (HLB.out _ (getD_mem hil))) hp e
            rw [e2] at e3
            have := (List.nodup_iff_pairwise_ne.1 HL.out)
            have e4 := (List.getElem_inj HL.out).1 e3
            omega
          have HOUT : Hid (∀ w, St W w [mapS gb (seenE g (pres S).length) (pres S).length, mapS gm (seenE g2 k) k, blk gp 110 #[.map (some gm)]] →
              (Instr.lookup 110 (.map (some gm)) (.string (f l[k])) false).run Tryz.prog w = .ok (.bool false) w) := fun w hw =>
            lookN (hw.mapS_at (i := 1) rfl) (fun h => by cases h) (fun _ => hno)
          have HNO := Lib.hid (seenE_none hno)
          have HPU : Hid ((seenE g2 k).push { key := .string (f l[k]), val := .bool true, born := k } = seenE g2 (k + 1)) := by
            have : g2 k = f l[k] := by rw [HGD2.out]; show f _ = _; rw [hgk]
            show _ = _
            rw [← this]; exact seenE_push g2 k
          have d1 : wr.cell? ⟨b, o + k, none⟩ = some (.string (f l[k])) := d0
          clear d0
          have S4 := S3.drew
          clear hlm hgk hlk hp hno
          generalize seenE g (pres S).length = es1 at *
          generalize (pres S).length = q1 at *
          generalize seenE g2 k = es2 at *
          generalize f l[k] = fp at *
          clear S3
          go_wp2_with fail
          refine wp_cls 9 (fun w' => St W w' [mapS gb es1 q1, mapS gm es2 k, blk gp 110 #[.map (some gm)]]) (by kernel_rfl) (by kernel_rfl) S4 ?_
          simp only [List.take_succ_cons, List.take_zero, List.drop_succ_cons, List.drop_zero]
          generalize hK : (fun w' => St W w' [mapS gb es1 q1, mapS gm es2 k, blk gp 110 #[.map (some gm)]]) = K
          intro hne
          have kS : ∀ y : Wd K, St W y.w [mapS gb es1 q1, mapS gm es2 k, blk gp 110 #[.map (some gm)]] := by subst hK; exact fun y => y.h
          have k0 : ∀ y : Wd K, (Instr.lookup 110 (.map (some gb)) (.string fp) false).run Tryz.prog y.w = .ok (.bool true) y.w := fun y => HIN.out _ (kS y)
          have k1 : ∀ y : Wd K, (Instr.lookup 110 (.map (some gm)) (.string fp) false).run Tryz.prog y.w = .ok (.bool false) y.w := fun y => HOUT.out _ (kS y)
          have k2 : ∀ y : Wd K, y.w.cell? ⟨gp, 0, none⟩ = some (.map (some gm)) := fun y => (kS y).blk_cell (i := 2) rfl 0
          have KS := Lib.hid kS
          clear hK kS S4 d1
          iterate 4 (go_big_quiet_step ((fail)))
          go_big_quiet_step ((go_at_call 52; exact cls_same (eventNo _ _)))
          iterate 3 (go_big_quiet_step ((fail)))
          go_big_quiet_step ((go_at_call 52; exact cls_same (eventNo _ _)))
          refine wpQuiet_nil ?_
          intro y
          have HSY := Lib.hid ((KS.out y).alloc (.cells #[.int .i64 0, .int .i64 0] 48))
          clear k0 k1 k2 KS hne
          generalize y.w = w4 at *
          have d3 := HSY.out.blk_cell (i := 2) rfl 0
          go_wp2_with (first
            | (go_at_call 37; refine (eventOk2 _ _ (by simp) (by simp) (by simp)).mono ?_; rintro e w' ⟨rfl, rfl⟩)
            | (at_mapUpdate; refine wpList_mapUpdate_new rfl _ _ _ 110 rfl 9 4 Tryz.underlying9 Tryz.underlying110 HSY.out (i := 1) rfl rfl fp rfl HNO.out (.bool true) rfl ?_; intro w6 S6))
          rw [HPU.out] at S6
          have HS6 : Hid (St W w6 [mapS gb es1 q1, mapS gm (seenE g2 (k + 1)) (k + 1), blk gp 110 #[.map (some gm)]]) := S6
          clear S6 HSY d3
          go_roundw
          case rel => exact ⟨k + 1, by omega, by go_num, HS6.out⟩
          case measure => simp [intOf]; omega
        · obtain rfl : q = k := by omega
          have hg2 : seenE g2 q = seenE (fun j => f (l.getD j 0)) l.length := by rw [HGD2.out, HQL.out]
          rw [hg2] at S3
          clear hg2
          have S4 := S3.blk_new #[.func (.func 53) #[] #[.pointer (some ⟨gp, 0, none⟩)]] 112
          simp only [List.cons_append, List.nil_append] at S4
          have HS4 := Lib.hid S4
          clear S3 S4
          go_wp2_with fail
          obtain ⟨gs, hgs⟩ : ∃ gs, gs = wr.heap.size := ⟨_, rfl⟩
          rw [← hgs] at HS4 ⊢
          generalize wr.alloc (.cells #[.func (.func 53) #[] #[.pointer (some ⟨gp, 0, none⟩)]] 112) = w5 at *
          clear hgs
          have hs1 := H1.out
          rw [strsO_eq, ← HNS.out] at hs1
          have H1' := Lib.hid hs1
          have HSP : Hid (∀ i, ∀ p, S.getD i none = some p → p < np) := fun i p hp => by
            rw [List.getD_eq_getElem?_getD] at hp
            cases hi : S[i]? with
            | none => rw [hi] at hp; cases hp
            | some s =>
              rw [hi] at hp
              have hp2 : s = some p := hp
              subst hp2
              exact HSB.out p (List.mem_filterMap.2 ⟨some p, List.mem_of_getElem? hi, rfl⟩)
          have HST : Hid (∀ w, St W w [mapS gb (seenE g (pres S).length) (pres S).length, mapS gm (seenE (fun j => f (l.getD j 0)) l.length) q, blk gp 110 #[.map (some gm)], blk gs 112 #[.func (.func 53) #[] #[.pointer (some ⟨gp, 0, none⟩)]]] →
              ∀ i, Calls Tryz.prog 53 #[.string (nmO f (S.getD i none)), .pointer (some ⟨gp, 0, none⟩)] w fun e w' => e = .returned (.bool (stayO l (S.getD i none))) ∧ w = w') := fun w hw i =>
            stays_any hw (i := 2) (j := 1) rfl f np HG.out l rfl (fun p hp => HSB.out p (HLB.out p hp)) _ (HSP.out i)
          have hm16 : m ≤ 1000 := by have := HNM.out; omega
          have HPB := Lib.hid (pairedB_ok W w5 _ HS4.out n m _ _ HNM.out hm16 H1'.out 55 gs (enters Tryz.func55 (by kernel_rfl) rfl) (fun i => stayO l (S.getD (2 * i) none) && stayO l (S.getD (2 * i + 1) none))
            (fun i _ w hw => open_any w gs gp _ _ _ _ (hw.blk_cell (i := 3) rfl 0) (HST.out w hw _) (HST.out w hw _)))
          have HPS : Hid (∀ w L', St W w ([mapS gb (seenE g (pres S).length) (pres S).length, mapS gm (seenE (fun j => f (l.getD j 0)) l.length) q, blk gp 110 #[.map (some gm)], blk gs 112 #[.func (.func 53) #[] #[.pointer (some ⟨gp, 0, none⟩)]]] ++ L') →
              Calls Tryz.prog 57 #[.slice A n c, .func (.func 58) #[] #[.pointer (some ⟨gs, 0, none⟩)]] w fun e w' => ∃ v', e = .returned v' ∧ St W w' [row 9 1 v' m (strsO f (advL l S m))]) := fun w L' hw => by
            refine (pairedS_ok W w _ (hw.sub (List.sublist_append_left ..)) n m _ _ HNM.out hm16 H1'.out 58 gs (enters Tryz.func58 (by kernel_rfl) rfl) (fun i => if stayO l (S.getD (2 * i) none) then nmO f (S.getD (2 * i) none) else if stayO l (S.getD (2 * i + 1) none) then nmO f (S.getD (2 * i + 1) none) else ⟨#[]⟩)
              (fun i _ w hw => choose_any w gs gp _ _ _ _ (hw.blk_cell (i := 3) rfl 0) (HST.out w hw _) (HST.out w hw _))).mono ?_
            rintro e w' ⟨v', rfl, S'⟩
            refine ⟨v', rfl, ?_⟩
            rw [advL_strs]
            exact S'.sub (List.sublist_append_right ..)
          clear HS4 hs1 HSP H1'
          generalize hLL : [mapS gb (seenE g (pres S).length) (pres S).length, mapS gm (seenE (fun j => f (l.getD j 0)) l.length) q, blk gp 110 #[.map (some gm)], blk gs 112 #[.func (.func 53) #[] #[.pointer (some ⟨gp, 0, none⟩)]]] = LL at *
          clear hLL HST
          go_at_call 54
          refine HPB.out.mono ?_
          rintro e w6 ⟨v6, rfl, S6⟩
          have HS6 := Lib.hid S6
          clear S6 HPB
          have hb : (LL ++ [row 4 1 v6 m (pairV Value.bool (fun i => stayO l (S.getD (2 * i) none) && stayO l (S.getD (2 * i + 1) none)) m)])[LL.length]? = some (row 4 1 v6 m (pairV Value.bool (fun i => stayO l (S.getD (2 * i) none) && stayO l (S.getD (2 * i + 1) none)) m)) := by simp
          have HCN := Lib.hid (containsNo w6 _ v6 m _ (HS6.out.row_rd hb) HOP.out)
          clear hb
          go_wp2_with fail
          go_at_call 56
          refine HCN.out.mono ?_
          rintro e w7 ⟨rfl, rfl⟩
          have HP7 := Lib.hid (HPS.out _ _ HS6.out)
          clear HPS HS6 HCN
          go_wp2_with fail
          go_at_call 57
          refine HP7.out.mono ?_
          rintro e w8 ⟨v8, rfl, S8⟩
          have HS8 := Lib.hid S8
          clear S8 HP7
          go_wp2_with fail
          go_ret2
          exact ⟨_, rfl, HS8.out⟩
end Go.Proofs.YtkkkfjinflepmaaGreatDoor
