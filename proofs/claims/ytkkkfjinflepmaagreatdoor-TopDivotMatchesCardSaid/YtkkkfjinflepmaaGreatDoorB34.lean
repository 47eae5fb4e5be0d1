/- Part 34 of the walks of the golf union's program: DN3. -/
import Derived.Test.YtkkkfjinflepmaaGreatDoorB33
import Derived.BigQuiet
import Derived.Deep.Cut
import Derived.OwnWalk
set_option linter.unusedVariables false
set_option linter.unusedSimpArgs false
set_option linter.unusedSectionVars false
set_option linter.constructorNameAsVariable false
/- TopDivotMatches: a bracket that is played (printed by gen_play.py). -/
namespace Go.Proofs.YtkkkfjinflepmaaGreatDoor
open Go.RowKit Go.Mem Go.Sheet Go.Adj
theorem eltTS : Elt Tryz.prog 38 32 (.slice none 0 0) 1 24 := ⟨Tryz.underlying38, by kernel_rfl, rfl, by decide⟩
theorem one_sl5 (A : Option Addr) (m c : Nat) : ∀ u ∈ [Value.slice A m c], u.oneCell' = true := by simp [Value.oneCell']
theorem one_str5 (s : ByteArray) : ∀ u ∈ [Value.string s], u.oneCell' = true := by simp [Value.oneCell']
/-- all rounds up to one -/
def TS (f : Nat → ByteArray) (up : Nat → Nat → Int) (go : Option Nat) (m r : Nat) : List (List Value) := (List.range r).map fun i => strsO f (rndL up go m i)
theorem TS_snoc (f : Nat → ByteArray) (up : Nat → Nat → Int) (go : Option Nat) (m r : Nat) : TS f up go m (r + 1) = TS f up go m r ++ [strsO f (rndL up go m r)] := by unfold TS; rw [List.range_succ, List.map_append]; rfl
theorem strsO_len (f : Nat → ByteArray) (S : List (Option Nat)) : (strsO f S).length = S.length := by unfold strsO; rw [List.length_map]
theorem strsO_at {f : Nat → ByteArray} {S : List (Option Nat)} {k : Nat} (h : k < S.length) : (strsO f S)[k]? = some (.string (nmO f (S.getD k none))) := by
  unfold strsO
  rw [List.getElem?_map, List.getElem?_eq_getElem h, List.getD_eq_getElem?_getD, List.getElem?_eq_getElem h]; rfl
theorem strsL_snoc (f : Nat → ByteArray) (l l' : List Nat) : strsL f (l ++ l') = strsL f l ++ strsL f l' := by unfold strsL; rw [List.map_append]
theorem strsL_len (f : Nat → ByteArray) (l : List Nat) : (strsL f l).length = l.length := by unfold strsL; rw [List.length_map]
theorem pw5 {R r : Nat} (h : r ≤ R) : 2 ^ R / 2 ^ r = 2 ^ (R - r) := by
  have : 2 ^ R = 2 ^ (R - r) * 2 ^ r := by rw [← Nat.pow_add]; congr 1; omega
  rw [this, Nat.mul_div_cancel _ (Nat.two_pow_pos r)]
theorem lossL_len (up : Nat → Nat → Int) (gone : Option Nat) (S : List (Option Nat)) : ∀ k, (lossL up gone S k).length ≤ k
  | 0 => Nat.le_refl _
  | k + 1 => by
    have h1 := lossL_len up gone S k
    have h2 := lossP_len up gone (S.getD (2 * k) none) (S.getD (2 * k + 1) none)
    rw [lossL_snoc, List.length_append]
    omega
theorem losers_len (up : Nat → Nat → Int) (gone : Option Nat) (S : List (Option Nat)) (k : Nat) : (losers up gone S k).length ≤ k + 1 := by
  have h1 := lossL_len up gone S k
  unfold losers
  rw [List.length_append]
  have h2 : (outL gone).length ≤ 1 := by cases gone <;> simp [outL]
  omega
theorem losers_nil (up : Nat → Nat → Int) (gone : Option Nat) (S : List (Option Nat)) : losers up gone S 0 = outL gone := by unfold losers lossL; simp
set_option maxRecDepth 100000 in
set_option maxHeartbeats 0 in
theorem divotPlay_ok (W : World) (v vp vl : Value) (nn n m R : Nat) (hs : List HI) (ps : List PI) (go : Option Nat) (hgm : ∀ g, go = some g → g < m) (hR : SlotOk m R) (hm : 2 ≤ m ∧ m ≤ 12) (hn : n ≤ 36) (h : Rd W (· < W.heap.size) 2 v nn (hs.flatMap HI.cells))
    (hp : RdPl W (· < W.heap.size) vp m ps) (f : Nat → ByteArray) (hl : Rd W (· < W.heap.size) 1 vl m (strsV f m)) (hg : GoodNs f m)
    (hM : ∀ a b, a < m → b < m → a ≠ b → ∀ w, Below W.heap.size W w → Calls Tryz.prog 35 #[v, plV (pAt ps a), plV (pAt ps b)] w fun e w' => ∃ v', e = .returned (.tuple #[v', .int .i64 0]) ∧ St w w' [row 95 3 v' (MTF hs ps n a b).length ((MTF hs ps n a b).flatMap StI.cells)]) :
    Calls Tryz.prog 10 #[.agg #[v, vp], vl, .int .i64 (seedO go)] W fun e w' => ∃ va ms, e = .returned (.tuple #[.string (nmO f (rndF (upP hs ps n) go (slotF m) R 0)), va, .bool true]) ∧ ms.map Prod.snd = TS f (upP hs ps n) go m (R + 1) ∧
      St W w' [row 32 1 va (R + 1) (ms.map Prod.fst), rdAll ms] := by
  obtain ⟨A, c, rfl, _, _, _⟩ := h.open_
  obtain ⟨Ap, cp, rfl, _, _, _⟩ := hp.1.open_
  obtain ⟨Al, cl, rfl, _, _, _⟩ := hl.open_
  obtain ⟨bl, ol, rfl, _, _, _⟩ := hl.addr (by omega)
  obtain ⟨bp, op, rfl, _, _, _⟩ := hp.1.addr (by omega)
  have HP := Lib.hid hp
  have HL := Lib.hid hl
  have HG := Lib.hid hg
  have HR := Lib.hid hR
  have HGM := Lib.hid hgm
  have HUB := Lib.hid (fun a b => upP_bd hs ps n a b hn)
  have HUP : Hid (∀ a b, upP hs ps n a b = lastUp (MTF hs ps n a b)) := fun _ _ => rfl
  have HMIR := Lib.hid (fun a b => MTF_mir hs ps n a b)
  have HMA := Lib.hid hM
  have HSD : Hid (∀ w, Below W.heap.size W w → ∀ s : Option Nat, (∀ p, s = some p → p < m) → Calls Tryz.prog 11 #[.slice (some ⟨bl, ol, none⟩) m cl, .string (nmO f s)] w fun e w' => e = .returned (.int .i64 (seedO s)) ∧ w = w') := fun w hw s hs' => divotSeed_ok w _ _ m f (HL.out.later hw) HG.out s hs'
  have HCL : Hid (∀ k, k < m → ∀ w, Below W.heap.size W w → w.cell? ⟨bl, ol + k, none⟩ = some (.string (f k))) := fun k hk w hw => by
    obtain ⟨_, _, ux2, e2, _, hux2, hc2⟩ := (HL.out.later hw).at_ hk
    cases e2
    rw [strsV_at f hk] at hux2
    cases hux2
    exact hc2
  have HCP : Hid (∀ k, k < m → ∀ w, Below W.heap.size W w → w.cell? ⟨bp, op + k * 3, none⟩ = some (.string (pAt ps k).name) ∧ w.cell? ⟨bp, op + k * 3 + 1, none⟩ = some (.slice (pAt ps k).a (pAt ps k).m (pAt ps k).c) ∧ w.cell? ⟨bp, op + k * 3 + 2, none⟩ = some (.int .i64 (pAt ps k).co)) := fun k hk w hw => by
    obtain ⟨_, _, e, _, c0, c1, c2⟩ := rdPl_at5 (HP.out.later hw) hk
    cases e
    exact ⟨c0, c1, c2⟩
  generalize upP hs ps n = up at *
  generalize hMT : MTF hs ps n = MT at *
  clear h hp hl hg hR hM hgm hMT hn
  have S0 := (St.refl W).blk_new #[.slice A nn c, .slice (some ⟨bp, op, none⟩) m cp] 25
  simp only [List.nil_append] at S0
  have HD := Lib.hid (draw_ok (W.alloc (.cells #[.slice A nn c, .slice (some ⟨bp, op, none⟩) m cp] 25)) m _ f (HL.out.later S0.bel) HG.out ⟨by omega, by omega⟩)
  have HS0 := Lib.hid S0
  clear S0
  obtain ⟨gone, hgn⟩ : ∃ gone, gone = seedO go := ⟨_, rfl⟩
  rw [← hgn]
  have HGN := Lib.hid hgn
  clear hgn
  go_enter Tryz.func10, Tryz.ntmps10
  go_wp2_with fail
  generalize W.alloc (.cells #[.slice A nn c, .slice (some ⟨bp, op, none⟩) m cp] 25) = w1 at *
  obtain ⟨gc, hgc⟩ : ∃ gc, gc = W.heap.size := ⟨_, rfl⟩
  have HS0 : Hid (St W w1 [blk gc 25 #[.slice A nn c, .slice (some ⟨bp, op, none⟩) m cp]]) := by rw [hgc]; exact HS0.out
  rw [← hgc]
  clear hgc
  go_at_call 20
  refine HD.out.mono ?_
  rintro e w2 ⟨vs, rfl, S1⟩
  have S2 := HS0.out.call S1
  simp only [List.cons_append, List.nil_append] at S2
  have hlen := HR.out.len
  obtain ⟨N, hN⟩ : ∃ N, N = (slotL m).length := ⟨_, rfl⟩
  rw [← hN] at S2 hlen
  have hR4 := HR.out.rr
  have hNb : 2 ≤ N ∧ N ≤ 16 := by
    have : R = 1 ∨ R = 2 ∨ R = 3 ∨ R = 4 := by omega
    rw [hlen]
    rcases this with rfl | rfl | rfl | rfl <;> decide
  have hN0 : ((N : Int) == 0) = false := by simp; omega
  have hN0' : (N == 0) = false := by simp; omega
  have HN := Lib.hid hN
  have HNL := Lib.hid hlen
  obtain ⟨As, cs, rfl, _, _, _⟩ := (S2.row_rd (i := 1) rfl).open_
  have S3 := S2.row_new (e := 32) (size := 1) (n := 1) #[.slice As N cs] (by unfold maxLen; omega) rfl
  have S4 := S3.rdAll_new
  simp only [List.cons_append, List.nil_append] at S4
  have S5 := S4.perm5 (L' := [_, _] ++ [_, _]) (.cons _ (List.perm_append_comm (l₁ := [_]) (l₂ := [_, _])))
  have S6 := S5.freeze5 (by rw [strsO_len, ← HN.out])
  simp only [List.cons_append, List.nil_append] at S6
  have HS6 := Lib.hid S6
  clear S1 S2 S3 S4 S5 S6 hN hlen HD HS0
  go_wp2_with fail
  obtain ⟨FA, hfa⟩ : ∃ FA, FA = blk gc 25 #[.slice A nn c, .slice (some ⟨bp, op, none⟩) m cp] := ⟨_, rfl⟩
  have HFC : Hid (∀ w' L, St W w' (FA :: L) → w'.cell? ⟨gc, 0, none⟩ = some (.slice A nn c) ∧ w'.cell? ⟨gc, 1, none⟩ = some (.slice (some ⟨bp, op, none⟩) m cp)) := fun w' L hw => by
    rw [hfa] at hw
    exact ⟨hw.blk_cell (i := 0) rfl 0, hw.blk_cell (i := 0) rfl 1⟩
  rw [← hfa] at HS6
  clear hfa
  go_loopw [12, 9, 11] (fun rd sv av w' => ∃ (r : Nat) (ms : List (Value × List Value)), r ≤ R ∧ rd = .int .i64 ((r : Int) + 1) ∧ Hid (ms.map Prod.snd = TS f up go m (r + 1)) ∧ (∃ u, ms[r]? = some (sv, u)) ∧ St W w' [FA, row 32 1 av (r + 1) (ms.map Prod.fst), rdAll ms]) (fun rd _ _ _ => 20 - (intOf rd).toNat)
  case atStart =>
    refine ⟨0, [(.slice As N cs, strsO f (slotL m))], Nat.zero_le _, rfl, ?_, ⟨_, rfl⟩, HS6.out⟩
    show [strsO f (slotL m)] = [strsO f (rndL up go m 0)]
    rw [rndL_zero]
  case round =>
    obtain ⟨r, ms, hr, rfl, hms, ⟨u, hu⟩, S⟩ := hrel
    clear HS6
    have hu2 : u = strsO f (rndL up go m r) := by
      have e : (ms.map Prod.snd)[r]? = some u := by rw [List.getElem?_map, hu]; rfl
      rw [hms.out, TS_snoc, List.getElem?_append_right (by unfold TS; simp)] at e
      have e2 : (TS f up go m r).length = r := by unfold TS; simp
      rw [e2, Nat.sub_self] at e
      exact (Option.some.inj e).symm
    subst hu2
    have hrd := S.rdAll_at (i := 2) rfl hu
    obtain ⟨q, hq⟩ : ∃ q, q = (rndL up go m r).length := ⟨_, rfl⟩
    have hq2 : q = 2 ^ (R - r) := by rw [hq, rndL_len, ← HN.out, HNL.out, pw5 hr]
    rw [strsO_len, ← hq] at hrd
    obtain ⟨Aq, cq, rfl, _, _, _⟩ := hrd.open_
    have HRD := Lib.hid hrd
    have HQ := Lib.hid hq
    have HMS := Lib.hid hu
    have HS := Lib.hid S
    clear hrd hq hu S
    have t9 : decide ((r : Int) + 1 < 9) = true := decide_eq_true (by omega)
    by_cases hlt : r < R
    · obtain ⟨q', hq'⟩ : ∃ q', q = 2 * q' := ⟨2 ^ (R - r - 1), by rw [hq2, show R - r = (R - r - 1) + 1 by omega, Nat.pow_succ]; simp; omega⟩
      have hq16 : 2 ≤ q ∧ q ≤ 16 ∧ (q = 2 ∨ q = 4 ∨ q = 8 ∨ q = 16) := by
        have : R - r = 1 ∨ R - r = 2 ∨ R - r = 3 ∨ R - r = 4 := by omega
        rw [hq2]
        rcases this with e | e | e | e <;> rw [e] <;> decide
      obtain ⟨hqa, hqb, hqc⟩ := hq16
      have HQC := Lib.hid hqc
      have HQQ := Lib.hid hq'
      have t1 : decide ((1 : Int) < (q : Int)) = true := decide_eq_true (by omega)
      have t1' : decide (1 < q) = true := decide_eq_true (by omega)
      have hz : (slotL m).length / 2 ^ r = 2 * q' := by rw [← rndL_len up go m r, ← HQ.out]; exact hq'
      have HSTEP := Lib.hid (rndL_step (up := up) (gone := go) HR.out.inj hz)
      have HINJ := Lib.hid (rndL_inj (up := up) (gone := go) (n := m) (r := r) HR.out.inj)
      have HPB : Hid (∀ i p, (rndL up go m r).getD i none = some p → p < m) := fun i p hi => by
        obtain ⟨_, h2⟩ := rndL_at (getD_some.1 hi)
        obtain ⟨j, hj⟩ := rndF_from r i p h2
        exact (HR.out.bd j p hj).1
      have HGP : Hid (∀ g, (if r = 0 then go else none) = some g → g ∈ pres (rndL up go m r)) := fun g hgo => by
        by_cases h0 : r = 0
        · subst h0
          rw [if_pos rfl] at hgo
          obtain ⟨i, hi⟩ := HR.out.all g (HGM.out g hgo)
          rw [rndL_zero]
          exact mem_pres.2 (List.mem_of_getElem? (getD_some.1 hi))
        · rw [if_neg h0] at hgo; cases hgo
      generalize hSS : rndL up go m r = SS at *
      have HSS := Lib.hid hSS
      clear hq2 hq' hqc hz hSS
      by_cases h0 : r = 0
      · obtain hgo | ⟨g, hgo⟩ : go = none ∨ ∃ g, go = some g := by
          cases go with
          | none => exact .inl rfl
          | some g => exact .inr ⟨g, rfl⟩
        · as_aux_lemma =>
          have hgg : gone = -1 := by rw [HGN.out, hgo]; rfl
          have tr : ((r : Int) + 1 == 1) = true := by simp [h0]
          have tg : decide ((0 : Int) ≤ gone) = false := decide_eq_false (by omega)
          have HGO := Lib.hid hgo
          obtain ⟨z, hz⟩ : ∃ z : Option Nat, z = none := ⟨_, rfl⟩
          have HZ := Lib.hid hz
          have hst := HSTEP.out
          rw [show (if r = 0 then go else none) = z by rw [if_pos h0, hgo, hz]] at hst
          have HSTEP := Lib.hid hst
          have HGP : Hid (∀ g, z = some g → g ∈ pres SS) := fun g hg => by rw [hz] at hg; cases hg
          have HOL : Hid (losers up z SS 0 = []) := by show _ = _; rw [losers_nil, hz]; rfl
          have S7 := HS.out.row_nil 9 1
          simp only [List.cons_append, List.nil_append] at S7
          have HS8 : Hid (St W wr [FA, row 32 1 u11 (r + 1) (ms.map Prod.fst), rdAll ms, row 9 1 (.slice none 0 0) (losers up z SS 0).length (strsL f (losers up z SS 0))]) := by
            show St _ _ _
            rw [HOL.out]
            exact S7
          generalize wr = wo at *
          clear hz hst S7 hgo hgg h0
          go_wp2_with fail
          go_loopw [14, 13] (fun i lv w' => ∃ k : Nat, k ≤ q' ∧ i = .int .i64 (2 * (k : Int)) ∧ St W w' [FA, row 32 1 u11 (r + 1) (ms.map Prod.fst), rdAll ms, row 9 1 lv (losers up z SS k).length (strsL f (losers up z SS k))]) (fun i _ _ => q' - (intOf i).toNat / 2)
          case atStart => exact ⟨0, Nat.zero_le _, rfl, HS8.out⟩
          case round =>
            obtain ⟨k, hk, rfl, S⟩ := hrel
            clear HS8
            have hqq := HQQ.out
            by_cases hltk : k < q'
            · have hk2 : 2 * k < q := by omega
              have hk3 : 2 * k + 1 < q := by omega
              have hrd2 := S.rdAll_at (i := 2) rfl HMS.out
              rw [strsO_len, ← HQ.out] at hrd2
              obtain ⟨b, o, ux0, hA, hb0, hu0, d0⟩ := hrd2.at_ hk2
              obtain ⟨b', o', ux1, hA', _, hu1, d1⟩ := hrd2.at_ hk3
              subst hA
              cases hA'
              rw [strsO_at (by rw [← HQ.out]; exact hk2)] at hu0
              rw [strsO_at (by rw [← HQ.out]; exact hk3)] at hu1
              cases hu0
              cases hu1
              have hx := HPB.out (2 * k)
              have hy := HPB.out (2 * k + 1)
              have hxy : ∀ p, SS.getD (2 * k) none = some p → SS.getD (2 * k + 1) none = some p → False := fun p h1 h2 => by
                have := HINJ.out _ _ p (getD_some.1 h1) (getD_some.1 h2); omega
              have HLS := Lib.hid (losers_snoc up z SS k)
              have hlk0 : (losers up z SS k).length ≤ 40 := by have := losers_len up z SS k; omega
              generalize losers up z SS k = lk at *
              obtain ⟨lk1, hlk1⟩ : ∃ l, l = losers up z SS (k + 1) := ⟨_, rfl⟩
              rw [← hlk1] at HLS
              have HLK1 := Lib.hid hlk1
              clear hlk1
              generalize SS.getD (2 * k) none = x at *
              generalize SS.getD (2 * k + 1) none = y at *
              have HSX := Lib.hid hx
              have HSY := Lib.hid hy
              have HXY := Lib.hid hxy
              obtain ⟨sa, hsa⟩ : ∃ sa, sa = nmO f x := ⟨_, rfl⟩
              obtain ⟨sb, hsb⟩ : ∃ sb, sb = nmO f y := ⟨_, rfl⟩
              obtain ⟨ia, hia⟩ : ∃ ia, ia = seedO x := ⟨_, rfl⟩
              obtain ⟨ib, hib⟩ : ∃ ib, ib = seedO y := ⟨_, rfl⟩
              have HCA : Hid (∀ w, Below W.heap.size W w → Calls Tryz.prog 11 #[.slice (some ⟨bl, ol, none⟩) m cl, .string sa] w fun e w' => e = .returned (.int .i64 ia) ∧ w = w') := fun w hw => by rw [hsa, hia]; exact HSD.out w hw x hx
              have HCB2 : Hid (∀ w, Below W.heap.size W w → Calls Tryz.prog 11 #[.slice (some ⟨bl, ol, none⟩) m cl, .string sb] w fun e w' => e = .returned (.int .i64 ib) ∧ w = w') := fun w hw => by rw [hsb, hib]; exact HSD.out w hw y hy
              rw [← hsa] at d0
              rw [← hsb] at d1
              have HIA := Lib.hid hia
              have HIB := Lib.hid hib
              have HS1 := Lib.hid S
              clear S hrd2 hx hy hxy hsa hsb hia hib hqq
              have p1 : decide (2 * (k : Int) + 1 < (q : Int)) = true := decide_eq_true (by omega)
              have p2 : decide (2 * (k : Int) < 0) = false := decide_eq_false (by omega)
              have p3 : decide ((q : Int) ≤ 2 * (k : Int)) = false := decide_eq_false (by omega)
              have p4 : decide (2 * (k : Int) + 1 < 0) = false := decide_eq_false (by omega)
              have p5 : decide ((q : Int) ≤ 2 * (k : Int) + 1) = false := decide_eq_false (by omega)
              have q1 : 0 ≤ 2 * (k : Int) := by omega
              have q2 : 2 * (k : Int) < (q : Int) := by omega
              have q3 : 0 ≤ 2 * (k : Int) + 1 := by omega
              have q4 : 2 * (k : Int) + 1 < (q : Int) := by omega
              have n1 : (2 * (k : Int)).toNat = 2 * k := by omega
              have n2 : (2 * (k : Int) + 1).toNat = 2 * k + 1 := by omega
              go_wp2_with fail
              refine wp_cls 13 (fun w' => ∃ j, w' = wr.drewN j) (by kernel_rfl) (by kernel_rfl) ⟨1, rfl⟩ ?_
              simp only [List.take_succ_cons, List.take_zero, List.drop_succ_cons, List.drop_zero]
              generalize hK : (fun w' => ∃ j, w' = wr.drewN j) = K
              intro hne
              have kw : ∀ y : Wd K, ∃ j, y.w = wr.drewN j := by subst hK; exact fun y => y.h
              have k0 : ∀ y : Wd K, y.w.cell? ⟨b, o + 2 * k, none⟩ = some (.string sa) := fun y => by obtain ⟨j, e⟩ := kw y; rw [e]; exact d0
              have k1 : ∀ y : Wd K, y.w.cell? ⟨b, o + (2 * k + 1), none⟩ = some (.string sb) := fun y => by obtain ⟨j, e⟩ := kw y; rw [e]; exact d1
              have kb : ∀ y : Wd K, Below W.heap.size W y.w := fun y => by obtain ⟨j, e⟩ := kw y; rw [e]; exact (HS1.out.drewN j).bel
              clear hK
              iterate 5 (go_big_quiet_step ((fail)))
              go_big_quiet_step ((go_at_call 11; exact cls_same (HCA.out _ (kb _))))
              iterate 6 (go_big_quiet_step ((fail)))
              go_big_quiet_step ((go_at_call 11; exact cls_same (HCB2.out _ (kb _))))
              refine wpQuiet_nil ?_
              intro yw
              obtain ⟨j, hj⟩ := kw yw
              have HS2 : Hid (St W yw.w [FA, row 32 1 u11 (r + 1) (ms.map Prod.fst), rdAll ms, row 9 1 u13 lk.length (strsL f lk)]) := by rw [hj]; exact HS1.out.drewN j
              clear k0 k1 kb kw hj hne HS1 HCA HCB2
              generalize yw.w = w3 at *
              clear yw d0 d1
              cases x with
              | none =>
                have hia : ia = -1 := HIA.out
                subst hia
                have HS3 : Hid (St W w3 [FA, row 32 1 u11 (r + 1) (ms.map Prod.fst), rdAll ms, row 9 1 u13 lk1.length (strsL f lk1)]) := by
                  have e : lk1 = lk := by rw [HLS.out]; simp [lossP]
                  rw [e]; exact HS2.out
                clear HIA HS2
                go_wp2_with fail
                go_roundw
                case rel => exact ⟨k + 1, by omega, by go_num, by rw [← HLK1.out]; exact HS3.out⟩
                case measure => simp [intOf]; omega
              | some a =>
                have hia : ia = (a : Int) := HIA.out
                subst hia
                have ha : a < m := HSX.out a rfl
                have ta : decide ((a : Int) < 0) = false := decide_eq_false (by omega)
                cases y with
                | none =>
                  have hib : ib = -1 := HIB.out
                  subst hib
                  have HS3 : Hid (St W w3 [FA, row 32 1 u11 (r + 1) (ms.map Prod.fst), rdAll ms, row 9 1 u13 lk1.length (strsL f lk1)]) := by
                    have e : lk1 = lk := by rw [HLS.out]; simp [lossP]
                    rw [e]; exact HS2.out
                  clear HIB HIA HS2
                  go_wp2_with fail
                  go_roundw
                  case rel => exact ⟨k + 1, by omega, by go_num, by rw [← HLK1.out]; exact HS3.out⟩
                  case measure => simp [intOf]; omega
                | some b2 =>
                  have hib : ib = (b2 : Int) := HIB.out
                  subst hib
                  have hb : b2 < m := HSY.out b2 rfl
                  have tb : decide ((b2 : Int) < 0) = false := decide_eq_false (by omega)
                  have hab : a ≠ b2 := fun e => HXY.out a rfl (by rw [e])
                  clear HIA HIB
                  have tea : ((a : Int) == gone) = false := by rw [HGN.out, HGO.out]; simp [seedO]
                  have teb : ((b2 : Int) == gone) = false := by rw [HGN.out, HGO.out]; simp [seedO]
                  have hzn : ¬ (z = some a ∨ z = some b2) := by rw [HZ.out]; simp
                  have HLK : Hid (lk1 = lk ++ [loseF up a b2]) := by show _ = _; rw [HLS.out, lossP, if_neg hzn]
                  have hma := HMA.out a b2 ha hb hab
                  have hmb := HMA.out b2 a hb ha (Ne.symm hab)
                  have hca := HCP.out a ha
                  have hcb := HCP.out b2 hb
                  have hup := HUP.out a b2
                  have hub := HUB.out a b2
                  have hmir := HMIR.out a b2
                  rw [hmir] at hmb
                  generalize MT a b2 = MAB at *
                  have hlm : (MAB.map mirS).length = MAB.length := List.length_map ..
                  have hlu := lastUp_mir MAB
                  rw [hlm] at hmb
                  generalize MAB.map mirS = MBA at *
                  generalize pAt ps a = pa at hma hmb hca hcb
                  generalize pAt ps b2 = pb at hma hmb hca hcb
                  obtain ⟨na, aa, mma, cca, esa, xa⟩ := pa
                  obtain ⟨nb, ab, mmb, ccb, esb, xb⟩ := pb
                  simp only [plV] at hma hmb hca hcb
                  obtain ⟨ln, hln⟩ : ∃ ln, ln = MAB.length := ⟨_, rfl⟩
                  rw [← hln] at hma hmb hlm
                  have HMAB := Lib.hid hma
                  have HMBA := Lib.hid hmb
                  have HCA := Lib.hid hca
                  have HCB := Lib.hid hcb
                  have HLN := Lib.hid hln
                  have HLM := Lib.hid hlm
                  have HUPV := Lib.hid hup
                  have HLU := Lib.hid hlu
                  have HHA := Lib.hid ha
                  have HHB := Lib.hid hb
                  have HAB := Lib.hid hab
                  have ja : decide ((m : Int) ≤ (a : Int)) = false := decide_eq_false (by omega)
                  have jb : decide ((m : Int) ≤ (b2 : Int)) = false := decide_eq_false (by omega)
                  have ja' : decide (m ≤ a) = false := decide_eq_false (by omega)
                  have jb' : decide (m ≤ b2) = false := decide_eq_false (by omega)
                  clear hma hmb hca hcb hzn hln hlm hup hlu hmir HLS
                  go_wp2_with fail
                  refine wp_head_tail3 0 17 5 [] [0, 1, 2, 3, 4, 5, 6, 7, 8, 9, 10, 11] rfl (fun w' => ∃ L, St W w' (FA :: L))
                    (fun a a' w' => ∃ (v : Value), a' = (((((a.put (some 112) (.tuple #[v, .int .i64 0])).put (some 99) (.tuple #[v, .int .i64 0])).put (some 113) v).put (some 114) (.int .i64 0)).put (some 17) v) ∧ St W w' [FA, row 32 1 u11 (r + 1) (ms.map Prod.fst), rdAll ms, row 9 1 u13 lk.length (strsL f lk), row 95 3 v ln (MAB.flatMap StI.cells)]) (by kernel_rfl) (by kernel_rfl) ⟨_, HS2.out.drew⟩ ?_
                  simp only [pick, List.filterMap_cons, List.filterMap_nil, List.getElem?_toArray, List.getElem?_cons_succ, List.getElem?_cons_zero]
                  generalize hK : (fun w' : World => ∃ L, St W w' (FA :: L)) = K
                  have kK : ∀ y : Wd K, ∃ L, St W y.w (FA :: L) := by subst hK; exact fun y => y.h
                  have hKd : ∀ (w' : World) (L : List Asr), St W w' (FA :: L) → K w' := by
                    intro w' L h
                    subst hK
                    exact ⟨L, h⟩
                  have SD := Lib.hid HS2.out.drew
                  have hne : Nonempty (Wd K) := ⟨⟨_, hKd _ _ SD.out⟩⟩
                  have y0 : ∀ y : Wd K, y.w.cell? ⟨gc, 0, none⟩ = some (.slice A nn c) := fun y => (HFC.out _ _ (kK y).choose_spec).1
                  have y1 : ∀ y : Wd K, y.w.cell? ⟨gc, 1, none⟩ = some (.slice (some ⟨bp, op, none⟩) m cp) := fun y => (HFC.out _ _ (kK y).choose_spec).2
                  have y2 : ∀ y : Wd K, y.w.cell? ⟨bp, op + a * 3, none⟩ = some (.string na) := fun y => (HCA.out _ (kK y).choose_spec.bel).1
                  have y3 : ∀ y : Wd K, y.w.cell? ⟨bp, op + a * 3 + 1, none⟩ = some (.slice aa mma cca) := fun y => (HCA.out _ (kK y).choose_spec.bel).2.1
                  have y4 : ∀ y : Wd K, y.w.cell? ⟨bp, op + a * 3 + 2, none⟩ = some (.int .i64 xa) := fun y => (HCA.out _ (kK y).choose_spec.bel).2.2
                  have y5 : ∀ y : Wd K, y.w.cell? ⟨bp, op + b2 * 3, none⟩ = some (.string nb) := fun y => (HCB.out _ (kK y).choose_spec.bel).1
                  have y6 : ∀ y : Wd K, y.w.cell? ⟨bp, op + b2 * 3 + 1, none⟩ = some (.slice ab mmb ccb) := fun y => (HCB.out _ (kK y).choose_spec.bel).2.1
                  have y7 : ∀ y : Wd K, y.w.cell? ⟨bp, op + b2 * 3 + 2, none⟩ = some (.int .i64 xb) := fun y => (HCB.out _ (kK y).choose_spec.bel).2.2
                  clear hK kK
                  refine wpQuiet_nil ?_
                  change wpQuiet _ _ _ _ (_ :: _ :: _ :: _ :: _ :: _ :: _ :: _ :: _ :: _ :: _ :: _ :: []) _
                  repeat (go_big_quiet_step ((fail)))
                  refine wpQuiet_nil ?_
                  clear y0 y1 y2 y3 y4 y5 y6 y7
                  generalize World.drew _ = wd at *
                  refine ⟨?_, ?_⟩
                  · as_aux_lemma =>
                    refine headW_all (rs := [12]) (by kernel_rfl) (by decide) (by decide) (List.forall_mem_cons.2 ⟨?_, List.forall_mem_nil _⟩)
                    refine wpOp_list (o := _) rfl ?_
                    intro Q' hQ'
                    go_wp2_with (go_at_call 35; refine (HMAB.out _ SD.out.bel).mono ?_; rintro e wm ⟨vm, rfl, Sm⟩)
                    have SM := SD.out.call Sm
                    simp only [List.cons_append, List.nil_append] at SM
                    have hkm := hKd _ _ SM
                    refine ⟨hkm, ?_⟩
                    refine headW_all (rs := [13]) (by kernel_rfl) (by decide) (by decide) (List.forall_mem_cons.2 ⟨?_, List.forall_mem_nil _⟩)
                    refine wpOp_list (o := _) rfl ?_
                    intro Q' hQ'
                    go_wp2_with fail
                    refine ⟨hkm, ?_⟩
                    refine headW_all (rs := [14, 15]) (by kernel_rfl) (by decide) (by decide) (List.forall_mem_cons.2 ⟨?_, List.forall_mem_cons.2 ⟨?_, List.forall_mem_nil _⟩⟩)
                    · as_aux_lemma =>
                      refine wpOp_list (o := _) rfl ?_
                      intro Q' hQ'
                      go_wp2_with fail
                      refine ⟨hkm, ?_⟩
                      refine headW_all (rs := [15, 16]) (by kernel_rfl) (by decide) (by decide) (List.forall_mem_cons.2 ⟨?_, List.forall_mem_cons.2 ⟨?_, List.forall_mem_nil _⟩⟩)
                      · refine wpOp_list (o := _) rfl ?_
                        intro Q' hQ'
                        go_wp2_with fail
                        refine ⟨hkm, ?_⟩
                        refine headW_all (rs := [16]) (by kernel_rfl) (by decide) (by decide) (List.forall_mem_cons.2 ⟨?_, List.forall_mem_nil _⟩)
                        refine wpOp_list (o := _) rfl ?_
                        intro Q' hQ'
                        go_wp2_with fail
                        refine ⟨hkm, ?_⟩
                        exact ⟨by kernel_rfl, vm, by kernel_rfl, SM⟩
                      · refine wpOp_list (o := _) rfl ?_
                        intro Q' hQ'
                        go_wp2_with fail
                        refine ⟨hkm, ?_⟩
                        refine headW_all (rs := [15]) (by kernel_rfl) (by decide) (by decide) (List.forall_mem_cons.2 ⟨?_, List.forall_mem_nil _⟩)
                        refine wpOp_list (o := _) rfl ?_
                        intro Q' hQ'
                        go_wp2_with fail
                        refine ⟨hkm, ?_⟩
                        exact ⟨by kernel_rfl, vm, by kernel_rfl, SM⟩
                    · as_aux_lemma =>
                      refine wpOp_list (o := _) rfl ?_
                      intro Q' hQ'
                      go_wp2_with fail
                      refine ⟨hkm, ?_⟩
                      refine headW_all (rs := [14]) (by kernel_rfl) (by decide) (by decide) (List.forall_mem_cons.2 ⟨?_, List.forall_mem_nil _⟩)
                      refine wpOp_list (o := _) rfl ?_
                      intro Q' hQ'
                      go_wp2_with fail
                      refine ⟨hkm, ?_⟩
                      refine headW_all (rs := [16]) (by kernel_rfl) (by decide) (by decide) (List.forall_mem_cons.2 ⟨?_, List.forall_mem_nil _⟩)
                      refine wpOp_list (o := _) rfl ?_
                      intro Q' hQ'
                      go_wp2_with fail
                      refine ⟨hkm, ?_⟩
                      exact ⟨by kernel_rfl, vm, by kernel_rfl, SM⟩
                  rintro a' SMAw ⟨SMAv, rfl, SMA⟩
                  clear hKd hne SD HS2
                  obtain ⟨Am, cm, rfl, _, _, _⟩ := (SMA.row_rd (i := 4) rfl).open_
                  have HSA := Lib.hid SMA
                  clear SMA
                  go_wp2_with fail
                  refine NoPanic.normal ?_
                  go_wp2_with fail
                  refine wp_head_tail3 0 17 5 [] [0, 1, 2, 3, 4, 5, 6, 7, 8, 9, 10, 11] rfl (fun w' => ∃ L, St W w' (FA :: L))
                    (fun a a' w' => ∃ (v : Value), a' = (((((a.put (some 128) (.tuple #[v, .int .i64 0])).put (some 115) (.tuple #[v, .int .i64 0])).put (some 129) v).put (some 130) (.int .i64 0)).put (some 19) v) ∧ St W w' [FA, row 32 1 u11 (r + 1) (ms.map Prod.fst), rdAll ms, row 9 1 u13 lk.length (strsL f lk), row 95 3 (.slice Am ln cm) ln (MAB.flatMap StI.cells), row 95 3 v ln (MBA.flatMap StI.cells)]) (by kernel_rfl) (by kernel_rfl) ⟨_, HSA.out.drew⟩ ?_
                  simp only [pick, List.filterMap_cons, List.filterMap_nil, List.getElem?_toArray, List.getElem?_cons_succ, List.getElem?_cons_zero]
                  generalize hK : (fun w' : World => ∃ L, St W w' (FA :: L)) = K
                  have kK : ∀ y : Wd K, ∃ L, St W y.w (FA :: L) := by subst hK; exact fun y => y.h
                  have hKd : ∀ (w' : World) (L : List Asr), St W w' (FA :: L) → K w' := by
                    intro w' L h
                    subst hK
                    exact ⟨L, h⟩
                  have SD := Lib.hid HSA.out.drew
                  have hne : Nonempty (Wd K) := ⟨⟨_, hKd _ _ SD.out⟩⟩
                  have y0 : ∀ y : Wd K, y.w.cell? ⟨gc, 0, none⟩ = some (.slice A nn c) := fun y => (HFC.out _ _ (kK y).choose_spec).1
                  have y1 : ∀ y : Wd K, y.w.cell? ⟨gc, 1, none⟩ = some (.slice (some ⟨bp, op, none⟩) m cp) := fun y => (HFC.out _ _ (kK y).choose_spec).2
                  have y2 : ∀ y : Wd K, y.w.cell? ⟨bp, op + b2 * 3, none⟩ = some (.string nb) := fun y => (HCB.out _ (kK y).choose_spec.bel).1
                  have y3 : ∀ y : Wd K, y.w.cell? ⟨bp, op + b2 * 3 + 1, none⟩ = some (.slice ab mmb ccb) := fun y => (HCB.out _ (kK y).choose_spec.bel).2.1
                  have y4 : ∀ y : Wd K, y.w.cell? ⟨bp, op + b2 * 3 + 2, none⟩ = some (.int .i64 xb) := fun y => (HCB.out _ (kK y).choose_spec.bel).2.2
                  have y5 : ∀ y : Wd K, y.w.cell? ⟨bp, op + a * 3, none⟩ = some (.string na) := fun y => (HCA.out _ (kK y).choose_spec.bel).1
                  have y6 : ∀ y : Wd K, y.w.cell? ⟨bp, op + a * 3 + 1, none⟩ = some (.slice aa mma cca) := fun y => (HCA.out _ (kK y).choose_spec.bel).2.1
                  have y7 : ∀ y : Wd K, y.w.cell? ⟨bp, op + a * 3 + 2, none⟩ = some (.int .i64 xa) := fun y => (HCA.out _ (kK y).choose_spec.bel).2.2
                  clear hK kK
                  refine wpQuiet_nil ?_
                  change wpQuiet _ _ _ _ (_ :: _ :: _ :: _ :: _ :: _ :: _ :: _ :: _ :: _ :: _ :: _ :: []) _
                  repeat (go_big_quiet_step ((fail)))
                  refine wpQuiet_nil ?_
                  clear y0 y1 y2 y3 y4 y5 y6 y7
                  generalize World.drew _ = wd at *
                  refine ⟨?_, ?_⟩
                  · as_aux_lemma =>
                    refine headW_all (rs := [12]) (by kernel_rfl) (by decide) (by decide) (List.forall_mem_cons.2 ⟨?_, List.forall_mem_nil _⟩)
                    refine wpOp_list (o := _) rfl ?_
                    intro Q' hQ'
                    go_wp2_with (go_at_call 35; refine (HMBA.out _ SD.out.bel).mono ?_; rintro e wm ⟨vm, rfl, Sm⟩)
                    have SM := SD.out.call Sm
                    simp only [List.cons_append, List.nil_append] at SM
                    have hkm := hKd _ _ SM
                    refine ⟨hkm, ?_⟩
                    refine headW_all (rs := [13]) (by kernel_rfl) (by decide) (by decide) (List.forall_mem_cons.2 ⟨?_, List.forall_mem_nil _⟩)
                    refine wpOp_list (o := _) rfl ?_
                    intro Q' hQ'
                    go_wp2_with fail
                    refine ⟨hkm, ?_⟩
                    refine headW_all (rs := [14, 15]) (by kernel_rfl) (by decide) (by decide) (List.forall_mem_cons.2 ⟨?_, List.forall_mem_cons.2 ⟨?_, List.forall_mem_nil _⟩⟩)
                    · as_aux_lemma =>
                      refine wpOp_list (o := _) rfl ?_
                      intro Q' hQ'
                      go_wp2_with fail
                      refine ⟨hkm, ?_⟩
                      refine headW_all (rs := [15, 16]) (by kernel_rfl) (by decide) (by decide) (List.forall_mem_cons.2 ⟨?_, List.forall_mem_cons.2 ⟨?_, List.forall_mem_nil _⟩⟩)
                      · refine wpOp_list (o := _) rfl ?_
                        intro Q' hQ'
                        go_wp2_with fail
                        refine ⟨hkm, ?_⟩
                        refine headW_all (rs := [16]) (by kernel_rfl) (by decide) (by decide) (List.forall_mem_cons.2 ⟨?_, List.forall_mem_nil _⟩)
                        refine wpOp_list (o := _) rfl ?_
                        intro Q' hQ'
                        go_wp2_with fail
                        refine ⟨hkm, ?_⟩
                        exact ⟨by kernel_rfl, vm, by kernel_rfl, SM⟩
                      · refine wpOp_list (o := _) rfl ?_
                        intro Q' hQ'
                        go_wp2_with fail
                        refine ⟨hkm, ?_⟩
                        refine headW_all (rs := [15]) (by kernel_rfl) (by decide) (by decide) (List.forall_mem_cons.2 ⟨?_, List.forall_mem_nil _⟩)
                        refine wpOp_list (o := _) rfl ?_
                        intro Q' hQ'
                        go_wp2_with fail
                        refine ⟨hkm, ?_⟩
                        exact ⟨by kernel_rfl, vm, by kernel_rfl, SM⟩
                    · as_aux_lemma =>
                      refine wpOp_list (o := _) rfl ?_
                      intro Q' hQ'
                      go_wp2_with fail
                      refine ⟨hkm, ?_⟩
                      refine headW_all (rs := [14]) (by kernel_rfl) (by decide) (by decide) (List.forall_mem_cons.2 ⟨?_, List.forall_mem_nil _⟩)
                      refine wpOp_list (o := _) rfl ?_
                      intro Q' hQ'
                      go_wp2_with fail
                      refine ⟨hkm, ?_⟩
                      refine headW_all (rs := [16]) (by kernel_rfl) (by decide) (by decide) (List.forall_mem_cons.2 ⟨?_, List.forall_mem_nil _⟩)
                      refine wpOp_list (o := _) rfl ?_
                      intro Q' hQ'
                      go_wp2_with fail
                      refine ⟨hkm, ?_⟩
                      exact ⟨by kernel_rfl, vm, by kernel_rfl, SM⟩
                  rintro a' SMBw ⟨SMBv, rfl, SMB⟩
                  clear hKd hne SD HSA
                  obtain ⟨An, cn, rfl, _, _, _⟩ := (SMB.row_rd (i := 5) rfl).open_
                  have HSB := Lib.hid SMB
                  go_wp2_with fail
                  refine NoPanic.normal ?_
                  have hln63 := (HSB.out.row_rd (i := 5) rfl).le
                  have e1 : (((ln : Nat) : Int) != (ln : Int)) = false := by simp
                  clear SMB
                  obtain ⟨U, hU⟩ : ∃ U, U = up a b2 := ⟨_, rfl⟩
                  rw [← hU] at hub
                  have HU := Lib.hid hU
                  have e2 : ((-U) != (-U)) = false := by simp
                  have e3 : IntKind.i64.wrap (-U) = -U := IntWalk.i64_in _ (by omega)
                  clear hU
                  have HFIN : Hid (∀ w', St W w' [FA, row 32 1 u11 (r + 1) (ms.map Prod.fst), rdAll ms, row 9 1 u13 lk.length (strsL f lk), row 95 3 (.slice Am ln cm) ln (MAB.flatMap StI.cells), row 95 3 (.slice An ln cn) ln (MBA.flatMap StI.cells)] → St W w' [FA, row 32 1 u11 (r + 1) (ms.map Prod.fst), rdAll ms, row 9 1 u13 lk.length (strsL f lk)]) := fun w' hw => hw.sub (List.sublist_append_left [_, _, _, _] [_, _])
                  by_cases hz0 : ln = 0
                  · have hU0 : U = 0 := by
                      rw [HU.out, HUPV.out]
                      have : MAB = [] := List.eq_nil_of_length_eq_zero (by rw [← HLN.out]; exact hz0)
                      rw [this]; rfl
                    have s0 : decide ((0 : Int) < (ln : Int)) = false := decide_eq_false (by omega)
                    have s0' : decide (0 < ln) = false := decide_eq_false (by omega)
                    clear HUPV HLU HLM HMAB HMBA
                    subst hU0
                    go_upto_region 26 with fail
                    by_cases h3 : b2 < a
                    · have s3 : decide ((b2 : Int) < (a : Int)) = true := decide_eq_true (by omega)
                      have s3' : decide (b2 < a) = true := decide_eq_true h3

                      have HLO : Hid (lk1 = lk ++ [a]) := by
                        show _ = _
                        rw [HLK.out]
                        have : loseF up a b2 = a := by
                          unfold loseF
                          rw [← HU.out]
                          first | (rw [if_pos (by omega)]) | (rw [if_neg (by omega)])
                        rw [this]
                      have cl1 := HCL.out a (by first | exact HHA.out | exact HHB.out) _ HSB.out.bel
                      have HS9 := Lib.hid ((HFIN.out _ HSB.out).alloc (.cells #[.string (f a)] 9))
                      generalize hfw : f a = fw at *
                      have HFW := Lib.hid hfw
                      clear hfw HSB
                      go_wp2_with (at_builtin; refine wpList_append_st eltStrD rfl _ _ rfl rfl HS9.out (k := 3) rfl rfl (rd_one (by simp)) (one_str5 _) (by omega) (by omega) ?_; intro v' w' S' _)
                      go_roundw
                      case rel =>
                        refine ⟨k + 1, by omega, by go_num, ?_⟩
                        have e : strsL f lk1 = strsL f lk ++ [.string fw] := by rw [HLO.out, strsL_snoc, ← HFW.out]; rfl
                        have e2 : lk1.length = lk.length + 1 := by rw [HLO.out, List.length_append]; rfl
                        rw [← HLK1.out, e, e2]
                        exact S'
                      case measure => simp [intOf]; omega
                    · have s3 : decide ((b2 : Int) < (a : Int)) = false := decide_eq_false (by omega)
                      have s3' : decide (b2 < a) = false := decide_eq_false h3

                      have HLO : Hid (lk1 = lk ++ [b2]) := by
                        show _ = _
                        rw [HLK.out]
                        have : loseF up a b2 = b2 := by
                          unfold loseF
                          rw [← HU.out]
                          first | (rw [if_pos (by omega)]) | (rw [if_neg (by omega)])
                        rw [this]
                      have cl1 := HCL.out b2 (by first | exact HHA.out | exact HHB.out) _ HSB.out.bel
                      have HS9 := Lib.hid ((HFIN.out _ HSB.out).alloc (.cells #[.string (f b2)] 9))
                      generalize hfw : f b2 = fw at *
                      have HFW := Lib.hid hfw
                      clear hfw HSB
                      go_wp2_with (at_builtin; refine wpList_append_st eltStrD rfl _ _ rfl rfl HS9.out (k := 3) rfl rfl (rd_one (by simp)) (one_str5 _) (by omega) (by omega) ?_; intro v' w' S' _)
                      go_roundw
                      case rel =>
                        refine ⟨k + 1, by omega, by go_num, ?_⟩
                        have e : strsL f lk1 = strsL f lk ++ [.string fw] := by rw [HLO.out, strsL_snoc, ← HFW.out]; rfl
                        have e2 : lk1.length = lk.length + 1 := by rw [HLO.out, List.length_append]; rfl
                        rw [← HLK1.out, e, e2]
                        exact S'
                      case measure => simp [intOf]; omega
                  · have hl0 : 0 < ln := by omega
                    have hrm := (HSB.out.row_rd (i := 4) rfl).now
                    have hrn := (HSB.out.row_rd (i := 5) rfl).now
                    obtain ⟨bm, om, ham, cm0⟩ : ∃ b o, Am = some ⟨b, o, none⟩ ∧ SMBw.cell? ⟨b, o + (ln - 1) * 3, none⟩ = some (.int .i64 U) := by
                      rw [HLN.out] at hrm
                      obtain ⟨b, o, e, hc⟩ := match_last hrm (by rw [← HLN.out]; exact hl0)
                      rw [← HLN.out, ← HUPV.out, ← HU.out] at hc
                      exact ⟨b, o, e, hc⟩
                    obtain ⟨bn, on, han, cn0⟩ : ∃ b o, An = some ⟨b, o, none⟩ ∧ SMBw.cell? ⟨b, o + (ln - 1) * 3, none⟩ = some (.int .i64 (-U)) := by
                      rw [← HLM.out] at hrn
                      obtain ⟨b, o, e, hc⟩ := match_last hrn (by rw [HLM.out]; exact hl0)
                      rw [HLM.out, HLU.out, ← HUPV.out, ← HU.out] at hc
                      exact ⟨b, o, e, hc⟩
                    subst ham
                    subst han
                    have s0 : decide ((0 : Int) < (ln : Int)) = true := decide_eq_true (by omega)
                    have s0' : decide (0 < ln) = true := decide_eq_true (by omega)
                    have r1 : decide ((ln : Int) - 1 < 0) = false := decide_eq_false (by omega)
                    have r2 : decide ((ln : Int) ≤ (ln : Int) - 1) = false := decide_eq_false (by omega)
                    have r3 : 0 ≤ (ln : Int) - 1 := by omega
                    have r4 : (ln : Int) - 1 < (ln : Int) := by omega
                    have r5 : ((ln : Int) - 1).toNat = ln - 1 := by omega
                    clear hrm hrn HUPV HLU HLM HMAB HMBA
                    go_upto_region 26 with fail
                    by_cases h1 : U < 0
                    · have s1 : decide (U < 0) = true := decide_eq_true h1

                      have HLO : Hid (lk1 = lk ++ [a]) := by
                        show _ = _
                        rw [HLK.out]
                        have : loseF up a b2 = a := by
                          unfold loseF
                          rw [← HU.out]
                          first | (rw [if_pos (by omega)]) | (rw [if_neg (by omega)])
                        rw [this]
                      have cl1 := HCL.out a (by first | exact HHA.out | exact HHB.out) _ HSB.out.bel
                      have HS9 := Lib.hid ((HFIN.out _ HSB.out).alloc (.cells #[.string (f a)] 9))
                      generalize hfw : f a = fw at *
                      have HFW := Lib.hid hfw
                      clear hfw HSB
                      go_wp2_with (at_builtin; refine wpList_append_st eltStrD rfl _ _ rfl rfl HS9.out (k := 3) rfl rfl (rd_one (by simp)) (one_str5 _) (by omega) (by omega) ?_; intro v' w' S' _)
                      go_roundw
                      case rel =>
                        refine ⟨k + 1, by omega, by go_num, ?_⟩
                        have e : strsL f lk1 = strsL f lk ++ [.string fw] := by rw [HLO.out, strsL_snoc, ← HFW.out]; rfl
                        have e2 : lk1.length = lk.length + 1 := by rw [HLO.out, List.length_append]; rfl
                        rw [← HLK1.out, e, e2]
                        exact S'
                      case measure => simp [intOf]; omega
                    have s1 : decide (U < 0) = false := decide_eq_false h1
                    by_cases h2 : U = 0
                    · have s2 : (U == 0) = true := by simp [h2]
                      by_cases h3 : b2 < a
                      · have s3 : decide ((b2 : Int) < (a : Int)) = true := decide_eq_true (by omega)
                        have s3' : decide (b2 < a) = true := decide_eq_true h3

                        have HLO : Hid (lk1 = lk ++ [a]) := by
                          show _ = _
                          rw [HLK.out]
                          have : loseF up a b2 = a := by
                            unfold loseF
                            rw [← HU.out]
                            first | (rw [if_pos (by omega)]) | (rw [if_neg (by omega)])
                          rw [this]
                        have cl1 := HCL.out a (by first | exact HHA.out | exact HHB.out) _ HSB.out.bel
                        have HS9 := Lib.hid ((HFIN.out _ HSB.out).alloc (.cells #[.string (f a)] 9))
                        generalize hfw : f a = fw at *
                        have HFW := Lib.hid hfw
                        clear hfw HSB
                        go_wp2_with (at_builtin; refine wpList_append_st eltStrD rfl _ _ rfl rfl HS9.out (k := 3) rfl rfl (rd_one (by simp)) (one_str5 _) (by omega) (by omega) ?_; intro v' w' S' _)
                        go_roundw
                        case rel =>
                          refine ⟨k + 1, by omega, by go_num, ?_⟩
                          have e : strsL f lk1 = strsL f lk ++ [.string fw] := by rw [HLO.out, strsL_snoc, ← HFW.out]; rfl
                          have e2 : lk1.length = lk.length + 1 := by rw [HLO.out, List.length_append]; rfl
                          rw [← HLK1.out, e, e2]
                          exact S'
                        case measure => simp [intOf]; omega
                      · have s3 : decide ((b2 : Int) < (a : Int)) = false := decide_eq_false (by omega)
                        have s3' : decide (b2 < a) = false := decide_eq_false h3

                        have HLO : Hid (lk1 = lk ++ [b2]) := by
                          show _ = _
                          rw [HLK.out]
                          have : loseF up a b2 = b2 := by
                            unfold loseF
                            rw [← HU.out]
                            first | (rw [if_pos (by omega)]) | (rw [if_neg (by omega)])
                          rw [this]
                        have cl1 := HCL.out b2 (by first | exact HHA.out | exact HHB.out) _ HSB.out.bel
                        have HS9 := Lib.hid ((HFIN.out _ HSB.out).alloc (.cells #[.string (f b2)] 9))
                        generalize hfw : f b2 = fw at *
                        have HFW := Lib.hid hfw
                        clear hfw HSB
                        go_wp2_with (at_builtin; refine wpList_append_st eltStrD rfl _ _ rfl rfl HS9.out (k := 3) rfl rfl (rd_one (by simp)) (one_str5 _) (by omega) (by omega) ?_; intro v' w' S' _)
                        go_roundw
                        case rel =>
                          refine ⟨k + 1, by omega, by go_num, ?_⟩
                          have e : strsL f lk1 = strsL f lk ++ [.string fw] := by rw [HLO.out, strsL_snoc, ← HFW.out]; rfl
                          have e2 : lk1.length = lk.length + 1 := by rw [HLO.out, List.length_append]; rfl
                          rw [← HLK1.out, e, e2]
                          exact S'
                        case measure => simp [intOf]; omega
                    have s2 : (U == 0) = false := by simp [h2]

                    have HLO : Hid (lk1 = lk ++ [b2]) := by
                      show _ = _
                      rw [HLK.out]
                      have : loseF up a b2 = b2 := by
                        unfold loseF
                        rw [← HU.out]
                        first | (rw [if_pos (by omega)]) | (rw [if_neg (by omega)])
                      rw [this]
                    have cl1 := HCL.out b2 (by first | exact HHA.out | exact HHB.out) _ HSB.out.bel
                    have HS9 := Lib.hid ((HFIN.out _ HSB.out).alloc (.cells #[.string (f b2)] 9))
                    generalize hfw : f b2 = fw at *
                    have HFW := Lib.hid hfw
                    clear hfw HSB
                    go_wp2_with (at_builtin; refine wpList_append_st eltStrD rfl _ _ rfl rfl HS9.out (k := 3) rfl rfl (rd_one (by simp)) (one_str5 _) (by omega) (by omega) ?_; intro v' w' S' _)
                    go_roundw
                    case rel =>
                      refine ⟨k + 1, by omega, by go_num, ?_⟩
                      have e : strsL f lk1 = strsL f lk ++ [.string fw] := by rw [HLO.out, strsL_snoc, ← HFW.out]; rfl
                      have e2 : lk1.length = lk.length + 1 := by rw [HLO.out, List.length_append]; rfl
                      rw [← HLK1.out, e, e2]
                      exact S'
                    case measure => simp [intOf]; omega
            · obtain rfl : k = q' := by omega
              have hk2 : ¬ (2 * k + 1 < q) := by omega
              have hkb : k ≤ 8 := by omega
              have p1 : decide (2 * (k : Int) + 1 < (q : Int)) = false := decide_eq_false (by omega)
              have hrd2 := S.rdAll_at (i := 2) rfl HMS.out
              rw [strsO_len, ← HQ.out] at hrd2
              have hrl := (S.row_rd (i := 3) rfl).now
              have HADV := Lib.hid (advance_ok wr q k (.slice Aq q cq) u13 f m SS (losers up z SS k) hrd2 hrl HG.out HQ.out HQQ.out HQC.out (pres_nodup HINJ.out)
                (fun p hp => by obtain ⟨i, hi, e⟩ := List.mem_iff_getElem.1 (mem_pres.1 hp); exact HPB.out i p (getD_some.2 (by rw [List.getElem?_eq_getElem hi, e])))
                (losers_nodup HINJ.out k) (fun p hp => losers_pres HGP.out hp) (fun i hi => (pair_stay HINJ.out hi).1))
              have e5 := HSTEP.out
              have HS9 := Lib.hid S
              obtain ⟨Av, cv, rfl, _, _, _⟩ := hrl.open_
              clear S hrd2 hrl hqq
              go_wp2_with fail
              go_at_call 21
              refine HADV.out.mono ?_
              rintro e w4 ⟨vn, rfl, S9⟩
              rw [e5] at S9
              have S10 := HS9.out.call S9
              simp only [List.cons_append, List.nil_append] at S10
              have S11 := S10.sub (L' := [_, _, _, _]) (.cons_cons _ (.cons_cons _ (.cons_cons _ (.cons _ (List.Sublist.refl _)))))
              obtain ⟨An2, cn2, rfl, _, _, _⟩ := (S11.row_rd (i := 3) rfl).open_
              have hk0 : ((k : Int) == 0) = false := by simp; omega
              have hk0' : (k == 0) = false := by simp; omega
              have hkl : k = (strsO f (rndL up go m (r + 1))).length := by
                rw [strsO_len, rndL_len, ← HN.out, HNL.out, pw5 (by omega)]
                have h2 := HQQ.out
                have h3 := HQ.out
                rw [← HSS.out, rndL_len, ← HN.out, HNL.out, pw5 hr] at h3
                have h4 : 2 ^ (R - r) = 2 ^ (R - (r + 1)) * 2 := by
                  rw [← Nat.pow_succ]
                  congr 1
                  omega
                omega
              have S12 := S11.freeze5 (L := [_, _]) hkl
              clear hkl
              simp only [List.cons_append, List.nil_append] at S12
              have HSF := Lib.hid S12
              have HSG := Lib.hid (S12.alloc (.cells #[.slice An2 k cn2] 32))
              clear S9 S10 S11 S12 HS9 HADV e5
              go_wp2_with (at_builtin; refine wpList_append_st eltTS rfl _ _ rfl rfl HSG.out (k := 1) rfl rfl (rd_one (by simp)) (one_sl5 _ _ _) (by omega) (by omega) ?_; intro v' w' S' _)
              go_roundw
              case rel =>
                refine ⟨r + 1, ms ++ [(.slice An2 k cn2, strsO f (rndL up go m (r + 1)))], by omega, by go_num, ?_, ⟨strsO f (rndL up go m (r + 1)), ?_⟩, ?_⟩
                · show _ = _
                  rw [List.map_append, hms.out, TS_snoc f up go m (r + 1)]; rfl
                · have hml : ms.length = r + 1 := by
                    have := congrArg List.length hms.out
                    rw [List.length_map] at this
                    rw [this]; unfold TS; simp
                  rw [List.getElem?_append_right (by omega), hml, Nat.sub_self]; rfl
                · rw [List.map_append]
                  exact S'
              case measure => simp [intOf]; omega
        · as_aux_lemma =>
          have hgm := HGM.out g hgo
          have hgg : gone = (g : Int) := by rw [HGN.out, hgo]; rfl
          have tr : ((r : Int) + 1 == 1) = true := by simp [h0]
          have tg : decide ((0 : Int) ≤ gone) = true := decide_eq_true (by omega)
          have tg1 : decide (gone < 0) = false := decide_eq_false (by omega)
          have tg2 : decide ((m : Int) ≤ gone) = false := decide_eq_false (by omega)
          have tg3 : 0 ≤ gone := by omega
          have tg4 : gone < (m : Int) := by omega
          have tg5 : gone.toNat = g := by omega
          obtain ⟨z, hz⟩ : ∃ z, z = go := ⟨_, rfl⟩
          have HZ := Lib.hid hz
          have hst := HSTEP.out
          rw [show (if r = 0 then go else none) = z by rw [if_pos h0, hz]] at hst
          have HSTEP := Lib.hid hst
          have HGP : Hid (∀ g, z = some g → g ∈ pres SS) := fun g hg => HGP.out g (by rw [if_pos h0, ← hz]; exact hg)
          have HGO := Lib.hid hgo
          have HOL : Hid (losers up z SS 0 = [g]) := by show _ = _; rw [losers_nil, hz, hgo]; rfl
          have S7 := HS.out.row_nil 9 1
          simp only [List.cons_append, List.nil_append] at S7
          have cl0 := HCL.out g hgm _ S7.bel
          have HS7 := Lib.hid (S7.alloc (.cells #[.string (f g)] 9))
          generalize hfg : f g = fg at *
          have HFG := Lib.hid hfg
          generalize wr = wo at *
          clear hz hst S7 hgo hgg hfg h0
          go_wp2_with (at_builtin; refine wpList_append_st eltStrD rfl _ _ rfl rfl HS7.out (k := 3) rfl rfl (rd_one (by simp)) (one_str5 _) (by omega) (by omega) ?_; intro v' w' S' _)
          have HS8 : Hid (St W w' [FA, row 32 1 u11 (r + 1) (ms.map Prod.fst), rdAll ms, row 9 1 v' (losers up z SS 0).length (strsL f (losers up z SS 0))]) := by
            show St _ _ _
            rw [HOL.out]
            have : strsL f [g] = [] ++ [.string fg] := by rw [← HFG.out]; rfl
            rw [this]
            exact S'
          clear S' HS7 cl0 tg tg1 tg2 tg3 tg4 tg5
          go_loopw [14, 13] (fun i lv w' => ∃ k : Nat, k ≤ q' ∧ i = .int .i64 (2 * (k : Int)) ∧ St W w' [FA, row 32 1 u11 (r + 1) (ms.map Prod.fst), rdAll ms, row 9 1 lv (losers up z SS k).length (strsL f (losers up z SS k))]) (fun i _ _ => q' - (intOf i).toNat / 2)
          case atStart => exact ⟨0, Nat.zero_le _, rfl, HS8.out⟩
          case round =>
            obtain ⟨k, hk, rfl, S⟩ := hrel
            clear HS8
            have hqq := HQQ.out
            by_cases hltk : k < q'
            · have hk2 : 2 * k < q := by omega
              have hk3 : 2 * k + 1 < q := by omega
              have hrd2 := S.rdAll_at (i := 2) rfl HMS.out
              rw [strsO_len, ← HQ.out] at hrd2
              obtain ⟨b, o, ux0, hA, hb0, hu0, d0⟩ := hrd2.at_ hk2
              obtain ⟨b', o', ux1, hA', _, hu1, d1⟩ := hrd2.at_ hk3
              subst hA
              cases hA'
              rw [strsO_at (by rw [← HQ.out]; exact hk2)] at hu0
              rw [strsO_at (by rw [← HQ.out]; exact hk3)] at hu1
              cases hu0
              cases hu1
              have hx := HPB.out (2 * k)
              have hy := HPB.out (2 * k + 1)
              have hxy : ∀ p, SS.getD (2 * k) none = some p → SS.getD (2 * k + 1) none = some p → False := fun p h1 h2 => by
                have := HINJ.out _ _ p (getD_some.1 h1) (getD_some.1 h2); omega
              have HLS := Lib.hid (losers_snoc up z SS k)
              have hlk0 : (losers up z SS k).length ≤ 40 := by have := losers_len up z SS k; omega
              generalize losers up z SS k = lk at *
              obtain ⟨lk1, hlk1⟩ : ∃ l, l = losers up z SS (k + 1) := ⟨_, rfl⟩
              rw [← hlk1] at HLS
              have HLK1 := Lib.hid hlk1
              clear hlk1
              generalize SS.getD (2 * k) none = x at *
              generalize SS.getD (2 * k + 1) none = y at *
              have HSX := Lib.hid hx
              have HSY := Lib.hid hy
              have HXY := Lib.hid hxy
              obtain ⟨sa, hsa⟩ : ∃ sa, sa = nmO f x := ⟨_, rfl⟩
              obtain ⟨sb, hsb⟩ : ∃ sb, sb = nmO f y := ⟨_, rfl⟩
              obtain ⟨ia, hia⟩ : ∃ ia, ia = seedO x := ⟨_, rfl⟩
              obtain ⟨ib, hib⟩ : ∃ ib, ib = seedO y := ⟨_, rfl⟩
              have HCA : Hid (∀ w, Below W.heap.size W w → Calls Tryz.prog 11 #[.slice (some ⟨bl, ol, none⟩) m cl, .string sa] w fun e w' => e = .returned (.int .i64 ia) ∧ w = w') := fun w hw => by rw [hsa, hia]; exact HSD.out w hw x hx
              have HCB2 : Hid (∀ w, Below W.heap.size W w → Calls Tryz.prog 11 #[.slice (some ⟨bl, ol, none⟩) m cl, .string sb] w fun e w' => e = .returned (.int .i64 ib) ∧ w = w') := fun w hw => by rw [hsb, hib]; exact HSD.out w hw y hy
              rw [← hsa] at d0
              rw [← hsb] at d1
              have HIA := Lib.hid hia
              have HIB := Lib.hid hib
              have HS1 := Lib.hid S
              clear S hrd2 hx hy hxy hsa hsb hia hib hqq
              have p1 : decide (2 * (k : Int) + 1 < (q : Int)) = true := decide_eq_true (by omega)
              have p2 : decide (2 * (k : Int) < 0) = false := decide_eq_false (by omega)
              have p3 : decide ((q : Int) ≤ 2 * (k : Int)) = false := decide_eq_false (by omega)
              have p4 : decide (2 * (k : Int) + 1 < 0) = false := decide_eq_false (by omega)
              have p5 : decide ((q : Int) ≤ 2 * (k : Int) + 1) = false := decide_eq_false (by omega)
              have q1 : 0 ≤ 2 * (k : Int) := by omega
              have q2 : 2 * (k : Int) < (q : Int) := by omega
              have q3 : 0 ≤ 2 * (k : Int) + 1 := by omega
              have q4 : 2 * (k : Int) + 1 < (q : Int) := by omega
              have n1 : (2 * (k : Int)).toNat = 2 * k := by omega
              have n2 : (2 * (k : Int) + 1).toNat = 2 * k + 1 := by omega
              go_wp2_with fail
              refine wp_cls 13 (fun w' => ∃ j, w' = wr.drewN j) (by kernel_rfl) (by kernel_rfl) ⟨1, rfl⟩ ?_
              simp only [List.take_succ_cons, List.take_zero, List.drop_succ_cons, List.drop_zero]
              generalize hK : (fun w' => ∃ j, w' = wr.drewN j) = K
              intro hne
              have kw : ∀ y : Wd K, ∃ j, y.w = wr.drewN j := by subst hK; exact fun y => y.h
              have k0 : ∀ y : Wd K, y.w.cell? ⟨b, o + 2 * k, none⟩ = some (.string sa) := fun y => by obtain ⟨j, e⟩ := kw y; rw [e]; exact d0
              have k1 : ∀ y : Wd K, y.w.cell? ⟨b, o + (2 * k + 1), none⟩ = some (.string sb) := fun y => by obtain ⟨j, e⟩ := kw y; rw [e]; exact d1
              have kb : ∀ y : Wd K, Below W.heap.size W y.w := fun y => by obtain ⟨j, e⟩ := kw y; rw [e]; exact (HS1.out.drewN j).bel
              clear hK
              iterate 5 (go_big_quiet_step ((fail)))
              go_big_quiet_step ((go_at_call 11; exact cls_same (HCA.out _ (kb _))))
              iterate 6 (go_big_quiet_step ((fail)))
              go_big_quiet_step ((go_at_call 11; exact cls_same (HCB2.out _ (kb _))))
              refine wpQuiet_nil ?_
              intro yw
              obtain ⟨j, hj⟩ := kw yw
              have HS2 : Hid (St W yw.w [FA, row 32 1 u11 (r + 1) (ms.map Prod.fst), rdAll ms, row 9 1 u13 lk.length (strsL f lk)]) := by rw [hj]; exact HS1.out.drewN j
              clear k0 k1 kb kw hj hne HS1 HCA HCB2
              generalize yw.w = w3 at *
              clear yw d0 d1
              cases x with
              | none =>
                have hia : ia = -1 := HIA.out
                subst hia
                have HS3 : Hid (St W w3 [FA, row 32 1 u11 (r + 1) (ms.map Prod.fst), rdAll ms, row 9 1 u13 lk1.length (strsL f lk1)]) := by
                  have e : lk1 = lk := by rw [HLS.out]; simp [lossP]
                  rw [e]; exact HS2.out
                clear HIA HS2
                go_wp2_with fail
                go_roundw
                case rel => exact ⟨k + 1, by omega, by go_num, by rw [← HLK1.out]; exact HS3.out⟩
                case measure => simp [intOf]; omega
              | some a =>
                have hia : ia = (a : Int) := HIA.out
                subst hia
                have ha : a < m := HSX.out a rfl
                have ta : decide ((a : Int) < 0) = false := decide_eq_false (by omega)
                cases y with
                | none =>
                  have hib : ib = -1 := HIB.out
                  subst hib
                  have HS3 : Hid (St W w3 [FA, row 32 1 u11 (r + 1) (ms.map Prod.fst), rdAll ms, row 9 1 u13 lk1.length (strsL f lk1)]) := by
                    have e : lk1 = lk := by rw [HLS.out]; simp [lossP]
                    rw [e]; exact HS2.out
                  clear HIB HIA HS2
                  go_wp2_with fail
                  go_roundw
                  case rel => exact ⟨k + 1, by omega, by go_num, by rw [← HLK1.out]; exact HS3.out⟩
                  case measure => simp [intOf]; omega
                | some b2 =>
                  have hib : ib = (b2 : Int) := HIB.out
                  subst hib
                  have hb : b2 < m := HSY.out b2 rfl
                  have tb : decide ((b2 : Int) < 0) = false := decide_eq_false (by omega)
                  have hab : a ≠ b2 := fun e => HXY.out a rfl (by rw [e])
                  clear HIA HIB
                  by_cases hga : go = some a
                  · have e : (((a : Nat) : Int) == gone) = true := by rw [HGN.out, hga]; simp [seedO]
                    have HS3 : Hid (St W w3 [FA, row 32 1 u11 (r + 1) (ms.map Prod.fst), rdAll ms, row 9 1 u13 lk1.length (strsL f lk1)]) := by
                      have e : lk1 = lk := by rw [HLS.out, lossP, if_pos (by rw [HZ.out, hga]; simp)]; simp
                      rw [e]; exact HS2.out
                    clear HS2
                    go_wp2_with fail
                    go_roundw
                    case rel => exact ⟨k + 1, by omega, by go_num, by rw [← HLK1.out]; exact HS3.out⟩
                    case measure => simp [intOf]; omega
                  have tea : (((a : Nat) : Int) == gone) = false := by
                    rw [Bool.eq_false_iff]
                    intro e
                    have e : ((a : Nat) : Int) = gone := by simpa using e
                    rw [HGN.out] at e
                    apply hga
                    revert e
                    cases go with
                    | none => intro e; simp [seedO] at e
                    | some g => intro e; have : a = g := by have e2 : ((a : Nat) : Int) = ((g : Nat) : Int) := e; omega
                                rw [this]
                  by_cases hgb2 : go = some b2
                  · have e : (((b2 : Nat) : Int) == gone) = true := by rw [HGN.out, hgb2]; simp [seedO]
                    have HS3 : Hid (St W w3 [FA, row 32 1 u11 (r + 1) (ms.map Prod.fst), rdAll ms, row 9 1 u13 lk1.length (strsL f lk1)]) := by
                      have e : lk1 = lk := by rw [HLS.out, lossP, if_pos (by rw [HZ.out, hgb2]; simp)]; simp
                      rw [e]; exact HS2.out
                    clear HS2
                    go_wp2_with fail
                    go_roundw
                    case rel => exact ⟨k + 1, by omega, by go_num, by rw [← HLK1.out]; exact HS3.out⟩
                    case measure => simp [intOf]; omega
                  have teb2 : (((b2 : Nat) : Int) == gone) = false := by
                    rw [Bool.eq_false_iff]
                    intro e
                    have e : ((b2 : Nat) : Int) = gone := by simpa using e
                    rw [HGN.out] at e
                    apply hgb2
                    revert e
                    cases go with
                    | none => intro e; simp [seedO] at e
                    | some g => intro e; have : b2 = g := by have e2 : ((b2 : Nat) : Int) = ((g : Nat) : Int) := e; omega
                                rw [this]
                  have hzn : ¬ (z = some a ∨ z = some b2) := by rw [HZ.out]; simp [hga, hgb2]
                  have HLK : Hid (lk1 = lk ++ [loseF up a b2]) := by show _ = _; rw [HLS.out, lossP, if_neg hzn]
                  have hma := HMA.out a b2 ha hb hab
                  have hmb := HMA.out b2 a hb ha (Ne.symm hab)
                  have hca := HCP.out a ha
                  have hcb := HCP.out b2 hb
                  have hup := HUP.out a b2
                  have hub := HUB.out a b2
                  have hmir := HMIR.out a b2
                  rw [hmir] at hmb
                  generalize MT a b2 = MAB at *
                  have hlm : (MAB.map mirS).length = MAB.length := List.length_map ..
                  have hlu := lastUp_mir MAB
                  rw [hlm] at hmb
                  generalize MAB.map mirS = MBA at *
                  generalize pAt ps a = pa at hma hmb hca hcb
                  generalize pAt ps b2 = pb at hma hmb hca hcb
                  obtain ⟨na, aa, mma, cca, esa, xa⟩ := pa
                  obtain ⟨nb, ab, mmb, ccb, esb, xb⟩ := pb
                  simp only [plV] at hma hmb hca hcb
                  obtain ⟨ln, hln⟩ : ∃ ln, ln = MAB.length := ⟨_, rfl⟩
                  rw [← hln] at hma hmb hlm
                  have HMAB := Lib.hid hma
                  have HMBA := Lib.hid hmb
                  have HCA := Lib.hid hca
                  have HCB := Lib.hid hcb
                  have HLN := Lib.hid hln
                  have HLM := Lib.hid hlm
                  have HUPV := Lib.hid hup
                  have HLU := Lib.hid hlu
                  have HHA := Lib.hid ha
                  have HHB := Lib.hid hb
                  have HAB := Lib.hid hab
                  have ja : decide ((m : Int) ≤ (a : Int)) = false := decide_eq_false (by omega)
                  have jb : decide ((m : Int) ≤ (b2 : Int)) = false := decide_eq_false (by omega)
                  have ja' : decide (m ≤ a) = false := decide_eq_false (by omega)
                  have jb' : decide (m ≤ b2) = false := decide_eq_false (by omega)
                  clear hma hmb hca hcb hzn hln hlm hup hlu hmir HLS
                  go_wp2_with fail
                  refine wp_head_tail3 0 17 5 [] [0, 1, 2, 3, 4, 5, 6, 7, 8, 9, 10, 11] rfl (fun w' => ∃ L, St W w' (FA :: L))
                    (fun a a' w' => ∃ (v : Value), a' = (((((a.put (some 112) (.tuple #[v, .int .i64 0])).put (some 99) (.tuple #[v, .int .i64 0])).put (some 113) v).put (some 114) (.int .i64 0)).put (some 17) v) ∧ St W w' [FA, row 32 1 u11 (r + 1) (ms.map Prod.fst), rdAll ms, row 9 1 u13 lk.length (strsL f lk), row 95 3 v ln (MAB.flatMap StI.cells)]) (by kernel_rfl) (by kernel_rfl) ⟨_, HS2.out.drew⟩ ?_
                  simp only [pick, List.filterMap_cons, List.filterMap_nil, List.getElem?_toArray, List.getElem?_cons_succ, List.getElem?_cons_zero]
                  generalize hK : (fun w' : World => ∃ L, St W w' (FA :: L)) = K
                  have kK : ∀ y : Wd K, ∃ L, St W y.w (FA :: L) := by subst hK; exact fun y => y.h
                  have hKd : ∀ (w' : World) (L : List Asr), St W w' (FA :: L) → K w' := by
                    intro w' L h
                    subst hK
                    exact ⟨L, h⟩
                  have SD := Lib.hid HS2.out.drew
                  have hne : Nonempty (Wd K) := ⟨⟨_, hKd _ _ SD.out⟩⟩
                  have y0 : ∀ y : Wd K, y.w.cell? ⟨gc, 0, none⟩ = some (.slice A nn c) := fun y => (HFC.out _ _ (kK y).choose_spec).1
                  have y1 : ∀ y : Wd K, y.w.cell? ⟨gc, 1, none⟩ = some (.slice (some ⟨bp, op, none⟩) m cp) := fun y => (HFC.out _ _ (kK y).choose_spec).2
                  have y2 : ∀ y : Wd K, y.w.cell? ⟨bp, op + a * 3, none⟩ = some (.string na) := fun y => (HCA.out _ (kK y).choose_spec.bel).1
                  have y3 : ∀ y : Wd K, y.w.cell? ⟨bp, op + a * 3 + 1, none⟩ = some (.slice aa mma cca) := fun y => (HCA.out _ (kK y).choose_spec.bel).2.1
                  have y4 : ∀ y : Wd K, y.w.cell? ⟨bp, op + a * 3 + 2, none⟩ = some (.int .i64 xa) := fun y => (HCA.out _ (kK y).choose_spec.bel).2.2
                  have y5 : ∀ y : Wd K, y.w.cell? ⟨bp, op + b2 * 3, none⟩ = some (.string nb) := fun y => (HCB.out _ (kK y).choose_spec.bel).1
                  have y6 : ∀ y : Wd K, y.w.cell? ⟨bp, op + b2 * 3 + 1, none⟩ = some (.slice ab mmb ccb) := fun y => (HCB.out _ (kK y).choose_spec.bel).2.1
                  have y7 : ∀ y : Wd K, y.w.cell? ⟨bp, op + b2 * 3 + 2, none⟩ = some (.int .i64 xb) := fun y => (HCB.out _ (kK y).choose_spec.bel).2.2
                  clear hK kK
                  refine wpQuiet_nil ?_
                  change wpQuiet _ _ _ _ (_ :: _ :: _ :: _ :: _ :: _ :: _ :: _ :: _ :: _ :: _ :: _ :: []) _
                  repeat (go_big_quiet_step ((fail)))
                  refine wpQuiet_nil ?_
                  clear y0 y1 y2 y3 y4 y5 y6 y7
                  generalize World.drew _ = wd at *
                  refine ⟨?_, ?_⟩
                  · as_aux_lemma =>
                    refine headW_all (rs := [12]) (by kernel_rfl) (by decide) (by decide) (List.forall_mem_cons.2 ⟨?_, List.forall_mem_nil _⟩)
                    refine wpOp_list (o := _) rfl ?_
                    intro Q' hQ'
                    go_wp2_with (go_at_call 35; refine (HMAB.out _ SD.out.bel).mono ?_; rintro e wm ⟨vm, rfl, Sm⟩)
                    have SM := SD.out.call Sm
                    simp only [List.cons_append, List.nil_append] at SM
                    have hkm := hKd _ _ SM
                    refine ⟨hkm, ?_⟩
                    refine headW_all (rs := [13]) (by kernel_rfl) (by decide) (by decide) (List.forall_mem_cons.2 ⟨?_, List.forall_mem_nil _⟩)
                    refine wpOp_list (o := _) rfl ?_
                    intro Q' hQ'
                    go_wp2_with fail
                    refine ⟨hkm, ?_⟩
                    refine headW_all (rs := [14, 15]) (by kernel_rfl) (by decide) (by decide) (List.forall_mem_cons.2 ⟨?_, List.forall_mem_cons.2 ⟨?_, List.forall_mem_nil _⟩⟩)
                    · as_aux_lemma =>
                      refine wpOp_list (o := _) rfl ?_
                      intro Q' hQ'
                      go_wp2_with fail
                      refine ⟨hkm, ?_⟩
                      refine headW_all (rs := [15, 16]) (by kernel_rfl) (by decide) (by decide) (List.forall_mem_cons.2 ⟨?_, List.forall_mem_cons.2 ⟨?_, List.forall_mem_nil _⟩⟩)
                      · refine wpOp_list (o := _) rfl ?_
                        intro Q' hQ'
                        go_wp2_with fail
                        refine ⟨hkm, ?_⟩
                        refine headW_all (rs := [16]) (by kernel_rfl) (by decide) (by decide) (List.forall_mem_cons.2 ⟨?_, List.forall_mem_nil _⟩)
                        refine wpOp_list (o := _) rfl ?_
                        intro Q' hQ'
                        go_wp2_with fail
                        refine ⟨hkm, ?_⟩
                        exact ⟨by kernel_rfl, vm, by kernel_rfl, SM⟩
                      · refine wpOp_list (o := _) rfl ?_
                        intro Q' hQ'
                        go_wp2_with fail
                        refine ⟨hkm, ?_⟩
                        refine headW_all (rs := [15]) (by kernel_rfl) (by decide) (by decide) (List.forall_mem_cons.2 ⟨?_, List.forall_mem_nil _⟩)
                        refine wpOp_list (o := _) rfl ?_
                        intro Q' hQ'
                        go_wp2_with fail
                        refine ⟨hkm, ?_⟩
                        exact ⟨by kernel_rfl, vm, by kernel_rfl, SM⟩
                    · as_aux_lemma =>
                      refine wpOp_list (o := _) rfl ?_
                      intro Q' hQ'
                      go_wp2_with fail
                      refine ⟨hkm, ?_⟩
                      refine headW_all (rs := [14]) (by kernel_rfl) (by decide) (by decide) (List.forall_mem_cons.2 ⟨?_, List.forall_mem_nil _⟩)
                      refine wpOp_list (o := _) rfl ?_
                      intro Q' hQ'
                      go_wp2_with fail
                      refine ⟨hkm, ?_⟩
                      refine headW_all (rs := [16]) (by kernel_rfl) (by decide) (by decide) (List.forall_mem_cons.2 ⟨?_, List.forall_mem_nil _⟩)
                      refine wpOp_list (o := _) rfl ?_
                      intro Q' hQ'
                      go_wp2_with fail
                      refine ⟨hkm, ?_⟩
                      exact ⟨by kernel_rfl, vm, by kernel_rfl, SM⟩
                  rintro a' SMAw ⟨SMAv, rfl, SMA⟩
                  clear hKd hne SD HS2
                  obtain ⟨Am, cm, rfl, _, _, _⟩ := (SMA.row_rd (i := 4) rfl).open_
                  have HSA := Lib.hid SMA
                  clear SMA
                  go_wp2_with fail
                  refine NoPanic.normal ?_
                  go_wp2_with fail
                  refine wp_head_tail3 0 17 5 [] [0, 1, 2, 3, 4, 5, 6, 7, 8, 9, 10, 11] rfl (fun w' => ∃ L, St W w' (FA :: L))
                    (fun a a' w' => ∃ (v : Value), a' = (((((a.put (some 128) (.tuple #[v, .int .i64 0])).put (some 115) (.tuple #[v, .int .i64 0])).put (some 129) v).put (some 130) (.int .i64 0)).put (some 19) v) ∧ St W w' [FA, row 32 1 u11 (r + 1) (ms.map Prod.fst), rdAll ms, row 9 1 u13 lk.length (strsL f lk), row 95 3 (.slice Am ln cm) ln (MAB.flatMap StI.cells), row 95 3 v ln (MBA.flatMap StI.cells)]) (by kernel_rfl) (by kernel_rfl) ⟨_, HSA.out.drew⟩ ?_
                  simp only [pick, List.filterMap_cons, List.filterMap_nil, List.getElem?_toArray, List.getElem?_cons_succ, List.getElem?_cons_zero]
                  generalize hK : (fun w' : World => ∃ L, St W w' (FA :: L)) = K
                  have kK : ∀ y : Wd K, ∃ L, St W y.w (FA :: L) := by subst hK; exact fun y => y.h
                  have hKd : ∀ (w' : World) (L : List Asr), St W w' (FA :: L) → K w' := by
                    intro w' L h
                    subst hK
                    exact ⟨L, h⟩
                  have SD := Lib.hid HSA.out.drew
                  have hne : Nonempty (Wd K) := ⟨⟨_, hKd _ _ SD.out⟩⟩
                  have y0 : ∀ y : Wd K, y.w.cell? ⟨gc, 0, none⟩ = some (.slice A nn c) := fun y => (HFC.out _ _ (kK y).choose_spec).1
                  have y1 : ∀ y : Wd K, y.w.cell? ⟨gc, 1, none⟩ = some (.slice (some ⟨bp, op, none⟩) m cp) := fun y => (HFC.out _ _ (kK y).choose_spec).2
                  have y2 : ∀ y : Wd K, y.w.cell? ⟨bp, op + b2 * 3, none⟩ = some (.string nb) := fun y => (HCB.out _ (kK y).choose_spec.bel).1
                  have y3 : ∀ y : Wd K, y.w.cell? ⟨bp, op + b2 * 3 + 1, none⟩ = some (.slice ab mmb ccb) := fun y => (HCB.out _ (kK y).choose_spec.bel).2.1
                  have y4 : ∀ y : Wd K, y.w.cell? ⟨bp, op + b2 * 3 + 2, none⟩ = some (.int .i64 xb) := fun y => (HCB.out _ (kK y).choose_spec.bel).2.2
                  have y5 : ∀ y : Wd K, y.w.cell? ⟨bp, op + a * 3, none⟩ = some (.string na) := fun y => (HCA.out _ (kK y).choose_spec.bel).1
                  have y6 : ∀ y : Wd K, y.w.cell? ⟨bp, op + a * 3 + 1, none⟩ = some (.slice aa mma cca) := fun y => (HCA.out _ (kK y).choose_spec.bel).2.1
                  have y7 : ∀ y : Wd K, y.w.cell? ⟨bp, op + a * 3 + 2, none⟩ = some (.int .i64 xa) := fun y => (HCA.out _ (kK y).choose_spec.bel).2.2
                  clear hK kK
                  refine wpQuiet_nil ?_
                  change wpQuiet _ _ _ _ (_ :: _ :: _ :: _ :: _ :: _ :: _ :: _ :: _ :: _ :: _ :: _ :: []) _
                  repeat (go_big_quiet_step ((fail)))
                  refine wpQuiet_nil ?_
                  clear y0 y1 y2 y3 y4 y5 y6 y7
                  generalize World.drew _ = wd at *
                  refine ⟨?_, ?_⟩
                  · as_aux_lemma =>
                    refine headW_all (rs := [12]) (by kernel_rfl) (by decide) (by decide) (List.forall_mem_cons.2 ⟨?_, List.forall_mem_nil _⟩)
                    refine wpOp_list (o := _) rfl ?_
                    intro Q' hQ'
                    go_wp2_with (go_at_call 35; refine (HMBA.out _ SD.out.bel).mono ?_; rintro e wm ⟨vm, rfl, Sm⟩)
                    have SM := SD.out.call Sm
                    simp only [List.cons_append, List.nil_append] at SM
                    have hkm := hKd _ _ SM
                    refine ⟨hkm, ?_⟩
                    refine headW_all (rs := [13]) (by kernel_rfl) (by decide) (by decide) (List.forall_mem_cons.2 ⟨?_, List.forall_mem_nil _⟩)
                    refine wpOp_list (o := _) rfl ?_
                    intro Q' hQ'
                    go_wp2_with fail
                    refine ⟨hkm, ?_⟩
                    refine headW_all (rs := [14, 15]) (by kernel_rfl) (by decide) (by decide) (List.forall_mem_cons.2 ⟨?_, List.forall_mem_cons.2 ⟨?_, List.forall_mem_nil _⟩⟩)
                    · as_aux_lemma =>
                      refine wpOp_list (o := _) rfl ?_
                      intro Q' hQ'
                      go_wp2_with fail
                      refine ⟨hkm, ?_⟩
                      refine headW_all (rs := [15, 16]) (by kernel_rfl) (by decide) (by decide) (List.forall_mem_cons.2 ⟨?_, List.forall_mem_cons.2 ⟨?_, List.forall_mem_nil _⟩⟩)
                      · refine wpOp_list (o := _) rfl ?_
                        intro Q' hQ'
                        go_wp2_with fail
                        refine ⟨hkm, ?_⟩
                        refine headW_all (rs := [16]) (by kernel_rfl) (by decide) (by decide) (List.forall_mem_cons.2 ⟨?_, List.forall_mem_nil _⟩)
                        refine wpOp_list (o := _) rfl ?_
                        intro Q' hQ'
                        go_wp2_with fail
                        refine ⟨hkm, ?_⟩
                        exact ⟨by kernel_rfl, vm, by kernel_rfl, SM⟩
                      · refine wpOp_list (o := _) rfl ?_
                        intro Q' hQ'
                        go_wp2_with fail
                        refine ⟨hkm, ?_⟩
                        refine headW_all (rs := [15]) (by kernel_rfl) (by decide) (by decide) (List.forall_mem_cons.2 ⟨?_, List.forall_mem_nil _⟩)
                        refine wpOp_list (o := _) rfl ?_
                        intro Q' hQ'
                        go_wp2_with fail
                        refine ⟨hkm, ?_⟩
                        exact ⟨by kernel_rfl, vm, by kernel_rfl, SM⟩
                    · as_aux_lemma =>
                      refine wpOp_list (o := _) rfl ?_
                      intro Q' hQ'
                      go_wp2_with fail
                      refine ⟨hkm, ?_⟩
                      refine headW_all (rs := [14]) (by kernel_rfl) (by decide) (by decide) (List.forall_mem_cons.2 ⟨?_, List.forall_mem_nil _⟩)
                      refine wpOp_list (o := _) rfl ?_
                      intro Q' hQ'
                      go_wp2_with fail
                      refine ⟨hkm, ?_⟩
                      refine headW_all (rs := [16]) (by kernel_rfl) (by decide) (by decide) (List.forall_mem_cons.2 ⟨?_, List.forall_mem_nil _⟩)
                      refine wpOp_list (o := _) rfl ?_
                      intro Q' hQ'
                      go_wp2_with fail
                      refine ⟨hkm, ?_⟩
                      exact ⟨by kernel_rfl, vm, by kernel_rfl, SM⟩
                  rintro a' SMBw ⟨SMBv, rfl, SMB⟩
                  clear hKd hne SD HSA
                  obtain ⟨An, cn, rfl, _, _, _⟩ := (SMB.row_rd (i := 5) rfl).open_
                  have HSB := Lib.hid SMB
                  go_wp2_with fail
                  refine NoPanic.normal ?_
                  have hln63 := (HSB.out.row_rd (i := 5) rfl).le
                  have e1 : (((ln : Nat) : Int) != (ln : Int)) = false := by simp
                  clear SMB
                  obtain ⟨U, hU⟩ : ∃ U, U = up a b2 := ⟨_, rfl⟩
                  rw [← hU] at hub
                  have HU := Lib.hid hU
                  have e2 : ((-U) != (-U)) = false := by simp
                  have e3 : IntKind.i64.wrap (-U) = -U := IntWalk.i64_in _ (by omega)
                  clear hU
                  have HFIN : Hid (∀ w', St W w' [FA, row 32 1 u11 (r + 1) (ms.map Prod.fst), rdAll ms, row 9 1 u13 lk.length (strsL f lk), row 95 3 (.slice Am ln cm) ln (MAB.flatMap StI.cells), row 95 3 (.slice An ln cn) ln (MBA.flatMap StI.cells)] → St W w' [FA, row 32 1 u11 (r + 1) (ms.map Prod.fst), rdAll ms, row 9 1 u13 lk.length (strsL f lk)]) := fun w' hw => hw.sub (List.sublist_append_left [_, _, _, _] [_, _])
                  by_cases hz0 : ln = 0
                  · have hU0 : U = 0 := by
                      rw [HU.out, HUPV.out]
                      have : MAB = [] := List.eq_nil_of_length_eq_zero (by rw [← HLN.out]; exact hz0)
                      rw [this]; rfl
                    have s0 : decide ((0 : Int) < (ln : Int)) = false := decide_eq_false (by omega)
                    have s0' : decide (0 < ln) = false := decide_eq_false (by omega)
                    clear HUPV HLU HLM HMAB HMBA
                    subst hU0
                    go_upto_region 26 with fail
                    by_cases h3 : b2 < a
                    · have s3 : decide ((b2 : Int) < (a : Int)) = true := decide_eq_true (by omega)
                      have s3' : decide (b2 < a) = true := decide_eq_true h3

                      have HLO : Hid (lk1 = lk ++ [a]) := by
                        show _ = _
                        rw [HLK.out]
                        have : loseF up a b2 = a := by
                          unfold loseF
                          rw [← HU.out]
                          first | (rw [if_pos (by omega)]) | (rw [if_neg (by omega)])
                        rw [this]
                      have cl1 := HCL.out a (by first | exact HHA.out | exact HHB.out) _ HSB.out.bel
                      have HS9 := Lib.hid ((HFIN.out _ HSB.out).alloc (.cells #[.string (f a)] 9))
                      generalize hfw : f a = fw at *
                      have HFW := Lib.hid hfw
                      clear hfw HSB
                      go_wp2_with (at_builtin; refine wpList_append_st eltStrD rfl _ _ rfl rfl HS9.out (k := 3) rfl rfl (rd_one (by simp)) (one_str5 _) (by omega) (by omega) ?_; intro v' w' S' _)
                      go_roundw
                      case rel =>
                        refine ⟨k + 1, by omega, by go_num, ?_⟩
                        have e : strsL f lk1 = strsL f lk ++ [.string fw] := by rw [HLO.out, strsL_snoc, ← HFW.out]; rfl
                        have e2 : lk1.length = lk.length + 1 := by rw [HLO.out, List.length_append]; rfl
                        rw [← HLK1.out, e, e2]
                        exact S'
                      case measure => simp [intOf]; omega
                    · have s3 : decide ((b2 : Int) < (a : Int)) = false := decide_eq_false (by omega)
                      have s3' : decide (b2 < a) = false := decide_eq_false h3

                      have HLO : Hid (lk1 = lk ++ [b2]) := by
                        show _ = _
                        rw [HLK.out]
                        have : loseF up a b2 = b2 := by
                          unfold loseF
                          rw [← HU.out]
                          first | (rw [if_pos (by omega)]) | (rw [if_neg (by omega)])
                        rw [this]
                      have cl1 := HCL.out b2 (by first | exact HHA.out | exact HHB.out) _ HSB.out.bel
                      have HS9 := Lib.hid ((HFIN.out _ HSB.out).alloc (.cells #[.string (f b2)] 9))
                      generalize hfw : f b2 = fw at *
                      have HFW := Lib.hid hfw
                      clear hfw HSB
                      go_wp2_with (at_builtin; refine wpList_append_st eltStrD rfl _ _ rfl rfl HS9.out (k := 3) rfl rfl (rd_one (by simp)) (one_str5 _) (by omega) (by omega) ?_; intro v' w' S' _)
                      go_roundw
                      case rel =>
                        refine ⟨k + 1, by omega, by go_num, ?_⟩
                        have e : strsL f lk1 = strsL f lk ++ [.string fw] := by rw [HLO.out, strsL_snoc, ← HFW.out]; rfl
                        have e2 : lk1.length = lk.length + 1 := by rw [HLO.out, List.length_append]; rfl
                        rw [← HLK1.out, e, e2]
                        exact S'
                      case measure => simp [intOf]; omega
                  · have hl0 : 0 < ln := by omega
                    have hrm := (HSB.out.row_rd (i := 4) rfl).now
                    have hrn := (HSB.out.row_rd (i := 5) rfl).now
                    obtain ⟨bm, om, ham, cm0⟩ : ∃ b o, Am = some ⟨b, o, none⟩ ∧ SMBw.cell? ⟨b, o + (ln - 1) * 3, none⟩ = some (.int .i64 U) := by
                      rw [HLN.out] at hrm
                      obtain ⟨b, o, e, hc⟩ := match_last hrm (by rw [← HLN.out]; exact hl0)
                      rw [← HLN.out, ← HUPV.out, ← HU.out] at hc
                      exact ⟨b, o, e, hc⟩
                    obtain ⟨bn, on, han, cn0⟩ : ∃ b o, An = some ⟨b, o, none⟩ ∧ SMBw.cell? ⟨b, o + (ln - 1) * 3, none⟩ = some (.int .i64 (-U)) := by
                      rw [← HLM.out] at hrn
                      obtain ⟨b, o, e, hc⟩ := match_last hrn (by rw [HLM.out]; exact hl0)
                      rw [HLM.out, HLU.out, ← HUPV.out, ← HU.out] at hc
                      exact ⟨b, o, e, hc⟩
                    subst ham
                    subst han
                    have s0 : decide ((0 : Int) < (ln : Int)) = true := decide_eq_true (by omega)
                    have s0' : decide (0 < ln) = true := decide_eq_true (by omega)
                    have r1 : decide ((ln : Int) - 1 < 0) = false := decide_eq_false (by omega)
                    have r2 : decide ((ln : Int) ≤ (ln : Int) - 1) = false := decide_eq_false (by omega)
                    have r3 : 0 ≤ (ln : Int) - 1 := by omega
                    have r4 : (ln : Int) - 1 < (ln : Int) := by omega
                    have r5 : ((ln : Int) - 1).toNat = ln - 1 := by omega
                    clear hrm hrn HUPV HLU HLM HMAB HMBA
                    go_upto_region 26 with fail
                    by_cases h1 : U < 0
                    · have s1 : decide (U < 0) = true := decide_eq_true h1

                      have HLO : Hid (lk1 = lk ++ [a]) := by
                        show _ = _
                        rw [HLK.out]
                        have : loseF up a b2 = a := by
                          unfold loseF
                          rw [← HU.out]
                          first | (rw [if_pos (by omega)]) | (rw [if_neg (by omega)])
                        rw [this]
                      have cl1 := HCL.out a (by first | exact HHA.out | exact HHB.out) _ HSB.out.bel
                      have HS9 := Lib.hid ((HFIN.out _ HSB.out).alloc (.cells #[.string (f a)] 9))
                      generalize hfw : f a = fw at *
                      have HFW := Lib.hid hfw
                      clear hfw HSB
                      go_wp2_with (at_builtin; refine wpList_append_st eltStrD rfl _ _ rfl rfl HS9.out (k := 3) rfl rfl (rd_one (by simp)) (one_str5 _) (by omega) (by omega) ?_; intro v' w' S' _)
                      go_roundw
                      case rel =>
                        refine ⟨k + 1, by omega, by go_num, ?_⟩
                        have e : strsL f lk1 = strsL f lk ++ [.string fw] := by rw [HLO.out, strsL_snoc, ← HFW.out]; rfl
                        have e2 : lk1.length = lk.length + 1 := by rw [HLO.out, List.length_append]; rfl
                        rw [← HLK1.out, e, e2]
                        exact S'
                      case measure => simp [intOf]; omega
                    have s1 : decide (U < 0) = false := decide_eq_false h1
                    by_cases h2 : U = 0
                    · have s2 : (U == 0) = true := by simp [h2]
                      by_cases h3 : b2 < a
                      · have s3 : decide ((b2 : Int) < (a : Int)) = true := decide_eq_true (by omega)
                        have s3' : decide (b2 < a) = true := decide_eq_true h3

                        have HLO : Hid (lk1 = lk ++ [a]) := by
                          show _ = _
                          rw [HLK.out]
                          have : loseF up a b2 = a := by
                            unfold loseF
                            rw [← HU.out]
                            first | (rw [if_pos (by omega)]) | (rw [if_neg (by omega)])
                          rw [this]
                        have cl1 := HCL.out a (by first | exact HHA.out | exact HHB.out) _ HSB.out.bel
                        have HS9 := Lib.hid ((HFIN.out _ HSB.out).alloc (.cells #[.string (f a)] 9))
                        generalize hfw : f a = fw at *
                        have HFW := Lib.hid hfw
                        clear hfw HSB
                        go_wp2_with (at_builtin; refine wpList_append_st eltStrD rfl _ _ rfl rfl HS9.out (k := 3) rfl rfl (rd_one (by simp)) (one_str5 _) (by omega) (by omega) ?_; intro v' w' S' _)
                        go_roundw
                        case rel =>
                          refine ⟨k + 1, by omega, by go_num, ?_⟩
                          have e : strsL f lk1 = strsL f lk ++ [.string fw] := by rw [HLO.out, strsL_snoc, ← HFW.out]; rfl
                          have e2 : lk1.length = lk.length + 1 := by rw [HLO.out, List.length_append]; rfl
                          rw [← HLK1.out, e, e2]
                          exact S'
                        case measure => simp [intOf]; omega
                      · have s3 : decide ((b2 : Int) < (a : Int)) = false := decide_eq_false (by omega)
                        have s3' : decide (b2 < a) = false := decide_eq_false h3

                        have HLO : Hid (lk1 = lk ++ [b2]) := by
                          show _ = _
                          rw [HLK.out]
                          have : loseF up a b2 = b2 := by
                            unfold loseF
                            rw [← HU.out]
                            first | (rw [if_pos (by omega)]) | (rw [if_neg (by omega)])
                          rw [this]
                        have cl1 := HCL.out b2 (by first | exact HHA.out | exact HHB.out) _ HSB.out.bel
                        have HS9 := Lib.hid ((HFIN.out _ HSB.out).alloc (.cells #[.string (f b2)] 9))
                        generalize hfw : f b2 = fw at *
                        have HFW := Lib.hid hfw
                        clear hfw HSB
                        go_wp2_with (at_builtin; refine wpList_append_st eltStrD rfl _ _ rfl rfl HS9.out (k := 3) rfl rfl (rd_one (by simp)) (one_str5 _) (by omega) (by omega) ?_; intro v' w' S' _)
                        go_roundw
                        case rel =>
                          refine ⟨k + 1, by omega, by go_num, ?_⟩
                          have e : strsL f lk1 = strsL f lk ++ [.string fw] := by rw [HLO.out, strsL_snoc, ← HFW.out]; rfl
                          have e2 : lk1.length = lk.length + 1 := by rw [HLO.out, List.length_append]; rfl
                          rw [← HLK1.out, e, e2]
                          exact S'
                        case measure => simp [intOf]; omega
                    have s2 : (U == 0) = false := by simp [h2]

                    have HLO : Hid (lk1 = lk ++ [b2]) := by
                      show _ = _
                      rw [HLK.out]
                      have : loseF up a b2 = b2 := by
                        unfold loseF
                        rw [← HU.out]
                        first | (rw [if_pos (by omega)]) | (rw [if_neg (by omega)])
                      rw [this]
                    have cl1 := HCL.out b2 (by first | exact HHA.out | exact HHB.out) _ HSB.out.bel
                    have HS9 := Lib.hid ((HFIN.out _ HSB.out).alloc (.cells #[.string (f b2)] 9))
                    generalize hfw : f b2 = fw at *
                    have HFW := Lib.hid hfw
                    clear hfw HSB
                    go_wp2_with (at_builtin; refine wpList_append_st eltStrD rfl _ _ rfl rfl HS9.out (k := 3) rfl rfl (rd_one (by simp)) (one_str5 _) (by omega) (by omega) ?_; intro v' w' S' _)
                    go_roundw
                    case rel =>
                      refine ⟨k + 1, by omega, by go_num, ?_⟩
                      have e : strsL f lk1 = strsL f lk ++ [.string fw] := by rw [HLO.out, strsL_snoc, ← HFW.out]; rfl
                      have e2 : lk1.length = lk.length + 1 := by rw [HLO.out, List.length_append]; rfl
                      rw [← HLK1.out, e, e2]
                      exact S'
                    case measure => simp [intOf]; omega
            · obtain rfl : k = q' := by omega
              have hk2 : ¬ (2 * k + 1 < q) := by omega
              have hkb : k ≤ 8 := by omega
              have p1 : decide (2 * (k : Int) + 1 < (q : Int)) = false := decide_eq_false (by omega)
              have hrd2 := S.rdAll_at (i := 2) rfl HMS.out
              rw [strsO_len, ← HQ.out] at hrd2
              have hrl := (S.row_rd (i := 3) rfl).now
              have HADV := Lib.hid (advance_ok wr q k (.slice Aq q cq) u13 f m SS (losers up z SS k) hrd2 hrl HG.out HQ.out HQQ.out HQC.out (pres_nodup HINJ.out)
                (fun p hp => by obtain ⟨i, hi, e⟩ := List.mem_iff_getElem.1 (mem_pres.1 hp); exact HPB.out i p (getD_some.2 (by rw [List.getElem?_eq_getElem hi, e])))
                (losers_nodup HINJ.out k) (fun p hp => losers_pres HGP.out hp) (fun i hi => (pair_stay HINJ.out hi).1))
              have e5 := HSTEP.out
              have HS9 := Lib.hid S
              obtain ⟨Av, cv, rfl, _, _, _⟩ := hrl.open_
              clear S hrd2 hrl hqq
              go_wp2_with fail
              go_at_call 21
              refine HADV.out.mono ?_
              rintro e w4 ⟨vn, rfl, S9⟩
              rw [e5] at S9
              have S10 := HS9.out.call S9
              simp only [List.cons_append, List.nil_append] at S10
              have S11 := S10.sub (L' := [_, _, _, _]) (.cons_cons _ (.cons_cons _ (.cons_cons _ (.cons _ (List.Sublist.refl _)))))
              obtain ⟨An2, cn2, rfl, _, _, _⟩ := (S11.row_rd (i := 3) rfl).open_
              have hk0 : ((k : Int) == 0) = false := by simp; omega
              have hk0' : (k == 0) = false := by simp; omega
              have hkl : k = (strsO f (rndL up go m (r + 1))).length := by
                rw [strsO_len, rndL_len, ← HN.out, HNL.out, pw5 (by omega)]
                have h2 := HQQ.out
                have h3 := HQ.out
                rw [← HSS.out, rndL_len, ← HN.out, HNL.out, pw5 hr] at h3
                have h4 : 2 ^ (R - r) = 2 ^ (R - (r + 1)) * 2 := by
                  rw [← Nat.pow_succ]
                  congr 1
                  omega
                omega
              have S12 := S11.freeze5 (L := [_, _]) hkl
              clear hkl
              simp only [List.cons_append, List.nil_append] at S12
              have HSF := Lib.hid S12
              have HSG := Lib.hid (S12.alloc (.cells #[.slice An2 k cn2] 32))
              clear S9 S10 S11 S12 HS9 HADV e5
              go_wp2_with (at_builtin; refine wpList_append_st eltTS rfl _ _ rfl rfl HSG.out (k := 1) rfl rfl (rd_one (by simp)) (one_sl5 _ _ _) (by omega) (by omega) ?_; intro v' w' S' _)
              go_roundw
              case rel =>
                refine ⟨r + 1, ms ++ [(.slice An2 k cn2, strsO f (rndL up go m (r + 1)))], by omega, by go_num, ?_, ⟨strsO f (rndL up go m (r + 1)), ?_⟩, ?_⟩
                · show _ = _
                  rw [List.map_append, hms.out, TS_snoc f up go m (r + 1)]; rfl
                · have hml : ms.length = r + 1 := by
                    have := congrArg List.length hms.out
                    rw [List.length_map] at this
                    rw [this]; unfold TS; simp
                  rw [List.getElem?_append_right (by omega), hml, Nat.sub_self]; rfl
                · rw [List.map_append]
                  exact S'
              case measure => simp [intOf]; omega
      · as_aux_lemma =>
        have tr : ((r : Int) + 1 == 1) = false := by rw [Bool.eq_false_iff]; intro e; have e := eq_of_beq e; omega
        obtain ⟨z, hz⟩ : ∃ z : Option Nat, z = none := ⟨_, rfl⟩
        have HZ := Lib.hid hz
        have hst := HSTEP.out
        rw [show (if r = 0 then go else none) = z by rw [if_neg h0, hz]] at hst
        have HSTEP := Lib.hid hst
        have HGP : Hid (∀ g, z = some g → g ∈ pres SS) := fun g hg => by rw [hz] at hg; cases hg
        have HOL : Hid (losers up z SS 0 = []) := by show _ = _; rw [losers_nil, hz]; rfl
        have S7 := HS.out.row_nil 9 1
        simp only [List.cons_append, List.nil_append] at S7
        have HS8 : Hid (St W wr [FA, row 32 1 u11 (r + 1) (ms.map Prod.fst), rdAll ms, row 9 1 (.slice none 0 0) (losers up z SS 0).length (strsL f (losers up z SS 0))]) := by
          show St _ _ _
          rw [HOL.out]
          exact S7
        generalize wr = wo at *
        clear hz hst S7 h0
        go_wp2_with fail
        go_loopw [14, 13] (fun i lv w' => ∃ k : Nat, k ≤ q' ∧ i = .int .i64 (2 * (k : Int)) ∧ St W w' [FA, row 32 1 u11 (r + 1) (ms.map Prod.fst), rdAll ms, row 9 1 lv (losers up z SS k).length (strsL f (losers up z SS k))]) (fun i _ _ => q' - (intOf i).toNat / 2)
        case atStart => exact ⟨0, Nat.zero_le _, rfl, HS8.out⟩
        case round =>
          obtain ⟨k, hk, rfl, S⟩ := hrel
          clear HS8
          have hqq := HQQ.out
          by_cases hltk : k < q'
          · have hk2 : 2 * k < q := by omega
            have hk3 : 2 * k + 1 < q := by omega
            have hrd2 := S.rdAll_at (i := 2) rfl HMS.out
            rw [strsO_len, ← HQ.out] at hrd2
            obtain ⟨b, o, ux0, hA, hb0, hu0, d0⟩ := hrd2.at_ hk2
            obtain ⟨b', o', ux1, hA', _, hu1, d1⟩ := hrd2.at_ hk3
            subst hA
            cases hA'
            rw [strsO_at (by rw [← HQ.out]; exact hk2)] at hu0
            rw [strsO_at (by rw [← HQ.out]; exact hk3)] at hu1
            cases hu0
            cases hu1
            have hx := HPB.out (2 * k)
            have hy := HPB.out (2 * k + 1)
            have hxy : ∀ p, SS.getD (2 * k) none = some p → SS.getD (2 * k + 1) none = some p → False := fun p h1 h2 => by
              have := HINJ.out _ _ p (getD_some.1 h1) (getD_some.1 h2); omega
            have HLS := Lib.hid (losers_snoc up z SS k)
            have hlk0 : (losers up z SS k).length ≤ 40 := by have := losers_len up z SS k; omega
            generalize losers up z SS k = lk at *
            obtain ⟨lk1, hlk1⟩ : ∃ l, l = losers up z SS (k + 1) := ⟨_, rfl⟩
            rw [← hlk1] at HLS
            have HLK1 := Lib.hid hlk1
            clear hlk1
            generalize SS.getD (2 * k) none = x at *
            generalize SS.getD (2 * k + 1) none = y at *
            have HSX := Lib.hid hx
            have HSY := Lib.hid hy
            have HXY := Lib.hid hxy
            obtain ⟨sa, hsa⟩ : ∃ sa, sa = nmO f x := ⟨_, rfl⟩
            obtain ⟨sb, hsb⟩ : ∃ sb, sb = nmO f y := ⟨_, rfl⟩
            obtain ⟨ia, hia⟩ : ∃ ia, ia = seedO x := ⟨_, rfl⟩
            obtain ⟨ib, hib⟩ : ∃ ib, ib = seedO y := ⟨_, rfl⟩
            have HCA : Hid (∀ w, Below W.heap.size W w → Calls Tryz.prog 11 #[.slice (some ⟨bl, ol, none⟩) m cl, .string sa] w fun e w' => e = .returned (.int .i64 ia) ∧ w = w') := fun w hw => by rw [hsa, hia]; exact HSD.out w hw x hx
            have HCB2 : Hid (∀ w, Below W.heap.size W w → Calls Tryz.prog 11 #[.slice (some ⟨bl, ol, none⟩) m cl, .string sb] w fun e w' => e = .returned (.int .i64 ib) ∧ w = w') := fun w hw => by rw [hsb, hib]; exact HSD.out w hw y hy
            rw [← hsa] at d0
            rw [← hsb] at d1
            have HIA := Lib.hid hia
            have HIB := Lib.hid hib
            have HS1 := Lib.hid S
            clear S hrd2 hx hy hxy hsa hsb hia hib hqq
            have p1 : decide (2 * (k : Int) + 1 < (q : Int)) = true := decide_eq_true (by omega)
            have p2 : decide (2 * (k : Int) < 0) = false := decide_eq_false (by omega)
            have p3 : decide ((q : Int) ≤ 2 * (k : Int)) = false := decide_eq_false (by omega)
            have p4 : decide (2 * (k : Int) + 1 < 0) = false := decide_eq_false (by omega)
            have p5 : decide ((q : Int) ≤ 2 * (k : Int) + 1) = false := decide_eq_false (by omega)
            have q1 : 0 ≤ 2 * (k : Int) := by omega
            have q2 : 2 * (k : Int) < (q : Int) := by omega
            have q3 : 0 ≤ 2 * (k : Int) + 1 := by omega
            have q4 : 2 * (k : Int) + 1 < (q : Int) := by omega
            have n1 : (2 * (k : Int)).toNat = 2 * k := by omega
            have n2 : (2 * (k : Int) + 1).toNat = 2 * k + 1 := by omega
            go_wp2_with fail
            refine wp_cls 13 (fun w' => ∃ j, w' = wr.drewN j) (by kernel_rfl) (by kernel_rfl) ⟨1, rfl⟩ ?_
            simp only [List.take_succ_cons, List.take_zero, List.drop_succ_cons, List.drop_zero]
            generalize hK : (fun w' => ∃ j, w' = wr.drewN j) = K
            intro hne
            have kw : ∀ y : Wd K, ∃ j, y.w = wr.drewN j := by subst hK; exact fun y => y.h
            have k0 : ∀ y : Wd K, y.w.cell? ⟨b, o + 2 * k, none⟩ = some (.string sa) := fun y => by obtain ⟨j, e⟩ := kw y; rw [e]; exact d0
            have k1 : ∀ y : Wd K, y.w.cell? ⟨b, o + (2 * k + 1), none⟩ = some (.string sb) := fun y => by obtain ⟨j, e⟩ := kw y; rw [e]; exact d1
            have kb : ∀ y : Wd K, Below W.heap.size W y.w := fun y => by obtain ⟨j, e⟩ := kw y; rw [e]; exact (HS1.out.drewN j).bel
            clear hK
            iterate 5 (go_big_quiet_step ((fail)))
            go_big_quiet_step ((go_at_call 11; exact cls_same (HCA.out _ (kb _))))
            iterate 6 (go_big_quiet_step ((fail)))
            go_big_quiet_step ((go_at_call 11; exact cls_same (HCB2.out _ (kb _))))
            refine wpQuiet_nil ?_
            intro yw
            obtain ⟨j, hj⟩ := kw yw
            have HS2 : Hid (St W yw.w [FA, row 32 1 u11 (r + 1) (ms.map Prod.fst), rdAll ms, row 9 1 u13 lk.length (strsL f lk)]) := by rw [hj]; exact HS1.out.drewN j
            clear k0 k1 kb kw hj hne HS1 HCA HCB2
            generalize yw.w = w3 at *
            clear yw d0 d1
            cases x with
            | none =>
              have hia : ia = -1 := HIA.out
              subst hia
              have HS3 : Hid (St W w3 [FA, row 32 1 u11 (r + 1) (ms.map Prod.fst), rdAll ms, row 9 1 u13 lk1.length (strsL f lk1)]) := by
                have e : lk1 = lk := by rw [HLS.out]; simp [lossP]
                rw [e]; exact HS2.out
              clear HIA HS2
              go_wp2_with fail
              go_roundw
              case rel => exact ⟨k + 1, by omega, by go_num, by rw [← HLK1.out]; exact HS3.out⟩
              case measure => simp [intOf]; omega
            | some a =>
              have hia : ia = (a : Int) := HIA.out
              subst hia
              have ha : a < m := HSX.out a rfl
              have ta : decide ((a : Int) < 0) = false := decide_eq_false (by omega)
              cases y with
              | none =>
                have hib : ib = -1 := HIB.out
                subst hib
                have HS3 : Hid (St W w3 [FA, row 32 1 u11 (r + 1) (ms.map Prod.fst), rdAll ms, row 9 1 u13 lk1.length (strsL f lk1)]) := by
                  have e : lk1 = lk := by rw [HLS.out]; simp [lossP]
                  rw [e]; exact HS2.out
                clear HIB HIA HS2
                go_wp2_with fail
                go_roundw
                case rel => exact ⟨k + 1, by omega, by go_num, by rw [← HLK1.out]; exact HS3.out⟩
                case measure => simp [intOf]; omega
              | some b2 =>
                have hib : ib = (b2 : Int) := HIB.out
                subst hib
                have hb : b2 < m := HSY.out b2 rfl
                have tb : decide ((b2 : Int) < 0) = false := decide_eq_false (by omega)
                have hab : a ≠ b2 := fun e => HXY.out a rfl (by rw [e])
                clear HIA HIB
                have hzn : ¬ (z = some a ∨ z = some b2) := by rw [HZ.out]; simp
                have HLK : Hid (lk1 = lk ++ [loseF up a b2]) := by show _ = _; rw [HLS.out, lossP, if_neg hzn]
                have hma := HMA.out a b2 ha hb hab
                have hmb := HMA.out b2 a hb ha (Ne.symm hab)
                have hca := HCP.out a ha
                have hcb := HCP.out b2 hb
                have hup := HUP.out a b2
                have hub := HUB.out a b2
                have hmir := HMIR.out a b2
                rw [hmir] at hmb
                generalize MT a b2 = MAB at *
                have hlm : (MAB.map mirS).length = MAB.length := List.length_map ..
                have hlu := lastUp_mir MAB
                rw [hlm] at hmb
                generalize MAB.map mirS = MBA at *
                generalize pAt ps a = pa at hma hmb hca hcb
                generalize pAt ps b2 = pb at hma hmb hca hcb
                obtain ⟨na, aa, mma, cca, esa, xa⟩ := pa
                obtain ⟨nb, ab, mmb, ccb, esb, xb⟩ := pb
                simp only [plV] at hma hmb hca hcb
                obtain ⟨ln, hln⟩ : ∃ ln, ln = MAB.length := ⟨_, rfl⟩
                rw [← hln] at hma hmb hlm
                have HMAB := Lib.hid hma
                have HMBA := Lib.hid hmb
                have HCA := Lib.hid hca
                have HCB := Lib.hid hcb
                have HLN := Lib.hid hln
                have HLM := Lib.hid hlm
                have HUPV := Lib.hid hup
                have HLU := Lib.hid hlu
                have HHA := Lib.hid ha
                have HHB := Lib.hid hb
                have HAB := Lib.hid hab
                have ja : decide ((m : Int) ≤ (a : Int)) = false := decide_eq_false (by omega)
                have jb : decide ((m : Int) ≤ (b2 : Int)) = false := decide_eq_false (by omega)
                have ja' : decide (m ≤ a) = false := decide_eq_false (by omega)
                have jb' : decide (m ≤ b2) = false := decide_eq_false (by omega)
                clear hma hmb hca hcb hzn hln hlm hup hlu hmir HLS
                go_wp2_with fail
                refine wp_head_tail3 0 17 5 [] [0, 1, 2, 3, 4, 5, 6, 7, 8, 9, 10, 11] rfl (fun w' => ∃ L, St W w' (FA :: L))
                  (fun a a' w' => ∃ (v : Value), a' = (((((a.put (some 112) (.tuple #[v, .int .i64 0])).put (some 99) (.tuple #[v, .int .i64 0])).put (some 113) v).put (some 114) (.int .i64 0)).put (some 17) v) ∧ St W w' [FA, row 32 1 u11 (r + 1) (ms.map Prod.fst), rdAll ms, row 9 1 u13 lk.length (strsL f lk), row 95 3 v ln (MAB.flatMap StI.cells)]) (by kernel_rfl) (by kernel_rfl) ⟨_, HS2.out.drew⟩ ?_
                simp only [pick, List.filterMap_cons, List.filterMap_nil, List.getElem?_toArray, List.getElem?_cons_succ, List.getElem?_cons_zero]
                generalize hK : (fun w' : World => ∃ L, St W w' (FA :: L)) = K
                have kK : ∀ y : Wd K, ∃ L, St W y.w (FA :: L) := by subst hK; exact fun y => y.h
                have hKd : ∀ (w' : World) (L : List Asr), St W w' (FA :: L) → K w' := by
                  intro w' L h
                  subst hK
                  exact ⟨L, h⟩
                have SD := Lib.hid HS2.out.drew
                have hne : Nonempty (Wd K) := ⟨⟨_, hKd _ _ SD.out⟩⟩
                have y0 : ∀ y : Wd K, y.w.cell? ⟨gc, 0, none⟩ = some (.slice A nn c) := fun y => (HFC.out _ _ (kK y).choose_spec).1
                have y1 : ∀ y : Wd K, y.w.cell? ⟨gc, 1, none⟩ = some (.slice (some ⟨bp, op, none⟩) m cp) := fun y => (HFC.out _ _ (kK y).choose_spec).2
                have y2 : ∀ y : Wd K, y.w.cell? ⟨bp, op + a * 3, none⟩ = some (.string na) := fun y => (HCA.out _ (kK y).choose_spec.bel).1
                have y3 : ∀ y : Wd K, y.w.cell? ⟨bp, op + a * 3 + 1, none⟩ = some (.slice aa mma cca) := fun y => (HCA.out _ (kK y).choose_spec.bel).2.1
                have y4 : ∀ y : Wd K, y.w.cell? ⟨bp, op + a * 3 + 2, none⟩ = some (.int .i64 xa) := fun y => (HCA.out _ (kK y).choose_spec.bel).2.2
                have y5 : ∀ y : Wd K, y.w.cell? ⟨bp, op + b2 * 3, none⟩ = some (.string nb) := fun y => (HCB.out _ (kK y).choose_spec.bel).1
                have y6 : ∀ y : Wd K, y.w.cell? ⟨bp, op + b2 * 3 + 1, none⟩ = some (.slice ab mmb ccb) := fun y => (HCB.out _ (kK y).choose_spec.bel).2.1
                have y7 : ∀ y : Wd K, y.w.cell? ⟨bp, op + b2 * 3 + 2, none⟩ = some (.int .i64 xb) := fun y => (HCB.out _ (kK y).choose_spec.bel).2.2
                clear hK kK
                refine wpQuiet_nil ?_
                change wpQuiet _ _ _ _ (_ :: _ :: _ :: _ :: _ :: _ :: _ :: _ :: _ :: _ :: _ :: _ :: []) _
                repeat (go_big_quiet_step ((fail)))
                refine wpQuiet_nil ?_
                clear y0 y1 y2 y3 y4 y5 y6 y7
                generalize World.drew _ = wd at *
                refine ⟨?_, ?_⟩
                · as_aux_lemma =>
                  refine headW_all (rs := [12]) (by kernel_rfl) (by decide) (by decide) (List.forall_mem_cons.2 ⟨?_, List.forall_mem_nil _⟩)
                  refine wpOp_list (o := _) rfl ?_
                  intro Q' hQ'
                  go_wp2_with (go_at_call 35; refine (HMAB.out _ SD.out.bel).mono ?_; rintro e wm ⟨vm, rfl, Sm⟩)
                  have SM := SD.out.call Sm
                  simp only [List.cons_append, List.nil_append] at SM
                  have hkm := hKd _ _ SM
                  refine ⟨hkm, ?_⟩
                  refine headW_all (rs := [13]) (by kernel_rfl) (by decide) (by decide) (List.forall_mem_cons.2 ⟨?_, List.forall_mem_nil _⟩)
                  refine wpOp_list (o := _) rfl ?_
                  intro Q' hQ'
                  go_wp2_with fail
                  refine ⟨hkm, ?_⟩
                  refine headW_all (rs := [14, 15]) (by kernel_rfl) (by decide) (by decide) (List.forall_mem_cons.2 ⟨?_, List.forall_mem_cons.2 ⟨?_, List.forall_mem_nil _⟩⟩)
                  · as_aux_lemma =>
                    refine wpOp_list (o := _) rfl ?_
                    intro Q' hQ'
                    go_wp2_with fail
                    refine ⟨hkm, ?_⟩
                    refine headW_all (rs := [15, 16]) (by kernel_rfl) (by decide) (by decide) (List.forall_mem_cons.2 ⟨?_, List.forall_mem_cons.2 ⟨?_, List.forall_mem_nil _⟩⟩)
                    · refine wpOp_list (o := _) rfl ?_
                      intro Q' hQ'
                      go_wp2_with fail
                      refine ⟨hkm, ?_⟩
                      refine headW_all (rs := [16]) (by kernel_rfl) (by decide) (by decide) (List.forall_mem_cons.2 ⟨?_, List.forall_mem_nil _⟩)
                      refine wpOp_list (o := _) rfl ?_
                      intro Q' hQ'
                      go_wp2_with fail
                      refine ⟨hkm, ?_⟩
                      exact ⟨by kernel_rfl, vm, by kernel_rfl, SM⟩
                    · refine wpOp_list (o := _) rfl ?_
                      intro Q' hQ'
                      go_wp2_with fail
                      refine ⟨hkm, ?_⟩
                      refine headW_all (rs := [15]) (by kernel_rfl) (by decide) (by decide) (List.forall_mem_cons.2 ⟨?_, List.forall_mem_nil _⟩)
                      refine wpOp_list (o := _) rfl ?_
                      intro Q' hQ'
                      go_wp2_with fail
                      refine ⟨hkm, ?_⟩
                      exact ⟨by kernel_rfl, vm, by kernel_rfl, SM⟩
                  · as_aux_lemma =>
                    refine wpOp_list (o := _) rfl ?_
                    intro Q' hQ'
                    go_wp2_with fail
                    refine ⟨hkm, ?_⟩
                    refine headW_all (rs := [14]) (by kernel_rfl) (by decide) (by decide) (List.forall_mem_cons.2 ⟨?_, List.forall_mem_nil _⟩)
                    refine wpOp_list (o := _) rfl ?_
                    intro Q' hQ'
                    go_wp2_with fail
                    refine ⟨hkm, ?_⟩
                    refine headW_all (rs := [16]) (by kernel_rfl) (by decide) (by decide) (List.forall_mem_cons.2 ⟨?_, List.forall_mem_nil _⟩)
                    refine wpOp_list (o := _) rfl ?_
                    intro Q' hQ'
                    go_wp2_with fail
                    refine ⟨hkm, ?_⟩
                    exact ⟨by kernel_rfl, vm, by kernel_rfl, SM⟩
                rintro a' SMAw ⟨SMAv, rfl, SMA⟩
                clear hKd hne SD HS2
                obtain ⟨Am, cm, rfl, _, _, _⟩ := (SMA.row_rd (i := 4) rfl).open_
                have HSA := Lib.hid SMA
                clear SMA
                go_wp2_with fail
                refine NoPanic.normal ?_
                go_wp2_with fail
                refine wp_head_tail3 0 17 5 [] [0, 1, 2, 3, 4, 5, 6, 7, 8, 9, 10, 11] rfl (fun w' => ∃ L, St W w' (FA :: L))
                  (fun a a' w' => ∃ (v : Value), a' = (((((a.put (some 128) (.tuple #[v, .int .i64 0])).put (some 115) (.tuple #[v, .int .i64 0])).put (some 129) v).put (some 130) (.int .i64 0)).put (some 19) v) ∧ St W w' [FA, row 32 1 u11 (r + 1) (ms.map Prod.fst), rdAll ms, row 9 1 u13 lk.length (strsL f lk), row 95 3 (.slice Am ln cm) ln (MAB.flatMap StI.cells), row 95 3 v ln (MBA.flatMap StI.cells)]) (by kernel_rfl) (by kernel_rfl) ⟨_, HSA.out.drew⟩ ?_
                simp only [pick, List.filterMap_cons, List.filterMap_nil, List.getElem?_toArray, List.getElem?_cons_succ, List.getElem?_cons_zero]
                generalize hK : (fun w' : World => ∃ L, St W w' (FA :: L)) = K
                have kK : ∀ y : Wd K, ∃ L, St W y.w (FA :: L) := by subst hK; exact fun y => y.h
                have hKd : ∀ (w' : World) (L : List Asr), St W w' (FA :: L) → K w' := by
                  intro w' L h
                  subst hK
                  exact ⟨L, h⟩
                have SD := Lib.hid HSA.out.drew
                have hne : Nonempty (Wd K) := ⟨⟨_, hKd _ _ SD.out⟩⟩
                have y0 : ∀ y : Wd K, y.w.cell? ⟨gc, 0, none⟩ = some (.slice A nn c) := fun y => (HFC.out _ _ (kK y).choose_spec).1
                have y1 : ∀ y : Wd K, y.w.cell? ⟨gc, 1, none⟩ = some (.slice (some ⟨bp, op, none⟩) m cp) := fun y => (HFC.out _ _ (kK y).choose_spec).2
                have y2 : ∀ y : Wd K, y.w.cell? ⟨bp, op + b2 * 3, none⟩ = some (.string nb) := fun y => (HCB.out _ (kK y).choose_spec.bel).1
                have y3 : ∀ y : Wd K, y.w.cell? ⟨bp, op + b2 * 3 + 1, none⟩ = some (.slice ab mmb ccb) := fun y => (HCB.out _ (kK y).choose_spec.bel).2.1
                have y4 : ∀ y : Wd K, y.w.cell? ⟨bp, op + b2 * 3 + 2, none⟩ = some (.int .i64 xb) := fun y => (HCB.out _ (kK y).choose_spec.bel).2.2
                have y5 : ∀ y : Wd K, y.w.cell? ⟨bp, op + a * 3, none⟩ = some (.string na) := fun y => (HCA.out _ (kK y).choose_spec.bel).1
                have y6 : ∀ y : Wd K, y.w.cell? ⟨bp, op + a * 3 + 1, none⟩ = some (.slice aa mma cca) := fun y => (HCA.out _ (kK y).choose_spec.bel).2.1
                have y7 : ∀ y : Wd K, y.w.cell? ⟨bp, op + a * 3 + 2, none⟩ = some (.int .i64 xa) := fun y => (HCA.out _ (kK y).choose_spec.bel).2.2
                clear hK kK
                refine wpQuiet_nil ?_
                change wpQuiet _ _ _ _ (_ :: _ :: _ :: _ :: _ :: _ :: _ :: _ :: _ :: _ :: _ :: _ :: []) _
                repeat (go_big_quiet_step ((fail)))
                refine wpQuiet_nil ?_
                clear y0 y1 y2 y3 y4 y5 y6 y7
                generalize World.drew _ = wd at *
                refine ⟨?_, ?_⟩
                · as_aux_lemma =>
                  refine headW_all (rs := [12]) (by kernel_rfl) (by decide) (by decide) (List.forall_mem_cons.2 ⟨?_, List.forall_mem_nil _⟩)
                  refine wpOp_list (o := _) rfl ?_
                  intro Q' hQ'
                  go_wp2_with (go_at_call 35; refine (HMBA.out _ SD.out.bel).mono ?_; rintro e wm ⟨vm, rfl, Sm⟩)
                  have SM := SD.out.call Sm
                  simp only [List.cons_append, List.nil_append] at SM
                  have hkm := hKd _ _ SM
                  refine ⟨hkm, ?_⟩
                  refine headW_all (rs := [13]) (by kernel_rfl) (by decide) (by decide) (List.forall_mem_cons.2 ⟨?_, List.forall_mem_nil _⟩)
                  refine wpOp_list (o := _) rfl ?_
                  intro Q' hQ'
                  go_wp2_with fail
                  refine ⟨hkm, ?_⟩
                  refine headW_all (rs := [14, 15]) (by kernel_rfl) (by decide) (by decide) (List.forall_mem_cons.2 ⟨?_, List.forall_mem_cons.2 ⟨?_, List.forall_mem_nil _⟩⟩)
                  · as_aux_lemma =>
                    refine wpOp_list (o := _) rfl ?_
                    intro Q' hQ'
                    go_wp2_with fail
                    refine ⟨hkm, ?_⟩
                    refine headW_all (rs := [15, 16]) (by kernel_rfl) (by decide) (by decide) (List.forall_mem_cons.2 ⟨?_, List.forall_mem_cons.2 ⟨?_, List.forall_mem_nil _⟩⟩)
                    · refine wpOp_list (o := _) rfl ?_
                      intro Q' hQ'
                      go_wp2_with fail
                      refine ⟨hkm, ?_⟩
                      refine headW_all (rs := [16]) (by kernel_rfl) (by decide) (by decide) (List.forall_mem_cons.2 ⟨?_, List.forall_mem_nil _⟩)
                      refine wpOp_list (o := _) rfl ?_
                      intro Q' hQ'
                      go_wp2_with fail
                      refine ⟨hkm, ?_⟩
                      exact ⟨by kernel_rfl, vm, by kernel_rfl, SM⟩
                    · refine wpOp_list (o := _) rfl ?_
                      intro Q' hQ'
                      go_wp2_with fail
                      refine ⟨hkm, ?_⟩
                      refine headW_all (rs := [15]) (by kernel_rfl) (by decide) (by decide) (List.forall_mem_cons.2 ⟨?_, List.forall_mem_nil _⟩)
                      refine wpOp_list (o := _) rfl ?_
                      intro Q' hQ'
                      go_wp2_with fail
                      refine ⟨hkm, ?_⟩
                      exact ⟨by kernel_rfl, vm, by kernel_rfl, SM⟩
                  · as_aux_lemma =>
                    refine wpOp_list (o := _) rfl ?_
                    intro Q' hQ'
                    go_wp2_with fail
                    refine ⟨hkm, ?_⟩
                    refine headW_all (rs := [14]) (by kernel_rfl) (by decide) (by decide) (List.forall_mem_cons.2 ⟨?_, List.forall_mem_nil _⟩)
                    refine wpOp_list (o := _) rfl ?_
                    intro Q' hQ'
                    go_wp2_with fail
                    refine ⟨hkm, ?_⟩
                    refine headW_all (rs := [16]) (by kernel_rfl) (by decide) (by decide) (List.forall_mem_cons.2 ⟨?_, List.forall_mem_nil _⟩)
                    refine wpOp_list (o := _) rfl ?_
                    intro Q' hQ'
                    go_wp2_with fail
                    refine ⟨hkm, ?_⟩
                    exact ⟨by kernel_rfl, vm, by kernel_rfl, SM⟩
                rintro a' SMBw ⟨SMBv, rfl, SMB⟩
                clear hKd hne SD HSA
                obtain ⟨An, cn, rfl, _, _, _⟩ := (SMB.row_rd (i := 5) rfl).open_
                have HSB := Lib.hid SMB
                go_wp2_with fail
                refine NoPanic.normal ?_
                have hln63 := (HSB.out.row_rd (i := 5) rfl).le
                have e1 : (((ln : Nat) : Int) != (ln : Int)) = false := by simp
                clear SMB
                obtain ⟨U, hU⟩ : ∃ U, U = up a b2 := ⟨_, rfl⟩
                rw [← hU] at hub
                have HU := Lib.hid hU
                have e2 : ((-U) != (-U)) = false := by simp
                have e3 : IntKind.i64.wrap (-U) = -U := IntWalk.i64_in _ (by omega)
                clear hU
                have HFIN : Hid (∀ w', St W w' [FA, row 32 1 u11 (r + 1) (ms.map Prod.fst), rdAll ms, row 9 1 u13 lk.length (strsL f lk), row 95 3 (.slice Am ln cm) ln (MAB.flatMap StI.cells), row 95 3 (.slice An ln cn) ln (MBA.flatMap StI.cells)] → St W w' [FA, row 32 1 u11 (r + 1) (ms.map Prod.fst), rdAll ms, row 9 1 u13 lk.length (strsL f lk)]) := fun w' hw => hw.sub (List.sublist_append_left [_, _, _, _] [_, _])
                by_cases hz0 : ln = 0
                · have hU0 : U = 0 := by
                    rw [HU.out, HUPV.out]
                    have : MAB = [] := List.eq_nil_of_length_eq_zero (by rw [← HLN.out]; exact hz0)
                    rw [this]; rfl
                  have s0 : decide ((0 : Int) < (ln : Int)) = false := decide_eq_false (by omega)
                  have s0' : decide (0 < ln) = false := decide_eq_false (by omega)
                  clear HUPV HLU HLM HMAB HMBA
                  subst hU0
                  go_upto_region 26 with fail
                  by_cases h3 : b2 < a
                  · have s3 : decide ((b2 : Int) < (a : Int)) = true := decide_eq_true (by omega)
                    have s3' : decide (b2 < a) = true := decide_eq_true h3

                    have HLO : Hid (lk1 = lk ++ [a]) := by
                      show _ = _
                      rw [HLK.out]
                      have : loseF up a b2 = a := by
                        unfold loseF
                        rw [← HU.out]
                        first | (rw [if_pos (by omega)]) | (rw [if_neg (by omega)])
                      rw [this]
                    have cl1 := HCL.out a (by first | exact HHA.out | exact HHB.out) _ HSB.out.bel
                    have HS9 := Lib.hid ((HFIN.out _ HSB.out).alloc (.cells #[.string (f a)] 9))
                    generalize hfw : f a = fw at *
                    have HFW := Lib.hid hfw
                    clear hfw HSB
                    go_wp2_with (at_builtin; refine wpList_append_st eltStrD rfl _ _ rfl rfl HS9.out (k := 3) rfl rfl (rd_one (by simp)) (one_str5 _) (by omega) (by omega) ?_; intro v' w' S' _)
                    go_roundw
                    case rel =>
                      refine ⟨k + 1, by omega, by go_num, ?_⟩
                      have e : strsL f lk1 = strsL f lk ++ [.string fw] := by rw [HLO.out, strsL_snoc, ← HFW.out]; rfl
                      have e2 : lk1.length = lk.length + 1 := by rw [HLO.out, List.length_append]; rfl
                      rw [← HLK1.out, e, e2]
                      exact S'
                    case measure => simp [intOf]; omega
                  · have s3 : decide ((b2 : Int) < (a : Int)) = false := decide_eq_false (by omega)
                    have s3' : decide (b2 < a) = false := decide_eq_false h3

                    have HLO : Hid (lk1 = lk ++ [b2]) := by
                      show _ = _
                      rw [HLK.out]
                      have : loseF up a b2 = b2 := by
                        unfold loseF
                        rw [← HU.out]
                        first | (rw [if_pos (by omega)]) | (rw [if_neg (by omega)])
                      rw [this]
                    have cl1 := HCL.out b2 (by first | exact HHA.out | exact HHB.out) _ HSB.out.bel
                    have HS9 := Lib.hid ((HFIN.out _ HSB.out).alloc (.cells #[.string (f b2)] 9))
                    generalize hfw : f b2 = fw at *
                    have HFW := Lib.hid hfw
                    clear hfw HSB
                    go_wp2_with (at_builtin; refine wpList_append_st eltStrD rfl _ _ rfl rfl HS9.out (k := 3) rfl rfl (rd_one (by simp)) (one_str5 _) (by omega) (by omega) ?_; intro v' w' S' _)
                    go_roundw
                    case rel =>
                      refine ⟨k + 1, by omega, by go_num, ?_⟩
                      have e : strsL f lk1 = strsL f lk ++ [.string fw] := by rw [HLO.out, strsL_snoc, ← HFW.out]; rfl
                      have e2 : lk1.length = lk.length + 1 := by rw [HLO.out, List.length_append]; rfl
                      rw [← HLK1.out, e, e2]
                      exact S'
                    case measure => simp [intOf]; omega
                · have hl0 : 0 < ln := by omega
                  have hrm := (HSB.out.row_rd (i := 4) rfl).now
                  have hrn := (HSB.out.row_rd (i := 5) rfl).now
                  obtain ⟨bm, om, ham, cm0⟩ : ∃ b o, Am = some ⟨b, o, none⟩ ∧ SMBw.cell? ⟨b, o + (ln - 1) * 3, none⟩ = some (.int .i64 U) := by
                    rw [HLN.out] at hrm
                    obtain ⟨b, o, e, hc⟩ := match_last hrm (by rw [← HLN.out]; exact hl0)
                    rw [← HLN.out, ← HUPV.out, ← HU.out] at hc
                    exact ⟨b, o, e, hc⟩
                  obtain ⟨bn, on, han, cn0⟩ : ∃ b o, An = some ⟨b, o, none⟩ ∧ SMBw.cell? ⟨b, o + (ln - 1) * 3, none⟩ = some (.int .i64 (-U)) := by
                    rw [← HLM.out] at hrn
                    obtain ⟨b, o, e, hc⟩ := match_last hrn (by rw [HLM.out]; exact hl0)
                    rw [HLM.out, HLU.out, ← HUPV.out, ← HU.out] at hc
                    exact ⟨b, o, e, hc⟩
                  subst ham
                  subst han
                  have s0 : decide ((0 : Int) < (ln : Int)) = true := decide_eq_true (by omega)
                  have s0' : decide (0 < ln) = true := decide_eq_true (by omega)
                  have r1 : decide ((ln : Int) - 1 < 0) = false := decide_eq_false (by omega)
                  have r2 : decide ((ln : Int) ≤ (ln : Int) - 1) = false := decide_eq_false (by omega)
                  have r3 : 0 ≤ (ln : Int) - 1 := by omega
                  have r4 : (ln : Int) - 1 < (ln : Int) := by omega
                  have r5 : ((ln : Int) - 1).toNat = ln - 1 := by omega
                  clear hrm hrn HUPV HLU HLM HMAB HMBA
                  go_upto_region 26 with fail
                  by_cases h1 : U < 0
                  · have s1 : decide (U < 0) = true := decide_eq_true h1

                    have HLO : Hid (lk1 = lk ++ [a]) := by
                      show _ = _
                      rw [HLK.out]
                      have : loseF up a b2 = a := by
                        unfold loseF
                        rw [← HU.out]
                        first | (rw [if_pos (by omega)]) | (rw [if_neg (by omega)])
                      rw [this]
                    have cl1 := HCL.out a (by first | exact HHA.out | exact HHB.out) _ HSB.out.bel
                    have HS9 := Lib.hid ((HFIN.out _ HSB.out).alloc (.cells #[.string (f a)] 9))
                    generalize hfw : f a = fw at *
                    have HFW := Lib.hid hfw
                    clear hfw HSB
                    go_wp2_with (at_builtin; refine wpList_append_st eltStrD rfl _ _ rfl rfl HS9.out (k := 3) rfl rfl (rd_one (by simp)) (one_str5 _) (by omega) (by omega) ?_; intro v' w' S' _)
                    go_roundw
                    case rel =>
                      refine ⟨k + 1, by omega, by go_num, ?_⟩
                      have e : strsL f lk1 = strsL f lk ++ [.string fw] := by rw [HLO.out, strsL_snoc, ← HFW.out]; rfl
                      have e2 : lk1.length = lk.length + 1 := by rw [HLO.out, List.length_append]; rfl
                      rw [← HLK1.out, e, e2]
                      exact S'
                    case measure => simp [intOf]; omega
                  have s1 : decide (U < 0) = false := decide_eq_false h1
                  by_cases h2 : U = 0
                  · have s2 : (U == 0) = true := by simp [h2]
                    by_cases h3 : b2 < a
                    · have s3 : decide ((b2 : Int) < (a : Int)) = true := decide_eq_true (by omega)
                      have s3' : decide (b2 < a) = true := decide_eq_true h3

                      have HLO : Hid (lk1 = lk ++ [a]) := by
                        show _ = _
                        rw [HLK.out]
                        have : loseF up a b2 = a := by
                          unfold loseF
                          rw [← HU.out]
                          first | (rw [if_pos (by omega)]) | (rw [if_neg (by omega)])
                        rw [this]
                      have cl1 := HCL.out a (by first | exact HHA.out | exact HHB.out) _ HSB.out.bel
                      have HS9 := Lib.hid ((HFIN.out _ HSB.out).alloc (.cells #[.string (f a)] 9))
                      generalize hfw : f a = fw at *
                      have HFW := Lib.hid hfw
                      clear hfw HSB
                      go_wp2_with (at_builtin; refine wpList_append_st eltStrD rfl _ _ rfl rfl HS9.out (k := 3) rfl rfl (rd_one (by simp)) (one_str5 _) (by omega) (by omega) ?_; intro v' w' S' _)
                      go_roundw
                      case rel =>
                        refine ⟨k + 1, by omega, by go_num, ?_⟩
                        have e : strsL f lk1 = strsL f lk ++ [.string fw] := by rw [HLO.out, strsL_snoc, ← HFW.out]; rfl
                        have e2 : lk1.length = lk.length + 1 := by rw [HLO.out, List.length_append]; rfl
                        rw [← HLK1.out, e, e2]
                        exact S'
                      case measure => simp [intOf]; omega
                    · have s3 : decide ((b2 : Int) < (a : Int)) = false := decide_eq_false (by omega)
                      have s3' : decide (b2 < a) = false := decide_eq_false h3

                      have HLO : Hid (lk1 = lk ++ [b2]) := by
                        show _ = _
                        rw [HLK.out]
                        have : loseF up a b2 = b2 := by
                          unfold loseF
                          rw [← HU.out]
                          first | (rw [if_pos (by omega)]) | (rw [if_neg (by omega)])
                        rw [this]
                      have cl1 := HCL.out b2 (by first | exact HHA.out | exact HHB.out) _ HSB.out.bel
                      have HS9 := Lib.hid ((HFIN.out _ HSB.out).alloc (.cells #[.string (f b2)] 9))
                      generalize hfw : f b2 = fw at *
                      have HFW := Lib.hid hfw
                      clear hfw HSB
                      go_wp2_with (at_builtin; refine wpList_append_st eltStrD rfl _ _ rfl rfl HS9.out (k := 3) rfl rfl (rd_one (by simp)) (one_str5 _) (by omega) (by omega) ?_; intro v' w' S' _)
                      go_roundw
                      case rel =>
                        refine ⟨k + 1, by omega, by go_num, ?_⟩
                        have e : strsL f lk1 = strsL f lk ++ [.string fw] := by rw [HLO.out, strsL_snoc, ← HFW.out]; rfl
                        have e2 : lk1.length = lk.length + 1 := by rw [HLO.out, List.length_append]; rfl
                        rw [← HLK1.out, e, e2]
                        exact S'
                      case measure => simp [intOf]; omega
                  have s2 : (U == 0) = false := by simp [h2]

                  have HLO : Hid (lk1 = lk ++ [b2]) := by
                    show _ = _
                    rw [HLK.out]
                    have : loseF up a b2 = b2 := by
                      unfold loseF
                      rw [← HU.out]
                      first | (rw [if_pos (by omega)]) | (rw [if_neg (by omega)])
                    rw [this]
                  have cl1 := HCL.out b2 (by first | exact HHA.out | exact HHB.out) _ HSB.out.bel
                  have HS9 := Lib.hid ((HFIN.out _ HSB.out).alloc (.cells #[.string (f b2)] 9))
                  generalize hfw : f b2 = fw at *
                  have HFW := Lib.hid hfw
                  clear hfw HSB
                  go_wp2_with (at_builtin; refine wpList_append_st eltStrD rfl _ _ rfl rfl HS9.out (k := 3) rfl rfl (rd_one (by simp)) (one_str5 _) (by omega) (by omega) ?_; intro v' w' S' _)
                  go_roundw
                  case rel =>
                    refine ⟨k + 1, by omega, by go_num, ?_⟩
                    have e : strsL f lk1 = strsL f lk ++ [.string fw] := by rw [HLO.out, strsL_snoc, ← HFW.out]; rfl
                    have e2 : lk1.length = lk.length + 1 := by rw [HLO.out, List.length_append]; rfl
                    rw [← HLK1.out, e, e2]
                    exact S'
                  case measure => simp [intOf]; omega
          · obtain rfl : k = q' := by omega
            have hk2 : ¬ (2 * k + 1 < q) := by omega
            have hkb : k ≤ 8 := by omega
            have p1 : decide (2 * (k : Int) + 1 < (q : Int)) = false := decide_eq_false (by omega)
            have hrd2 := S.rdAll_at (i := 2) rfl HMS.out
            rw [strsO_len, ← HQ.out] at hrd2
            have hrl := (S.row_rd (i := 3) rfl).now
            have HADV := Lib.hid (advance_ok wr q k (.slice Aq q cq) u13 f m SS (losers up z SS k) hrd2 hrl HG.out HQ.out HQQ.out HQC.out (pres_nodup HINJ.out)
              (fun p hp => by obtain ⟨i, hi, e⟩ := List.mem_iff_getElem.1 (mem_pres.1 hp); exact HPB.out i p (getD_some.2 (by rw [List.getElem?_eq_getElem hi, e])))
              (losers_nodup HINJ.out k) (fun p hp => losers_pres HGP.out hp) (fun i hi => (pair_stay HINJ.out hi).1))
            have e5 := HSTEP.out
            have HS9 := Lib.hid S
            obtain ⟨Av, cv, rfl, _, _, _⟩ := hrl.open_
            clear S hrd2 hrl hqq
            go_wp2_with fail
            go_at_call 21
            refine HADV.out.mono ?_
            rintro e w4 ⟨vn, rfl, S9⟩
            rw [e5] at S9
            have S10 := HS9.out.call S9
            simp only [List.cons_append, List.nil_append] at S10
            have S11 := S10.sub (L' := [_, _, _, _]) (.cons_cons _ (.cons_cons _ (.cons_cons _ (.cons _ (List.Sublist.refl _)))))
            obtain ⟨An2, cn2, rfl, _, _, _⟩ := (S11.row_rd (i := 3) rfl).open_
            have hk0 : ((k : Int) == 0) = false := by simp; omega
            have hk0' : (k == 0) = false := by simp; omega
            have hkl : k = (strsO f (rndL up go m (r + 1))).length := by
              rw [strsO_len, rndL_len, ← HN.out, HNL.out, pw5 (by omega)]
              have h2 := HQQ.out
              have h3 := HQ.out
              rw [← HSS.out, rndL_len, ← HN.out, HNL.out, pw5 hr] at h3
              have h4 : 2 ^ (R - r) = 2 ^ (R - (r + 1)) * 2 := by
                rw [← Nat.pow_succ]
                congr 1
                omega
              omega
            have S12 := S11.freeze5 (L := [_, _]) hkl
            clear hkl
            simp only [List.cons_append, List.nil_append] at S12
            have HSF := Lib.hid S12
            have HSG := Lib.hid (S12.alloc (.cells #[.slice An2 k cn2] 32))
            clear S9 S10 S11 S12 HS9 HADV e5
            go_wp2_with (at_builtin; refine wpList_append_st eltTS rfl _ _ rfl rfl HSG.out (k := 1) rfl rfl (rd_one (by simp)) (one_sl5 _ _ _) (by omega) (by omega) ?_; intro v' w' S' _)
            go_roundw
            case rel =>
              refine ⟨r + 1, ms ++ [(.slice An2 k cn2, strsO f (rndL up go m (r + 1)))], by omega, by go_num, ?_, ⟨strsO f (rndL up go m (r + 1)), ?_⟩, ?_⟩
              · show _ = _
                rw [List.map_append, hms.out, TS_snoc f up go m (r + 1)]; rfl
              · have hml : ms.length = r + 1 := by
                  have := congrArg List.length hms.out
                  rw [List.length_map] at this
                  rw [this]; unfold TS; simp
                rw [List.getElem?_append_right (by omega), hml, Nat.sub_self]; rfl
              · rw [List.map_append]
                exact S'
            case measure => simp [intOf]; omega
    · obtain rfl : r = R := by omega
      have hq1 : q = 1 := by rw [hq2, Nat.sub_self]
      subst hq1
      have hat := HRD.out.at_ (k := 0) (by omega)
      obtain ⟨b, o, ux0, hA, hb0, hu0, d0⟩ := hat
      subst hA
      have hl0 : 0 < (rndL up go m r).length := by rw [← HQ.out]; omega
      rw [strsO_at hl0] at hu0
      cases hu0
      have e5 : (rndL up go m r).getD 0 none = rndF up go (slotF m) r 0 := rndL_getD (by rw [← rndL_len up go m r]; exact hl0)
      rw [e5] at d0
      rw [Nat.add_zero] at d0
      clear hl0 e5 hq2 hb0
      go_wp2_with fail
      go_ret3
      exact ⟨u11, ms, rfl, hms.out, HS.out.sub (.cons _ (List.Sublist.refl _))⟩
end Go.Proofs.YtkkkfjinflepmaaGreatDoor
