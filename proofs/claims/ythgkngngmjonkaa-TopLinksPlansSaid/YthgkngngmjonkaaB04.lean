/- Part 4 of the walks of the golf union's program: KD. -/
import Derived.Test.YthgkngngmjonkaaB03
set_option linter.unusedVariables false
set_option linter.unusedSimpArgs false
set_option linter.unusedSectionVars false
set_option linter.constructorNameAsVariable false
/- TopLinksPlans: relax. -/
namespace Go.Mem
open Go Go.RowKit
def setL : List Value → Nat → List Value → List Value
  | xs, _, [] => xs
  | xs, k, v :: vs => setL (xs.set k v) (k + 1) vs
theorem St.row_sets {W : World} {e : TypeId} {g cap n : Nat} : ∀ (vs xs : List Value) (k : Nat) (w : World) (L : List Asr) (i : Nat), St W w L → L[i]? = some (row e 1 (.slice (some ⟨g, 0, none⟩) n cap) n xs) →
    St W (w.setCells g k vs) (L.set i (row e 1 (.slice (some ⟨g, 0, none⟩) n cap) n (setL xs k vs)))
  | [], xs, k, w, L, i, h, hi => by
    rw [setL, World.setCells]
    have : L.set i (row e 1 (.slice (some ⟨g, 0, none⟩) n cap) n xs) = L := by
      refine List.ext_getElem? fun j => ?_
      by_cases e : i = j
      · subst e; rw [List.getElem?_set_self (List.getElem?_eq_some_iff.1 hi).1, hi]
      · rw [List.getElem?_set_ne e]
    rw [this]; exact h
  | v :: vs, xs, k, w, L, i, h, hi => by
    have h1 := h.row_set hi k v
    have hil := (List.getElem?_eq_some_iff.1 hi).1
    have h2 := St.row_sets vs (xs.set k v) (k + 1) _ _ i h1 (by rw [List.getElem?_set_self hil])
    rw [List.set_set] at h2
    exact h2
end Go.Mem
namespace Go.Proofs.Ythgkngngmjonkaa
open Go.RowKit Go.Mem Go.Sheet Go.Plan
theorem reverse_bel {W w : World} {L : List Asr} {i n c : Nat} {A : Option Addr} {zs : List Int} (S : St W w L) (hi : L[i]? = some (row 3 1 (.slice A n c) n (zs.map (Value.int .i64)))) :
    Calls Try.prog 29 #[.slice A n c] w fun e w' => e = .returned (.tuple #[]) ∧ Below W.heap.size W w' := by
  have hl : zs.length = n := by have := (S.row_rd hi).len; simpa using this
  have hn := (S.row_rd hi).le
  rcases Nat.eq_zero_or_pos n with h0 | h0
  · subst h0
    refine (Try.slices_Reverse_int_empty A c w).mono ?_
    rintro e w' ⟨rfl, rfl⟩
    exact ⟨rfl, S.bel⟩
  · obtain ⟨g, cap, hv, hcap, _, _, hcell, hfz⟩ := S.row_form hi h0
    cases hv
    refine (Try.slices_Reverse_int_cells g 0 n c zs w (Nat.le_of_eq hl.symm) hn (fun j hj => ?_) (fun j _ => hfz _)).mono ?_
    · rw [Nat.zero_add, hcell j (by omega), List.getElem?_map, List.getElem?_eq_getElem hj, List.getD_eq_getElem?_getD, List.getElem?_eq_getElem hj]; rfl
    · rintro e w' ⟨rfl, q, rfl⟩
      exact ⟨rfl, (St.row_sets _ _ 0 _ L i (S.drewN q) hi).bel⟩
theorem zeroI (w : World) : (zeroValue 3).run Try.prog w = .ok (.int .i64 0) w := by kernel_rfl
def relL (g n B m : Nat) (s : RS) : List Asr := [row 3 1 (.slice (some ⟨g, 0, none⟩) n n) n (daysV n s.days), mapA Try.prog 3 3 B m (byF s)]
def sliceLen : Value → Nat
  | .slice _ n _ => n
  | _ => 0
set_option maxRecDepth 100000 in
set_option maxHeartbeats 4000000 in
theorem relax_any (W : World) (n : Nat) (v : Value) (nl : Nat) (l : List RL) (hi : In n l) (hn : 1 ≤ n ∧ n ≤ 24) (hl : l.length ≤ 256) (hle : ∀ r ∈ l, -10000 ≤ r.le ∧ r.le ≤ 10000) (h : Rd W (· < W.heap.size) 3 v nl (l.flatMap RL.cells)) :
    Calls Try.prog 15 #[.int .i64 n, v] W fun e w' => (∃ g D, e = .returned (.tuple #[.slice (some ⟨g, 0, none⟩) n n, .slice none 0 0]) ∧ Least n l D ∧ (∀ x, 0 ≤ D x ∧ D x ≤ 100000000) ∧ St W w' [row 3 1 (.slice (some ⟨g, 0, none⟩) n n) n (daysV n D)]) ∨
      (∃ b q c, e = .returned (.tuple #[.slice none 0 0, .slice (some b) q c]) ∧ (∀ d : Nat → Int, Fits n l d → ¬ ∀ x, x < n → 0 ≤ d x) ∧ Below W.heap.size W w') := by
  have HL := Lib.hid (h.count (f := RL.cells) (size := 3) (fun _ => rfl) (by decide))
  have HR := Lib.hid h
  obtain ⟨A, c, rfl, _, _, _⟩ := h.open_
  clear h
  have hmm := @run_makeMap Try.prog
  have HIN := Lib.hid hi
  have HLE := Lib.hid hle
  clear hi hle
  go_enter Try.func15, Try.ntmps15
  go_wp2_with (at_make; refine wpList_make_st eltI rfl _ _ rfl (n := n) rfl rfl (St.refl W) (by omega) (by omega) ?_; intro w4 g S4 hg4 hb4)
  have S0 : St W (w4.alloc (.map #[] 0)) (relL g n w4.heap.size 0 Plan.start) := by
    have h1 := S4.map_new Try.prog 3 3
    have hmc : (madeCells (Value.int .i64 0).cells (n * 1)).toList = daysV n (fun _ => 0) := by
      rw [← daysV_zero]
      show (madeCells #[.int .i64 0] (n * 1)).toList = _
      rw [toList_madeCells_one, Nat.mul_one]
    rw [hmc] at h1
    exact h1
  generalize hB : w4.heap.size = B at *
  generalize w4.alloc (.map #[] 0) = w5 at *
  have HS0 := Lib.hid S0
  clear S0 S4 hB hb4 hmm hg4
  go_loopw [4, 5, 7, 17] (fun d cy la i w' => ∃ (t m : Nat), t ≤ n + 1 ∧ d = .slice (some ⟨g, 0, none⟩) n n ∧ cy = .slice none 0 0 ∧ i = .int .i64 t ∧ St W w' (relL g n B m (itR l t Plan.start)) ∧ m ≤ t * 256 ∧ RSok n l.length (t * l.length) (itR l t Plan.start) ∧ (t = 0 ∨ la = .int .i64 (lastI (itR l t Plan.start))) ∧ (∀ j, j < t → (itR l (j + 1) Plan.start).last ≠ none)) (fun _ _ _ i _ => n + 1 - (intOf i).toNat)
  case atStart => exact ⟨0, 0, Nat.zero_le _, rfl, rfl, rfl, HS0.out, Nat.zero_le _, (by rw [Nat.zero_mul]; exact rsok_start n l.length), .inl rfl, fun _ h => absurd h (by omega)⟩
  case round =>
    obtain ⟨t, m, ht, rfl, rfl, rfl, S, hm, hok, hla, hall⟩ := hrel
    clear HS0
    by_cases hlt : t < n + 1
    · have HALL := Lib.hid hall
      have HOK := Lib.hid hok
      have HS := Lib.hid S
      have HMM : Hid (m ≤ t * 256) := hm
      clear hall hok S hm hla
      go_wp2_with fail
      have htb : decide ((t : Int) < (n : Int) + 1) = true := by simp; omega
      simp only [htb]
      clear htb
      generalize hs0 : itR l t Plan.start = s0 at *
      have HS1 : Hid (itR l (t + 1) Plan.start = roundR l s0) := by show _ = _; rw [itR_succ, hs0]
      have HS0E := Lib.hid hs0
      clear hs0
      generalize hN1 : itR l (t + 1) Plan.start = s1 at *
      have HN1 := Lib.hid hN1
      clear hN1
      go_loopw [7, 21] (fun la i w' => ∃ (k m' : Nat) (s : RS), k ≤ nl ∧ i = .int .i64 k ∧ St W w' (relL g n B m' s) ∧ m' ≤ t * 256 + k ∧ RSok n l.length (t * l.length + k) s ∧ la = .int .i64 (lastI s) ∧ Hid (passR k (l.drop k) s = roundR l s0)) (fun _ i _ => nl - (intOf i).toNat)
      case atStart => exact ⟨0, m, ⟨s0.days, s0.by_, none⟩, Nat.zero_le _, rfl, HS.out, HMM.out, HOK.out.none_, rfl, rfl⟩
      case round =>
        obtain ⟨k, m', s, hk, rfl, S, hm', hok, rfl, he⟩ := hrel
        clear HS HMM HOK
        by_cases hlt2 : k < nl
        · have HS := Lib.hid S
          have HOK := Lib.hid hok
          have HMM : Hid (m' ≤ t * 256 + k) := hm'
          obtain ⟨b, o, x, hA, hx, c0, c1, c2⟩ := (HR.out.below S.bel).elem3 (k := k) (fun s : RL => .int .i64 s.fr) (fun s : RL => .int .i64 s.to) (fun s : RL => .int .i64 s.le) (fun _ => rfl) hlt2
          subst hA
          have HX := Lib.hid hx
          clear hx S hok hm'
          have hxr := HIN.out x (List.mem_of_getElem? HX.out)
          have hxl := HLE.out x (List.mem_of_getElem? HX.out)
          have hxf := hxr.1
          have hxt := hxr.2
          have hg0 := (HS.out.row_form (i := 0) rfl (by omega))
          obtain ⟨g', cap', hv', _, _, hgw, hcell, hfz⟩ := hg0
          cases hv'
          have c3 := (hcell x.fr (by omega)).trans (daysV_at hxf)
          have c4 := (hcell x.to (by omega)).trans (daysV_at hxt)
          have f4 := hfz x.to
          have HGW := Lib.hid hgw
          have hd0 := HOK.out.d0 x.fr
          have hd1 : s.days x.fr ≤ 100000000 := by
            have h1 := HOK.out.d1 x.fr
            have h2 : t * l.length ≤ 25 * 256 := Nat.mul_le_mul (by omega) hl
            have h3 := HL.out
            omega
          have ht0 := HOK.out.d0 x.to
          have ht1 : s.days x.to ≤ 100000000 := by
            have h1 := HOK.out.d1 x.to
            have h2 : t * l.length ≤ 25 * 256 := Nat.mul_le_mul (by omega) hl
            have h3 := HL.out
            omega
          have hx1 := hxl.1
          have hx2 := hxl.2
          have HXX := Lib.hid (And.intro hxr hxl)
          generalize hF : s.days x.fr = F at *
          generalize hT : s.days x.to = T at *
          have HF := Lib.hid hF
          have HT := Lib.hid hT
          have hne1 : g ≠ wr.heap.size := by omega
          have hne2 : wr.heap.size ≠ g := by omega
          clear hxr hxl hcell hfz hF hT
          go_wp2_with fail
          go_quiet (fail)
          have SA := (HS.out.blk_new #[.int .i64 x.fr, .int .i64 x.to, .int .i64 x.le] 26).drewN nq
          generalize hGR : wr.heap.size = gR at *
          generalize ((wr.alloc (.cells #[.int .i64 x.fr, .int .i64 x.to, .int .i64 x.le] 26)).drewN nq) = wA at SA ⊢
          have HSA := Lib.hid SA
          have a1 := SA.blk_cell (i := 2) rfl 1
          obtain ⟨g', cap', hv', _, _, _, hcell, hfz⟩ := SA.row_form (i := 0) rfl (by omega)
          cases hv'
          have a4 := (hcell x.to (by omega)).trans (daysV_at hxt)
          rw [HT.out] at a4
          have f4 := hfz x.to
          clear c0 c1 c2 c3 c4 hcell hfz SA hGR HS hne1 hne2 hgw
          have hk9 : k ≤ 1000 := by have h2 := HL.out; omega
          have HNEXT : Hid (passR (k + 1) (l.drop (k + 1)) (stepR k x s) = roundR l s0) := by
            show _ = _
            rw [← he.out, drop_at HX.out, passR]
          have HOK2 : Hid (RSok n l.length (t * l.length + (k + 1)) (stepR k x s)) := HOK.out.step HXX.out.1 (by have := HL.out; omega) HXX.out.2.2
          by_cases hc : T < F + x.le
          · have HSTEP : Hid (stepR k x s = ⟨upd s.days x.to (F + x.le), updO s.by_ x.to k, some x.to⟩) := by
              show _ = _
              unfold stepR
              rw [HF.out, HT.out, if_pos hc]
            go_wp2_with fail
            clear a1 a4 f4
            have b1 := HSA.out.blk_cell (i := 2) rfl 1
            have HMB : m' ≤ 1000000 := by have h1 := HMM.out; have h2 := HL.out; omega
            refine wp_head_tail3 0 13 2 [] [0, 1, 2, 3, 4, 5, 6, 7, 8, 9, 10] rfl (fun w' => w'.cell? ⟨gR, 1, none⟩ = some (.int .i64 x.to))
              (fun a a' w' => a' = a ∧ St W w' (relL g n B (m' + 1) ⟨upd s.days x.to (F + x.le), updO s.by_ x.to k, some x.to⟩)) (by kernel_rfl) (by kernel_rfl) b1 ?_
            simp only [pick, List.filterMap_cons, List.filterMap_nil, List.getElem?_toArray, List.getElem?_cons_succ, List.getElem?_cons_zero]
            have SD := Lib.hid HSA.out.drew
            generalize hK : (fun w' : World => w'.cell? ⟨gR, 1, none⟩ = some (.int .i64 x.to)) = K
            have kK : ∀ y : Wd K, y.w.cell? ⟨gR, 1, none⟩ = some (.int .i64 x.to) := by subst hK; exact fun y => y.h
            have hne : Nonempty (Wd K) := ⟨⟨wA.drew, by subst hK; exact b1⟩⟩
            have hKd : ∀ (w' : World) (t : TypeId) (A B : Asr) , St W w' [A, B, blk gR t #[.int .i64 x.fr, .int .i64 x.to, .int .i64 x.le]] → K w' := by
              intro w' t A B h
              subst hK
              exact h.blk_cell (i := 2) rfl 1
            clear hK b1 HSA
            generalize wA.drew = w3 at *
            refine wpQuiet_nil ?_
            change wpQuiet _ _ _ _ (_ :: _ :: _ :: _ :: _ :: _ :: _ :: _ :: _ :: _ :: _ :: []) _
            repeat (go_big_quiet_step ((fail)))
            refine wpQuiet_nil ?_
            have S3 := SD.out
            refine ⟨?_, ?_⟩
            · as_aux_lemma =>
              obtain ⟨g', cap', hv', _, _, _, hcell, hfz⟩ := S3.row_form (i := 0) rfl (by omega)
              cases hv'
              have a4 := (hcell x.to (by omega)).trans (daysV_at hxt)
              rw [HT.out] at a4
              have f4 := hfz x.to
              clear hcell hfz
              have SZ := S3.row_set (i := 0) rfl x.to (.int .i64 (F + x.le))
              simp only [relL, List.cons_append, List.nil_append, List.set_cons_zero] at SZ
              rw [daysV_set hxt] at SZ
              refine headW_all (rs := [11]) (by kernel_rfl) (by decide) (by decide) (List.forall_mem_cons.2 ⟨?_, List.forall_mem_nil _⟩)
              refine wpOp_list (o := _) rfl ?_
              intro Q' hQ'
              go_wp2_with fail
              refine ⟨hKd _ _ _ _ SZ, ?_⟩
              refine headW_all (rs := [12]) (by kernel_rfl) (by decide) (by decide) (List.forall_mem_cons.2 ⟨?_, List.forall_mem_nil _⟩)
              refine wpOp_list (o := _) rfl ?_
              intro Q' hQ'
              refine wpList_mapUpdate_st rfl _ _ _ 70 rfl 3 3 Try.underlying3 Try.underlying70 Try.underlying3 SZ (i := 1) rfl rfl (by omega) x.to rfl (by omega) (k : Int) rfl (by omega) ?_
              intro w6 S6
              simp only [List.set_cons_zero, List.set_cons_succ] at S6
              go_wp2_with fail
              refine ⟨hKd _ _ _ _ S6, ?_⟩
              refine ⟨by kernel_rfl, by kernel_rfl, ?_⟩
              have S7 := S6.sub (L' := [_, _]) (List.sublist_append_left [_, _] [_])
              have e : byF ⟨upd s.days x.to (F + x.le), updO s.by_ x.to k, some x.to⟩ = fun j => if j = x.to then (k : Int) else byF s j := by
                funext j
                show (((updO s.by_ x.to k j).getD 0 : Nat) : Int) = _
                unfold updO
                split
                · rfl
                · rfl
              rw [relL, e]
              exact S7
            · rintro a' w' ⟨rfl, SF⟩
              have HSF := Lib.hid SF
              have hN := HNEXT.out
              have hK := HOK2.out
              rw [HSTEP.out] at hN hK
              have HN := Lib.hid hN
              have HK := Lib.hid hK
              clear kK hne hKd SF SD S3 hN hK HSTEP HNEXT HOK2
              go_wp2_with fail
              refine NoPanic.normal ?_
              go_wp2_with fail
              go_roundw
              case rel => exact ⟨k + 1, m' + 1, _, by omega, by go_num, HSF.out, by have := HMM.out; omega, HK.out, rfl, HN.out⟩
              case measure => simp [intOf]; omega
          · have HSTEP : Hid (stepR k x s = s) := by
              show _ = _
              unfold stepR
              rw [HF.out, HT.out, if_neg hc]
            have hN := HNEXT.out
            have hK := HOK2.out
            rw [HSTEP.out] at hN hK
            have HN := Lib.hid hN
            have HK := Lib.hid hK
            have HSF := Lib.hid (HSA.out.sub (L' := [_, _]) (List.sublist_append_left [_, _] [_]))
            clear hN hK HSTEP HNEXT HOK2 HSA
            go_wp2_with fail
            go_roundw
            case rel => exact ⟨k + 1, m', _, by omega, by go_num, HSF.out, by have := HMM.out; omega, HK.out, rfl, HN.out⟩
            case measure => simp [intOf]; omega
        · have HS := Lib.hid S
          have HOK := Lib.hid hok
          have HMM : Hid (m' ≤ (t + 1) * 256) := by have h1 := HL.out; show m' ≤ _; omega
          have e1 : s = s1 := by
            have := he.out
            rw [List.drop_eq_nil_of_le (by rw [← HL.out]; omega)] at this
            rw [HS1.out, ← this]; rfl
          have e2 : t * l.length + k = (t + 1) * l.length := by have h1 := HL.out; rw [Nat.add_mul]; omega
          rw [e2] at hok
          have HOK := Lib.hid hok
          subst e1
          clear S hok he hm'
          by_cases hz : s.last = none
          · have hzi : lastI s < 0 := (lastI_neg s).2 hz
            have hzz := Lib.hid hz
            generalize lastI s = la at *
            clear hz
            go_wp2_with fail
            go_ret2
            have h1 := hzz.out
            rw [HS1.out, ← HS0E.out] at h1
            have h2 := least_of HIN.out h1
            have h3 := (pass_still (n := n) l 0 ⟨(itR l t Plan.start).days, (itR l t Plan.start).by_, none⟩ rfl h1).1
            have h4 : s.days = (itR l t Plan.start).days := by rw [HS1.out, ← HS0E.out, roundR, h3]
            rw [← h4] at h2
            have h5 := HS.out.sub (L' := [_]) (List.sublist_append_left [_] [_])
            have h7 : (t + 1) * l.length ≤ 25 * 256 := Nat.mul_le_mul (by omega) hl
            exact .inl ⟨g, s.days, rfl, h2, fun x => ⟨HOK.out.d0 x, by have := HOK.out.d1 x; omega⟩, h5⟩
          · have hzi : ¬ lastI s < 0 := fun h => hz ((lastI_neg s).1 h)
            have hzz := Lib.hid hz
            generalize hLA : lastI s = la at *
            have HLA := Lib.hid hLA
            clear hz hLA
            go_wp2_with fail
            go_roundw
            case rel => exact ⟨t + 1, m', by omega, rfl, rfl, by go_num, by rw [HN1.out]; exact HS.out, HMM.out, by rw [HN1.out]; exact HOK.out, .inr (by rw [HN1.out, HLA.out]), fun j hj => by
              rcases Nat.lt_or_ge j t with h | h
              · exact HALL.out j h
              · obtain rfl : j = t := by omega
                rw [HN1.out]; exact hzz.out⟩
            case measure => simp [intOf]; omega
    · obtain rfl : t = n + 1 := by omega
      have hlast := hall n (by omega)
      rcases hla with hla | rfl
      · omega
      obtain ⟨TT, hinv⟩ := inv_it (l := l) n
      rw [← itR_succ] at hinv
      have HINF : Hid (∀ d : Nat → Int, Fits n l d → ¬ ∀ x, x < n → 0 ≤ d x) := fun d hd h0 => hlast (by rw [itR_succ]; exact fits_stops HIN.out hd h0)
      generalize itR l (n + 1) Plan.start = s at *
      obtain ⟨K0, hK0⟩ : ∃ K0, s.last = some K0 := by
        cases h : s.last with
        | none => exact absurd h hlast
        | some k => exact ⟨k, rfl⟩
      have hK0n := hok.last K0 hK0
      have HFIRST := Lib.hid (back_first HIN.out hinv hK0 hK0n)
      obtain ⟨p, hp1, hpn, hcyc, hcn, hcq⟩ := back_round HIN.out hinv hK0 hK0n
      have HCYC := Lib.hid hcyc
      have HCN := Lib.hid hcn
      have HCQ := Lib.hid hcq
      have e1 : lastI s = (K0 : Int) := by unfold lastI; rw [hK0]
      rw [e1]
      have ec : ((n + 1 : Nat) : Int) = (n : Int) + 1 := by omega
      simp only [ec]
      clear ec
      have HS := Lib.hid S
      have HBY := Lib.hid hok.by_
      clear hok hall hlast hinv hK0 e1 S hcyc hcn hcq
      go_wp2_with fail
      go_loopw [7, 58] (fun la i w' => ∃ j : Nat, j ≤ n ∧ i = .int .i64 j ∧ la = .int .i64 (backN l s j K0 : Nat) ∧ St W w' (relL g n B m s)) (fun _ i _ => n - (intOf i).toNat)
      case atStart => exact ⟨0, Nat.zero_le _, rfl, rfl, HS.out⟩
      case round =>
        obtain ⟨j, hj, rfl, rfl, S⟩ := hrel
        clear HS
        by_cases hlt : j < n
        · obtain ⟨hy, q, r, hq, hr⟩ := HFIRST.out j hj
          have eb : byF s (backN l s j K0) = (q : Int) := by unfold byF; rw [hq]; rfl
          have eN : backN l s (j + 1) K0 = r.fr := by rw [backN_succ, backR_at hq hr]
          generalize backN l s j K0 = y at *
          have hqn : q < nl := by rw [HL.out]; exact (List.getElem?_eq_some_iff.1 hr).1
          obtain ⟨b, o, x, hA, hx, c0, c1, c2⟩ := (HR.out.below S.bel).elem3 (k := q) (fun s : RL => .int .i64 s.fr) (fun s : RL => .int .i64 s.to) (fun s : RL => .int .i64 s.le) (fun _ => rfl) hqn
          rw [hr] at hx
          cases hx
          subst hA
          have HEN := Lib.hid eN
          have HEB := Lib.hid eb
          have hy24 : y ≤ 1000 := by omega
          clear hr hq eN eb
          go_wp2_with (at_lookup; refine wpList_lookup_st rfl _ _ 70 rfl 3 3 Try.underlying3 Try.underlying70 Try.underlying3 zeroI S (i := 1) rfl rfl y rfl (by omega) ?_; rw [HEB.out])
          go_roundw
          case rel => exact ⟨j + 1, by omega, by go_num, by rw [HEN.out], S⟩
          case measure => simp [intOf]; omega
        · obtain rfl : n = j := by omega
          have HS := Lib.hid (S.row_nil 3 1)
          clear S HFIRST HBY HIN HLE
          generalize backN l s n K0 = K1 at *
          go_wp2_with fail
          go_loopw [5, 11] (fun cy at_ w' => ∃ (j : Nat) (zs : List Int), j < p ∧ at_ = .int .i64 (backN l s j K1 : Nat) ∧ zs.length = j ∧ St W w' (relL g n B m s ++ [row 3 1 cy j (zs.map (Value.int .i64))])) (fun cy _ _ => p - sliceLen cy)
          case atStart => exact ⟨0, [], by omega, rfl, rfl, HS.out⟩
          case round =>
            obtain ⟨j, zs, hj, rfl, hzl, S⟩ := hrel
            clear HS
            obtain ⟨q, r, hq, hr⟩ := HCQ.out j
            have hy := HCN.out j
            have eb : byF s (backN l s j K1) = (q : Int) := by unfold byF; rw [hq]; rfl
            have eN : backN l s (j + 1) K1 = r.fr := by rw [backN_succ, backR_at hq hr]
            generalize backN l s j K1 = y at *
            have hqn : q < nl := by rw [HL.out]; exact (List.getElem?_eq_some_iff.1 hr).1
            have HRD := Lib.hid hr
            have HEN := Lib.hid eN
            have HEB := Lib.hid eb
            have hy24 : y ≤ 1000 := by omega
            have hj24 : j ≤ 1000 := by omega
            have hq24 : q ≤ 1000 := by have := HL.out; omega
            have hAd : ∃ b o, A = some ⟨b, o, none⟩ := by
              obtain ⟨b, o, x, hA, _⟩ := (HR.out.below S.bel).elem3 (k := q) (fun s : RL => .int .i64 s.fr) (fun s : RL => .int .i64 s.to) (fun s : RL => .int .i64 s.le) (fun _ => rfl) hqn
              exact ⟨b, o, hA⟩
            obtain ⟨b, o, rfl⟩ := hAd
            obtain ⟨Ac, cc, rfl, _, _, _⟩ := (S.row_rd (i := 2) rfl).open_
            have HZL := Lib.hid hzl
            clear hr hq eN eb hzl
            have SQ := S.alloc (.cells #[.int .i64 (q : Int)] 3)
            have HQR := Lib.hid (rd_new wr (size := 1) (m := 1) #[.int .i64 (q : Int)] 3 rfl (by omega) (fun _ => True) trivial)
            go_wp2_with (first
              | (at_lookup; refine wpList_lookup_st rfl _ _ 70 rfl 3 3 Try.underlying3 Try.underlying70 Try.underlying3 zeroI S (i := 1) rfl rfl y rfl (by omega) ?_; rw [HEB.out])
              | (at_builtin; refine wpList_append_st eltI rfl _ _ rfl rfl SQ (k := 2) rfl rfl HQR.out (by simp [Value.oneCell']) (by omega) (by omega) ?_; intro v' w5 S5 _; obtain ⟨b', o', x', hA', hx', d0, _, _⟩ := (HR.out.below S5.bel).elem3 (k := q) (fun s : RL => .int .i64 s.fr) (fun s : RL => .int .i64 s.to) (fun s : RL => .int .i64 s.le) (fun _ => rfl) hqn; rw [HRD.out] at hx'; cases hx'; cases hA'; have S6 : St W w5 (relL g n B m s ++ [row 3 1 v' (j + 1) ((zs ++ [(q : Int)]).map (Value.int .i64))]) := (by rw [List.map_append]; exact S5); obtain ⟨g5, c5, hv5, _⟩ := S6.row_form (i := 2) rfl (by omega); subst hv5)
              | (at_lookup; refine wpList_lookup_st rfl _ _ 70 rfl 3 3 Try.underlying3 Try.underlying70 Try.underlying3 zeroI S5 (i := 1) rfl rfl y rfl (by omega) ?_; rw [HEB.out]))
            · go_wp2_with (go_at_call 29; refine (reverse_bel S6 (i := 2) rfl).mono ?_; rintro e w' ⟨rfl, hb⟩)
              go_ret2
              exact .inr ⟨_, _, _, rfl, HINF.out, hb⟩
            · have hne : r.fr ≠ K1 := by
                intro e
                have h1 := ‹((r.fr : Int) == (K1 : Int)) = false›
                rw [e] at h1
                simp at h1
              refine ⟨⟨j + 1, zs ++ [(q : Int)], ?_, by rw [HEN.out], by have := HZL.out; simp; omega, S6⟩, by simp [sliceLen]; omega⟩
              rcases Nat.lt_or_ge (j + 1) p with h | h
              · exact h
              · obtain rfl : p = j + 1 := by omega
                exact absurd (HEN.out.symm.trans HCYC.out) hne
end Go.Proofs.Ythgkngngmjonkaa
