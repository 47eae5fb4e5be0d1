/- Part 26 of the walks of the golf union's program: WX1. -/
import Derived.Test.YtlffgdmljioaoaaGreatDoorD11
import Derived.Test.YtlffgdmljioaoaaGreatDoorD12
import Derived.Test.YtlffgdmljioaoaaGreatDoorD25
import Derived.WalkSpells
import Derived.Outline
set_option linter.unusedVariables false
set_option linter.unusedSimpArgs false
set_option linter.unusedSectionVars false
set_option linter.constructorNameAsVariable false
/- Walks: slices.Compare; Excluded. -/
namespace Go.Proofs.YtlffgdmljioaoaaGreatDoor
open Go.RowKit Go.Mem Go.Sheet
set_option maxRecDepth 100000 in
theorem cmp1_any (a b : Int) (w : World) : Calls Tryz.prog 134 #[.int .i64 a, .int .i64 b] w fun e w' => e = .returned (.int .i64 (cmp1 a b)) ∧ w = w' := by
  go_enter Tryz.func134, Tryz.ntmps134
  have HC : Hid (cmp1 a b = if a < b then -1 else if b < a then 1 else 0) := rfl
  by_cases h1 : a < b
  · have H : Hid (cmp1 a b = -1) := by show _ = _; rw [HC.out, if_pos h1]
    go_wp2
    go_ret
    exact ⟨ret_i64 H.out.symm, rfl⟩
  · by_cases h2 : b < a
    · have H : Hid (cmp1 a b = 1) := by show _ = _; rw [HC.out, if_neg h1, if_pos h2]
      go_wp2
      go_ret
      exact ⟨ret_i64 H.out.symm, rfl⟩
    · have H : Hid (cmp1 a b = 0) := by show _ = _; rw [HC.out, if_neg h1, if_neg h2]
      go_wp2
      go_ret
      exact ⟨ret_i64 H.out.symm, rfl⟩
theorem cmpF_at {a b : List Int} {k : Nat} {x y : Int} (hx : a[k]? = some x) (hy : b[k]? = some y) : cmpF (a.drop k) (b.drop k) = if x < y then -1 else if y < x then 1 else cmpF (a.drop (k + 1)) (b.drop (k + 1)) := by
  rw [drop_at hx, drop_at hy, cmpF]
set_option maxRecDepth 100000 in
set_option maxHeartbeats 1000000 in
theorem compare_any (w : World) (F F' : Nat → Prop) (va vb : Value) (n m : Nat) (a b : List Int) (ha : Rd w F 1 va n (a.map (Value.int .i64))) (hb : Rd w F' 1 vb m (b.map (Value.int .i64))) :
    Calls Tryz.prog 87 #[va, vb] w fun e w' => e = .returned (.int .i64 (cmpF a b)) ∧ w = w' := by
  have HA := Lib.hid ha.count1
  have HB := Lib.hid hb.count1
  have hn := ha.le
  have hm := hb.le
  obtain ⟨A, c, rfl, _, _, ha⟩ := ha.open_
  obtain ⟨A', c', rfl, _, _, hb⟩ := hb.open_
  go_enter Tryz.func87, Tryz.ntmps87
  go_wp2
  go_loop [11] (fun i => ∃ k : Nat, k ≤ n ∧ k ≤ m ∧ i = .int .i64 k ∧ Hid (cmpF (a.drop k) (b.drop k) = cmpF a b)) (fun i => n - (intOf i).toNat)
  case atStart => exact ⟨0, Nat.zero_le _, Nat.zero_le _, rfl, rfl⟩
  case round =>
    obtain ⟨k, hk, hkm, rfl, he⟩ := hrel
    by_cases hlt : k < n
    · obtain ⟨ba, oa, x, rfl, hx, cx⟩ := ha.int hlt
      by_cases hlm : k < m
      · obtain ⟨bb, ob, y, rfl, hy, cy⟩ := hb.int hlm
        have he2 := he.out
        rw [cmpF_at hx hy] at he2
        have HE := Lib.hid he2
        clear hx hy he he2
        have h1 : cmp1 x y = if x < y then -1 else if y < x then 1 else 0 := rfl
        have H1 := Lib.hid h1
        clear h1
        by_cases hxy : x < y
        · have H2 : Hid (cmp1 x y = -1) := by show _ = _; rw [H1.out, if_pos hxy]
          have H3 : Hid (cmpF a b = -1) := by show _ = _; rw [← HE.out, if_pos hxy]
          go_wp2_with (go_at_call 134; refine (cmp1_any _ _ _).mono ?_; rw [H2.out]; rintro e w' ⟨rfl, rfl⟩)
          go_ret
          exact ⟨ret_i64 H3.out.symm, rfl⟩
        · by_cases hyx : y < x
          · have H2 : Hid (cmp1 x y = 1) := by show _ = _; rw [H1.out, if_neg hxy, if_pos hyx]
            have H3 : Hid (cmpF a b = 1) := by show _ = _; rw [← HE.out, if_neg hxy, if_pos hyx]
            go_wp2_with (go_at_call 134; refine (cmp1_any _ _ _).mono ?_; rw [H2.out]; rintro e w' ⟨rfl, rfl⟩)
            go_ret
            exact ⟨ret_i64 H3.out.symm, rfl⟩
          · have H2 : Hid (cmp1 x y = 0) := by show _ = _; rw [H1.out, if_neg hxy, if_neg hyx]
            have H3 : Hid (cmpF (a.drop (k + 1)) (b.drop (k + 1)) = cmpF a b) := by show _ = _; rw [← HE.out, if_neg hxy, if_neg hyx]
            go_wp2_with (go_at_call 134; refine (cmp1_any _ _ _).mono ?_; rw [H2.out]; rintro e w' ⟨rfl, rfl⟩)
            go_round
            case rel => exact ⟨k + 1, by omega, by omega, by go_num, H3.out⟩
            case measure => simp [intOf]; omega
      · have H3 : Hid (cmpF a b = 1) := by
          show _ = _
          rw [← he.out, drop_at hx, List.drop_of_length_le (l := b) (by have := HB.out; omega), cmpF]
        clear hx he
        go_wp2
        go_ret
        exact ⟨ret_i64 H3.out.symm, rfl⟩
    · have hkn : k = n := by omega
      by_cases hlm : n < m
      · have H3 : Hid (cmpF a b = -1) := by
          show _ = _
          have hlb : k < b.length := by have := HB.out; omega
          rw [← he.out, List.drop_of_length_le (l := a) (by have := HA.out; omega), List.drop_eq_getElem_cons hlb, cmpF]
        clear he hkn
        go_wp2
        go_ret
        exact ⟨ret_i64 H3.out.symm, rfl⟩
      · have H3 : Hid (cmpF a b = 0) := by
          show _ = _
          rw [← he.out, List.drop_of_length_le (l := a) (by have := HA.out; omega), List.drop_of_length_le (l := b) (by have := HB.out; omega), cmpF]
        clear he hkn
        go_wp2
        go_ret
        exact ⟨ret_i64 H3.out.symm, rfl⟩
theorem bits_one (n : Nat) (h : n < 9223372036854775808) : bits .and .i64 (n : Int) 1 = ((n % 2 : Nat) : Int) := by
  have e1 : (BitVec.ofInt IntKind.i64.bits (n : Int) &&& BitVec.ofInt IntKind.i64.bits 1).toNat = n % 2 := by
    rw [BitVec.toNat_and, BitVec.toNat_ofInt, BitVec.toNat_ofInt]
    show _ &&& 1 = _
    rw [Nat.and_one_is_mod]
    show ((n : Int) % 18446744073709551616).toNat % 2 = _
    omega
  show IntKind.i64.wrap ((BitVec.ofInt IntKind.i64.bits (n : Int) &&& BitVec.ofInt IntKind.i64.bits 1).toNat : Int) = _
  rw [e1, IntKind.wrap_i64]
  omega
theorem bit_test (set k : Nat) (h : set ≤ 4096) : (bits .and .i64 ((set : Int) / 2 ^ k) 1 == 0) = !bitOn set k := by
  have e : (set : Int) / 2 ^ k = ((set / 2 ^ k : Nat) : Int) := by simp
  have hle : set / 2 ^ k ≤ set := Nat.div_le_self _ _
  rw [e, bits_one _ (by omega), bitOn]
  by_cases h2 : set / 2 ^ k % 2 = 1
  · rw [h2]; rfl
  · have : set / 2 ^ k % 2 = 0 := by omega
    rw [this]; rfl
theorem rd_nat {w : World} {S : Nat → Prop} {n : Nat} {A : Option Addr} {m c k : Nat} {l : List Nat} (h : Rd w S 1 (.slice A m c) n (natsV l)) (hk : k < n) :
    ∃ b o x, A = some ⟨b, o, none⟩ ∧ l[k]? = some x ∧ w.cell? ⟨b, o + k, none⟩ = some (.int .i64 (x : Nat)) := by
  obtain ⟨b, o, u, e, _, hx, hc⟩ := h.at_ hk
  rw [natsV, List.getElem?_map] at hx
  cases hx' : l[k]? with
  | none => rw [hx'] at hx; cases hx
  | some x => rw [hx'] at hx; cases hx; exact ⟨b, o, x, e, rfl, hc⟩
theorem sureL_mem {l : List RQ} {i : Nat} : ∀ {k}, i ∈ sureL k l → k ≤ i ∧ i < k + l.length := by
  induction l with
  | nil => intro k h; cases h
  | cons x l ih =>
    intro k h
    rw [sureL] at h
    rw [List.length_cons]
    split at h
    · rcases List.mem_cons.1 h with rfl | h
      · omega
      · have := ih h; omega
    · have := ih h; omega
/-- while the members of a set are gone through -/
def ExR (W : World) (rq : List RQ) (m cs set bw : Nat) (As : Option Addr) (vB : Value) (best : List Int) (out : List Nat) (MF : List Nat) (WF : List Bool) (i v : Value) (w' : World) : Prop :=
  ∃ (k : Nat) (mem : List Nat) (wb : List Bool), k ≤ m ∧ i = .int .i64 k ∧ mem.length ≤ k ∧ wb.length = 24 ∧
    St W w' [row 3 1 (.slice As m cs) m (natsV out), row 3 1 vB best.length (intsV best), row 3 1 v mem.length (natsV mem), blk bw 137 (boolsV wb).toArray] ∧
    mem ++ memF set k (out.drop k) = MF ∧ wantF rq set k (out.drop k) wb = WF
theorem index_bools (wb : List Bool) (h : wb.length = 24) (k : Nat) (hk : k < 24) (w : World) : (Instr.index 137 (.agg (boolsV wb).toArray) (.int .i64 (k : Int))).run Tryz.prog w = .ok (.bool (wb.getD k false)) w := by
  have hu : Tryz.prog.underlying 137 = some (.array 24 4) := by kernel_rfl
  have hu4 : Tryz.prog.underlying 4 = some .bool := by kernel_rfl
  have hs : (Tryz.prog.info? 4).map (·.size) = some 1 := by kernel_rfl
  obtain ⟨i, hi, hi2⟩ := Option.map_eq_some_iff.1 hs
  have hb : (boolsV wb)[k]? = some (.bool (wb.getD k false)) := boolsV_at wb k (by omega)
  unfold Instr.index
  simp [Sem.run_bind, asIntOf, run_underlying hu w, Result.andThen, sizeOf, typeInfo, hi, hi2, part, isAgg, run_underlying hu4 w, hk, hb]
theorem natsV_natI (l : List Nat) : natsV l = (natI l).map (Value.int .i64) := by simp [natsV, natI]
theorem natI_len (l : List Nat) : (natI l).length = l.length := by simp [natI]
theorem eql_nil (w : World) : (binOp .eql 23 (.slice none 0 0) (.slice none 0 0)).run Tryz.prog w = .ok (.bool true) w := Lib.run_eql_slice_nil w _ _ none 0 0 0 0 Tryz.underlying23
theorem eql_some (w : World) (a : Addr) (n c : Nat) : (binOp .eql 23 (.slice (some a) n c) (.slice none 0 0)).run Tryz.prog w = .ok (.bool false) w := Lib.run_eql_slice_nil w _ _ (some a) n c 0 0 Tryz.underlying23
/-- while the wishes of a member are gone through -/
def WanR (W : World) (rq : List RQ) (m cs bw : Nat) (As : Option Addr) (vB : Value) (best : List Int) (out mem : List Nat) (v : Value) (x : Req) (G : List Bool → List Bool) (WF : List Bool) (i : Value) (w' : World) : Prop :=
  ∃ (j : Nat) (wb : List Bool), j ≤ x.wn ∧ i = .int .i64 j ∧ wb.length = 24 ∧
    St W w' [row 3 1 (.slice As m cs) m (natsV out), row 3 1 vB best.length (intsV best), row 3 1 v mem.length (natsV mem), blk bw 137 (boolsV wb).toArray] ∧ G (wantW wb (x.ws.drop j)) = WF
set_option maxRecDepth 100000 in
set_option maxHeartbeats 4000000 in
theorem excluded_run (W : World) (vl vr : Value) (nl n : Nat) (l : List Slot) (rs : List Req) (hl : Rd W (· < W.heap.size) 3 vl nl (l.flatMap Slot.cells)) (h : RdReqs W (· < W.heap.size) vr n rs) :
    Calls Tryz.prog 37 #[vl, vr] W (RetInts W (excluded l (rs.map Req.rq))) := by
  have HN := Lib.hid (h.1.count (f := Req.cells) (size := 3) (fun _ => rfl) (by decide))
  have HNL := Lib.hid (hl.count (f := Slot.cells) (size := 3) (fun _ => rfl) (by decide))
  have HC := Lib.hid (checkRequests_any W vl vr nl n l rs hl h)
  obtain ⟨A, c, rfl, _, _, _⟩ := h.1.open_
  obtain ⟨Al, cl, rfl, _, _, _⟩ := hl.open_
  have HL := Lib.hid hl
  have HH := Lib.hid h
  have HK : Hid (checkRequests l (rs.map Req.rq) = 0 → Okay l (rs.map Req.rq)) := fun h => okay_of h
  have HE : Hid (excluded l (rs.map Req.rq) = if checkRequests l (rs.map Req.rq) ≠ 0 then ([], checkRequests l (rs.map Req.rq)) else if 12 < (sureN (rs.map Req.rq)).length then ([], 22) else if exAll l (rs.map Req.rq) (2 ^ (sureN (rs.map Req.rq)).length) 0 [] = [] then ([], 7) else (exAll l (rs.map Req.rq) (2 ^ (sureN (rs.map Req.rq)).length) 0 [], 0)) := rfl
  clear hl h
  go_enter Tryz.func37, Tryz.ntmps37
  go_wp2_with fail
  refine HC.out.mono ?_
  rintro e w2 ⟨rfl, hb⟩
  clear HC
  generalize checkRequests l (rs.map Req.rq) = E at *
  by_cases h0 : (E != 0) = true
  · go_wp2
    go_ret2
    rw [HE.out, if_pos (by simpa using h0)]
    exact RetInts.err hb
  · have h0' : (E != 0) = false := by simpa using h0
    have hok := HK.out (by simpa using h0)
    have HE2 := HE.out
    rw [if_neg (by simpa using h0)] at HE2
    have HE := Lib.hid HE2
    have hnr : rs.length ≤ 24 := by have := hok.nr; rwa [List.length_map] at this
    have hn24 : n ≤ 24 := by rw [HN.out]; exact hnr
    have hnl24 : nl ≤ 24 := by rw [HNL.out]; exact hok.nl
    have HOK := Lib.hid hok
    have S0 := (St.of_below hb).row_nil 3 1
    simp only [List.nil_append] at S0
    clear HK h0 HE2 hok
    go_wp2
    generalize hq : rs.map Req.rq = rq at *
    have HQ := Lib.hid hq
    clear hq
    go_loopw [30, 7] (fun i v w' => ∃ (k : Nat) (out : List Nat), k ≤ n ∧ i = .int .i64 k ∧ out.length ≤ k ∧ St W w' [row 3 1 v out.length (natsV out)] ∧ Hid (out ++ sureL k (rq.drop k) = sureN rq)) (fun i _ _ => n - (intOf i).toNat)
    case atStart => exact ⟨0, [], Nat.zero_le _, rfl, Nat.zero_le _, S0, rfl⟩
    case round =>
      obtain ⟨k, out, hk, rfl, hol, S, he⟩ := hrel
      clear S0
      by_cases hlt : k < n
      · obtain ⟨b, o, x, rfl, hx, c0, c1, c2⟩ := (HH.out.1.below S.bel).elem3 (k := k) (fun s : Req => .string s.name) (fun s : Req => .bool s.g) (fun s : Req => .slice s.wa s.wn s.wc) (fun _ => rfl) hlt
        have hxq : rq[k]? = some x.rq := by rw [← HQ.out, List.getElem?_map, hx]; rfl
        have he2 := he.out
        rw [drop_at hxq, sureL, show x.rq.g = x.g from rfl] at he2
        have SA := S.alloc (.cells #[.string x.name, .bool x.g, .slice x.wa x.wn x.wc] 73)
        clear hx hxq he S
        cases hg : x.g with
        | true =>
          rw [hg] at c1 he2 SA
          rw [if_pos rfl] at he2
          have HE3 := Lib.hid he2
          clear he2 hg
          go_wp2_with (at_builtin; refine wpList_append_st eltI rfl _ _ rfl rfl (SA.alloc _) (k := 0) rfl rfl (rd_one (by simp)) (one_int _ _) (by omega) (by omega) ?_; intro v' w' S' _)
          go_roundw
          case rel => exact ⟨k + 1, out ++ [k], by omega, by go_num, by simp; omega, by simpa [natsV] using S', by rw [List.append_assoc]; exact HE3.out⟩
          case measure => simp [intOf]; omega
        | false =>
          rw [hg] at c1 he2 SA
          rw [if_neg (by decide)] at he2
          have HE3 := Lib.hid he2
          clear he2 hg
          go_wp2
          go_roundw
          case rel => exact ⟨k + 1, out, by omega, by go_num, by omega, SA, HE3.out⟩
          case measure => simp [intOf]; omega
      · have hkn : k = n := by omega
        have hsu : out = sureN rq := by
          have := he.out
          rw [List.drop_of_length_le (by rw [← HQ.out, List.length_map]; have := HN.out; omega), sureL, List.append_nil] at this
          exact this
        have HSU := Lib.hid hsu
        clear hsu he
        obtain ⟨kk, hkk⟩ : ∃ c : Int, c = (k : Int) := ⟨_, rfl⟩
        rw [← hkk]
        have hkk2 : (n : Int) ≤ kk := by omega
        have hdf : decide (kk < (n : Int)) = false := by simpa using hkk2
        have ho24 : out.length ≤ 24 := by omega
        clear hkk hkn
        obtain ⟨As, cs, rfl, hcs, _, _⟩ := (S.row_rd (i := 0) rfl).open_
        by_cases h12 : 12 < out.length
        · have hb2 := S.bel
          have h12b : decide (12 < (out.length : Int)) = true := by simp; omega
          go_wp2
          go_ret2
          rw [HE.out, if_pos (by rw [← HSU.out]; exact h12)]
          exact RetInts.err hb2
        · have h12b : decide (12 < (out.length : Int)) = false := by simp; omega
          have hl12 : out.length ≤ 12 := by omega
          have HE2 := HE.out
          rw [if_neg (by rw [← HSU.out]; exact h12), ← HSU.out] at HE2
          have HE3 := Lib.hid HE2
          generalize hsz : out.length = m at *
          have HSZ := Lib.hid hsz
          have hp2 : 2 ^ m ≤ 4096 := Nat.pow_le_pow_right (n := 2) (by decide) hl12
          have hp1 : 1 ≤ 2 ^ m := Nat.one_le_two_pow
          have hlim : wrap64 (2 ^ m) = ((2 ^ m : Nat) : Int) := by
            have : ((2 : Int) ^ m) = ((2 ^ m : Nat) : Int) := by simp
            rw [this]
            unfold wrap64
            omega
          have HLIM := Lib.hid hlim
          have S1 := S.row_nil 3 1
          simp only [List.cons_append, List.nil_append] at S1
          clear HE2 hsz hlim S h12
          go_wp2
          rw [HLIM.out]
          generalize hN2 : 2 ^ m = N2 at *
          have HN2 := Lib.hid hN2
          clear hN2 HLIM
          generalize hRR : exAll l rq N2 0 [] = RR at *
          have HRR := Lib.hid hRR
          clear hRR
          obtain ⟨wo1, rfl⟩ : ∃ wo1 : World, wo1 = wr := ⟨_, rfl⟩
          go_loopw [48, 10] (fun i v w' => ∃ (set : Nat) (best : List Int), set ≤ N2 ∧ i = .int .i64 set ∧ (best = [] → v = .slice none 0 0) ∧ best.length ≤ 12 ∧ St W w' [row 3 1 (.slice As m cs) m (natsV out), row 3 1 v best.length (intsV best)] ∧ Hid (exAll l rq (N2 - set) set best = RR)) (fun i _ _ => N2 - (intOf i).toNat)
          case atStart => exact ⟨0, [], Nat.zero_le _, rfl, fun _ => rfl, by simp, S1, HRR.out⟩
          case round =>
            obtain ⟨set, best, hset, rfl, hbn, hbl, S2, hex⟩ := hrel
            have HBN := Lib.hid hbn
            clear S1 hbn
            by_cases hlt2 : set < N2
            · have hex2 := hex.out
              rw [show N2 - set = (N2 - (set + 1)) + 1 by omega, exAll] at hex2
              have HEX := Lib.hid hex2
              have S3 : St W (wr.alloc (.cells #[Value.bool false, Value.bool false, Value.bool false, Value.bool false, Value.bool false, Value.bool false, Value.bool false, Value.bool false, Value.bool false, Value.bool false, Value.bool false, Value.bool false, Value.bool false, Value.bool false, Value.bool false, Value.bool false, Value.bool false, Value.bool false, Value.bool false, Value.bool false, Value.bool false, Value.bool false, Value.bool false, Value.bool false] 137)) [row 3 1 (.slice As m cs) m (natsV out), row 3 1 u10 best.length (intsV best), row 3 1 (.slice none 0 0) 0 (natsV []), blk wr.heap.size 137 (boolsV (List.replicate 24 false)).toArray] :=
                (S2.row_nil 3 1).blk_new #[Value.bool false, Value.bool false, Value.bool false, Value.bool false, Value.bool false, Value.bool false, Value.bool false, Value.bool false, Value.bool false, Value.bool false, Value.bool false, Value.bool false, Value.bool false, Value.bool false, Value.bool false, Value.bool false, Value.bool false, Value.bool false, Value.bool false, Value.bool false, Value.bool false, Value.bool false, Value.bool false, Value.bool false] 137
              clear hex hex2 S2
              go_wp2
              obtain ⟨wo2, rfl⟩ : ∃ wo2 : World, wo2 = wr := ⟨_, rfl⟩
              generalize wo2.alloc (.cells #[Value.bool false, Value.bool false, Value.bool false, Value.bool false, Value.bool false, Value.bool false, Value.bool false, Value.bool false, Value.bool false, Value.bool false, Value.bool false, Value.bool false, Value.bool false, Value.bool false, Value.bool false, Value.bool false, Value.bool false, Value.bool false, Value.bool false, Value.bool false, Value.bool false, Value.bool false, Value.bool false, Value.bool false] 137) = w5 at *
              generalize wo2.heap.size = bw at *
              obtain ⟨MF, hMF⟩ : ∃ MF, MF = memF set 0 out := ⟨_, rfl⟩
              obtain ⟨WF, hWF⟩ : ∃ WF, WF = wantF rq set 0 out (List.replicate 24 false) := ⟨_, rfl⟩
              rw [exStep, ← HSU.out, ← hMF, ← hWF] at HEX
              have H1 : Hid (ExR W rq m cs set bw As u10 best out MF WF (.int .i64 0) (.slice none 0 0) w5) :=
                ⟨0, [], List.replicate 24 false, Nat.zero_le _, rfl, Nat.le_refl _, List.length_replicate, S3, hMF.symm, hWF.symm⟩
              have HWFE := Lib.hid hWF
              clear S3 hMF hWF
              go_loopw [53, 12] (fun i v w' => ExR W rq m cs set bw As u10 best out MF WF i v w') (fun i _ _ => m - (intOf i).toNat)
              case atStart => exact H1.out
              case round =>
                clear H1
                obtain ⟨k, mem, wb, hk2, rfl, hml, hwb, S4, hmf, hwf⟩ := hrel
                have HWB := Lib.hid hwb
                have HMF := Lib.hid hmf
                have HWF := Lib.hid hwf
                clear hwb hmf hwf
                by_cases hlt3 : k < m
                · obtain ⟨b, o, i, rfl, hi, ci⟩ := rd_nat (S4.row_rd (i := 0) rfl) hlt3
                  have him : i < n := by
                    have h1 := sureL_mem (k := 0) (l := rq) (show i ∈ sureL 0 rq by
                      have := List.mem_of_getElem? hi
                      rw [HSU.out] at this
                      exact this)
                    have h2 := congrArg List.length HQ.out
                    rw [List.length_map] at h2
                    have := HN.out
                    omega
                  have hk64 : k ≤ 12 := by omega
                  have hbt := bit_test set k (by omega)
                  have hmf2 := HMF.out
                  have hwf2 := HWF.out
                  rw [drop_at hi, memF] at hmf2
                  rw [drop_at hi, wantF] at hwf2
                  clear HMF HWF
                  cases hbit : bitOn set k with
                  | false =>
                    rw [hbit] at hbt hmf2 hwf2
                    have hbt2 : (bits BinOp.and IntKind.i64 ((set : Int) / 2 ^ k) 1 == 0) = true := hbt
                    rw [if_neg (by decide)] at hmf2 hwf2
                    have HR : Hid (ExR W rq m cs set bw (some ⟨b, o, none⟩) u10 best out MF WF (.int .i64 ((k : Int) + 1)) u12 wr) :=
                      ⟨k + 1, mem, wb, by omega, rfl, by omega, HWB.out, S4, hmf2, hwf2⟩
                    clear hmf2 hwf2 hbt hi S4 hbit
                    go_wp2
                    go_roundw
                    case rel => exact HR.out
                    case measure => simp [intOf]; omega
                  | true =>
                    rw [hbit] at hbt hmf2 hwf2
                    have hbt2 : (bits BinOp.and IntKind.i64 ((set : Int) / 2 ^ k) 1 == 0) = false := hbt
                    rw [if_pos rfl] at hmf2 hwf2
                    obtain ⟨bx, ox, x, rfl, hx, d0, d1, d2⟩ := (HH.out.1.below S4.bel).elem3 (k := i) (fun s : Req => .string s.name) (fun s : Req => .bool s.g) (fun s : Req => .slice s.wa s.wn s.wc) (fun _ => rfl) him
                    have hxm := List.mem_of_getElem? hx
                    have hrx := (HH.out.2 x hxm).1
                    have bw64 := hrx.le
                    have HWN := Lib.hid (hrx.count (f := Wish.cells) (size := 2) (fun _ => rfl) (by decide))
                    have hwsx : wsOf rq i = x.ws := by rw [wsOf, ← HQ.out, List.getElem?_map, hx]; rfl
                    rw [hwsx] at hwf2
                    have HWY : Hid (∀ y ∈ x.ws, 0 ≤ y.s ∧ y.s < 24) := fun y hy => by
                      have h1 := HOK.out.wish x.rq (by rw [← HQ.out]; exact List.mem_map_of_mem hxm) y hy
                      have h2 := HOK.out.nl
                      omega
                    have hmf3 : (mem ++ [i]) ++ memF set (k + 1) (out.drop (k + 1)) = MF := by rw [List.append_assoc]; exact hmf2
                    have HMF := Lib.hid hmf3
                    have HWF := Lib.hid hwf2
                    have HD : Hid (∀ w', Below W.heap.size W w' → w'.cell? ⟨bx, ox + i * 3 + 2, none⟩ = some (.slice x.wa x.wn x.wc)) := fun w' hw' => by
                      obtain ⟨bx', ox', x', hA', hx', _, _, d2'⟩ := (HH.out.1.below hw').elem3 (k := i) (fun s : Req => .string s.name) (fun s : Req => .bool s.g) (fun s : Req => .slice s.wa s.wn s.wc) (fun _ => rfl) him
                      cases hA'
                      rw [hx] at hx'
                      cases hx'
                      exact d2'
                    clear hmf2 hmf3 hwf2 hbt hi hx hxm hwsx hbit
                    have hin : (i : Int) < n := by omega
                    go_wp2_with (at_builtin; refine wpList_append_st eltI rfl _ _ rfl rfl (S4.alloc _) (k := 2) rfl rfl (rd_one (by simp)) (one_int _ _) (by omega) (by omega) ?_; intro v' w' S5 hgr; have d2 := HD.out _ S5.bel)
                    have S6 : St W w' [row 3 1 (.slice (some ⟨b, o, none⟩) m cs) m (natsV out), row 3 1 u10 best.length (intsV best), row 3 1 v' (mem ++ [i]).length (natsV (mem ++ [i])), blk bw 137 (boolsV wb).toArray] := by
                      simpa [natsV] using S5
                    have HW0 : Hid (WanR W rq m cs bw (some ⟨b, o, none⟩) u10 best out (mem ++ [i]) v' x (wantF rq set (k + 1) (out.drop (k + 1))) WF (.int .i64 0) w') :=
                      ⟨0, wb, Nat.zero_le _, rfl, HWB.out, S6, HWF.out⟩
                    clear S4 S5 S6 hgr d0 d1 d2
                    obtain ⟨wo3, rfl⟩ : ∃ wo3 : World, wo3 = wr := ⟨_, rfl⟩
                    go_loopw [73] (fun idx w' => WanR W rq m cs bw (some ⟨b, o, none⟩) u10 best out (mem ++ [i]) v' x (wantF rq set (k + 1) (out.drop (k + 1))) WF idx w') (fun idx _ => x.wn - (intOf idx).toNat)
                    case atStart => exact HW0.out
                    case round =>
                      clear HW0
                      obtain ⟨j, wb2, hj, rfl, hwb2, S7, hwf3⟩ := hrel
                      have HWB2 := Lib.hid hwb2
                      clear hwb2
                      by_cases hlt4 : j < x.wn
                      · obtain ⟨b2, o2, y, hA2, hy, e0, e1⟩ := (hrx.below S7.bel).elem2 (k := j) (fun s : Wish => .int .i64 s.s) (fun s : Wish => .int .i64 s.w) (fun _ => rfl) hlt4
                        have hys := HWY.out y (List.mem_of_getElem? hy)
                        obtain ⟨s, hs⟩ : ∃ s : Nat, y.s = s := ⟨y.s.toNat, by omega⟩
                        have hs24 : s < 24 := by omega
                        have hs24i : (s : Int) < 24 := by omega
                        rw [drop_at hy, wantW, hs, Int.toNat_natCast] at hwf3
                        rw [hs] at e0
                        have c7 : wr.cell? ⟨bw, s, none⟩ = some (.bool (wb2.getD s false)) := by rw [S7.blk_cell (i := 3) rfl, List.getElem?_toArray, boolsV_at _ _ (by rw [HWB2.out]; exact hs24)]
                        have z7 := S7.blk_frozen (i := 3) rfl s
                        have l7 := (S7.blk_at (i := 3) rfl).2.1
                        have S8 := (S7.blk_set (i := 3) rfl s (.bool true)).alloc (.cells #[.int .i64 s, .int .i64 y.w] 122)
                        simp only [List.set_cons_zero, List.set_cons_succ, List.setIfInBounds_toArray, boolsV_set] at S8
                        have HR : Hid (WanR W rq m cs bw (some ⟨b, o, none⟩) u10 best out (mem ++ [i]) v' x (wantF rq set (k + 1) (out.drop (k + 1))) WF (.int .i64 ((j : Int) + 1)) _) :=
                          ⟨j + 1, wb2.set s true, by omega, rfl, by rw [List.length_set]; exact HWB2.out, S8, hwf3⟩
                        generalize wb2.getD s false = wv at *
                        rw [hA2]
                        clear hwf3 hy hA2 S7 S8 hys hs
                        go_wp2
                        go_roundw
                        case rel => exact HR.out
                        case measure => simp [intOf]; omega
                      · have hjj : j = x.wn := by omega
                        rw [hjj, HWN.out, List.drop_length, wantW] at hwf3
                        have HR : Hid (ExR W rq m cs set bw (some ⟨b, o, none⟩) u10 best out MF WF (.int .i64 ((k : Int) + 1)) v' wr) :=
                          ⟨k + 1, mem ++ [i], wb2, by omega, rfl, by simp; omega, HWB2.out, S7, HMF.out, hwf3⟩
                        clear hwf3 S7 hjj
                        go_wp2
                        go_roundw
                        case rel => exact HR.out
                        case measure => simp [intOf]; omega
                · have hkm : k = m := by omega
                  have hmf2 := HMF.out
                  have hwf2 := HWF.out
                  rw [hkm, List.drop_of_length_le (Nat.le_of_eq HSZ.out), memF, List.append_nil] at hmf2
                  rw [hkm, List.drop_of_length_le (Nat.le_of_eq HSZ.out), wantF] at hwf2
                  subst hmf2 hwf2
                  have hcells := (S4.blk_at (i := 3) rfl).2.2
                  have hlt24 : ∀ s, wb.getD s false = true → s < l.length := by
                    rw [HWFE.out]
                    exact wantF_lt set (fun x hx y hy => (HOK.out.wish x hx y hy).1) _ _ _ (fun s hs => by rw [replicate_getD] at hs; split at hs <;> cases hs)
                  have HLT := Lib.hid hlt24
                  have hinf : (Tryz.prog.info? 137).map (·.size) = some (boolsV wb).toArray.size := by
                    rw [show (boolsV wb).toArray.size = 24 by simp [boolsV, HWB.out]]
                    kernel_rfl
                  have HINF := Lib.hid hinf
                  have HCELLS := Lib.hid hcells
                  obtain ⟨kk2, hkk3⟩ : ∃ c : Int, c = (k : Int) := ⟨_, rfl⟩
                  rw [← hkk3]
                  have hkk4 : (m : Int) ≤ kk2 := by omega
                  have hdf3 : decide (kk2 < (m : Int)) = false := by simpa using hkk4
                  clear hlt24 hinf hcells HMF HWF hkk3 hkm hlt3
                  go_wp2_with (refine wpList_load_row rfl _ _ rfl bw rfl 137 _ _ _ HCELLS.out Tryz.underlying137 rfl HINF.out ?_)
                  have hL := HL.out.below S4.bel
                  go_loop [83, 18] (fun i v => ∃ k : Nat, k ≤ 24 ∧ i = .int .i64 k ∧ v = .int .i64 (roomK wb l k) ∧ 0 ≤ roomK wb l k ∧ roomK wb l k ≤ 8 * k) (fun i _ => 24 - (intOf i).toNat)
                  case atStart => exact ⟨0, Nat.zero_le _, rfl, rfl, Int.le_refl _, by simp [roomK]⟩
                  case round =>
                    obtain ⟨k5, hk5, rfl, rfl, hr0, hr1⟩ := hrel
                    have hst := roomK_step (b := wb) (l := l) (k := k5)
                    have HST := Lib.hid hst
                    clear hst
                    by_cases hlt5 : k5 < 24
                    · have hix := index_bools wb HWB.out k5 hlt5
                      generalize hrk : roomK wb l k5 = rk at *
                      clear hrk
                      cases hwk : wb.getD k5 false with
                      | true =>
                        rw [hwk] at hix
                        have hknl : k5 < nl := by have := HLT.out k5 hwk; have := HNL.out; omega
                        obtain ⟨bl, ol, s, rfl, hs, c0, c1, c2⟩ := hL.elem3 (k := k5) (fun s : Slot => .int .i64 s.m) (fun s : Slot => .int .i64 s.h) (fun s : Slot => .int .i64 s.p) (fun _ => rfl) hknl
                        have hsp := HOK.out.slot s (List.mem_of_getElem? hs)
                        have hp0 : 1 ≤ s.p := hsp.2.2.2.2.1
                        have hp8 : s.p ≤ 8 := hsp.2.2.2.2.2
                        have hst2 := HST.out
                        rw [hwk, if_pos rfl, hs] at hst2
                        have HST2 := Lib.hid hst2
                        clear hst2 hs hsp hwk HST c0 c1
                        go_wp2
                        go_round
                        case rel => exact ⟨k5 + 1, by omega, by go_num, by rw [HST2.out], by rw [HST2.out]; dsimp only; omega, by rw [HST2.out]; dsimp only; omega⟩
                        case measure => simp [intOf]; omega
                      | false =>
                        rw [hwk] at hix
                        have hst2 := HST.out
                        rw [hwk, if_neg (by decide), Int.add_zero] at hst2
                        have HST2 := Lib.hid hst2
                        clear hst2 hwk HST
                        go_wp2
                        go_round
                        case rel => exact ⟨k5 + 1, by omega, by go_num, by rw [HST2.out], by rw [HST2.out]; omega, by rw [HST2.out]; omega⟩
                        case measure => simp [intOf]; omega
                    · have hk24 : k5 = 24 := by omega
                      rw [hk24] at hr0 ⊢
                      generalize hrk : roomK wb l 24 = rk at *
                      clear hr1 hk24 hlt5 hrk HST
                      obtain ⟨Am, cm, rfl, hcm, hcm2, _⟩ := (S4.row_rd (i := 2) rfl).open_
                      have SY : St W wr [row 3 1 (.slice As m cs) m (natsV out), row 3 1 (.slice Am mem.length cm) (natI mem).length (intsV (natI mem))] := by
                        rw [natI_len, intsV, ← natsV_natI]
                        exact S4.sub (.cons_cons _ (.cons _ (.cons_cons _ (.cons _ .slnil))))
                      have SN := S4.sub (L' := [row 3 1 (.slice As m cs) m (natsV out), row 3 1 u10 best.length (intsV best)]) (.cons_cons _ (.cons_cons _ (.cons _ (.cons _ .slnil))))
                      have hm12 : (natI mem).length ≤ 12 := by rw [natI_len]; omega
                      have HSY := Lib.hid SY
                      have HSN := Lib.hid SN
                      have HRM := Lib.hid (S4.row_rd (i := 2) rfl)
                      have HRB := Lib.hid (S4.row_rd (i := 1) rfl)
                      rw [natsV_natI] at HRM
                      have HFORM : Hid (best ≠ [] → ∃ g cap, u10 = .slice (some ⟨g, 0, none⟩) best.length cap ∧ best.length ≤ cap) := fun hne => by
                        obtain ⟨g, cap, h1, h2, _⟩ := S4.row_form (i := 1) rfl (List.length_pos_iff.2 hne)
                        exact ⟨g, cap, h1, h2⟩
                      have HML := Lib.hid (natI_len mem)
                      unfold maxLen at hcm2
                      clear SY SN S4 HCELLS HINF HWFE HLT hL
                      have HBF : Hid (betterF best (natI mem) = (decide (best = []) || (decide (mem.length < best.length) || (decide (mem.length = best.length) && decide (cmpF (natI mem) best < 0))))) := by
                        show _ = _
                        rw [betterF, natI_len]
                      have hnil : rk < mem.length → natI mem = [] → False := fun h1 h2 => by
                        have := HML.out
                        rw [h2, List.length_nil] at this
                        omega
                      have HNIL := Lib.hid hnil
                      clear hnil
                      by_cases hbe : best = []
                      · have hu := HBN.out hbe
                        subst hu
                        have hbt : betterF best (natI mem) = true := by rw [HBF.out, hbe]; rfl
                        have HBT := Lib.hid hbt
                        have HBE := Lib.hid hbe
                        clear hbe hbt
                        have qn := eql_nil
                        by_cases hroom : rk < mem.length
                        · have HEX3 := HEX.out
                          rw [if_pos ⟨hroom, HBT.out⟩] at HEX3
                          have HEX4 := Lib.hid HEX3
                          have HNN := Lib.hid (HNIL.out hroom)
                          clear HEX3
                          go_wp2
                          go_roundw
                          case rel => exact ⟨set + 1, natI mem, by omega, by go_num, fun h => (HNN.out h).elim, hm12, HSY.out, HEX4.out⟩
                          case measure => simp [intOf]; omega
                        · have HEX3 := HEX.out
                          rw [if_neg (fun h => hroom h.1)] at HEX3
                          have HEX4 := Lib.hid HEX3
                          clear HEX3
                          go_wp2
                          go_roundw
                          case rel => exact ⟨set + 1, best, by omega, by go_num, fun _ => rfl, hbl, HSN.out, HEX4.out⟩
                          case measure => simp [intOf]; omega
                      · obtain ⟨gb, cb, hu, hcb⟩ := HFORM.out hbe
                        subst hu
                        have HBE := Lib.hid hbe
                        have hbe2 : decide (best = []) = false := by simpa using hbe
                        have HB2 := HBF.out
                        rw [hbe2, Bool.false_or] at HB2
                        have HB3 := Lib.hid HB2
                        clear hbe hbe2 HB2 HFORM HBN
                        have qs := fun w => eql_some w ⟨gb, 0, none⟩ best.length cb
                        have HCMP := Lib.hid (compare_any wr _ _ _ _ _ _ (natI mem) best HRM.out HRB.out)
                        have HYES : Hid (rk < mem.length → betterF best (natI mem) = true → exAll l rq (N2 - (set + 1)) (set + 1) (natI mem) = RR) := fun h1 h2 => by
                          have := HEX.out
                          rwa [if_pos ⟨h1, h2⟩] at this
                        have HNOT : Hid (¬ (rk < mem.length ∧ betterF best (natI mem) = true) → exAll l rq (N2 - (set + 1)) (set + 1) best = RR) := fun h => by
                          have := HEX.out
                          rwa [if_neg h] at this
                        clear HEX
                        by_cases hl1 : mem.length < best.length
                        · have hbt : betterF best (natI mem) = true := by rw [HB3.out]; simp [hl1]
                          have HBT := Lib.hid hbt
                          clear hbt
                          by_cases hroom : rk < mem.length
                          · have HEX4 := Lib.hid (HYES.out hroom HBT.out)
                            have HNN := Lib.hid (HNIL.out hroom)
                            go_wp2
                            go_roundw
                            case rel => exact ⟨set + 1, natI mem, by omega, by go_num, fun h => (HNN.out h).elim, hm12, HSY.out, HEX4.out⟩
                            case measure => simp [intOf]; omega
                          · have HEX4 := Lib.hid (HNOT.out fun h => hroom h.1)
                            go_wp2
                            go_roundw
                            case rel => exact ⟨set + 1, best, by omega, by go_num, fun h => (HBE.out h).elim, hbl, HSN.out, HEX4.out⟩
                            case measure => simp [intOf]; omega
                        · by_cases hl2 : mem.length = best.length
                          · have hl2b : ((mem.length : Int) == best.length) = true := by simp; omega
                            by_cases hc : cmpF (natI mem) best < 0
                            · have hbt : betterF best (natI mem) = true := by rw [HB3.out]; simp [hl2, hc]
                              have HBT := Lib.hid hbt
                              clear hbt
                              generalize cmpF (natI mem) best = cv at *
                              have HL2 := Lib.hid hl2
                              clear hl2
                              by_cases hroom : rk < mem.length
                              · have HEX4 := Lib.hid (HYES.out hroom HBT.out)
                                have HNN := Lib.hid (HNIL.out hroom)
                                go_wp2_with (go_at_call 87; refine HCMP.out.mono ?_; rintro e w' ⟨rfl, rfl⟩)
                                go_roundw
                                case rel => exact ⟨set + 1, natI mem, by omega, by go_num, fun h => (HNN.out h).elim, hm12, HSY.out, HEX4.out⟩
                                case measure => simp [intOf]; omega
                              · have HEX4 := Lib.hid (HNOT.out fun h => hroom h.1)
                                go_wp2_with (go_at_call 87; refine HCMP.out.mono ?_; rintro e w' ⟨rfl, rfl⟩)
                                go_roundw
                                case rel => exact ⟨set + 1, best, by omega, by go_num, fun h => (HBE.out h).elim, hbl, HSN.out, HEX4.out⟩
                                case measure => simp [intOf]; omega
                            · have hbt : ¬ betterF best (natI mem) = true := by rw [HB3.out]; simp [hl2, hc]
                              have HEX4 := Lib.hid (HNOT.out fun h => hbt h.2)
                              clear hbt
                              generalize cmpF (natI mem) best = cv at *
                              have HL2 := Lib.hid hl2
                              clear hl2
                              by_cases hroom : rk < mem.length
                              · go_wp2_with (go_at_call 87; refine HCMP.out.mono ?_; rintro e w' ⟨rfl, rfl⟩)
                                go_roundw
                                case rel => exact ⟨set + 1, best, by omega, by go_num, fun h => (HBE.out h).elim, hbl, HSN.out, HEX4.out⟩
                                case measure => simp [intOf]; omega
                              · go_wp2_with (go_at_call 87; refine HCMP.out.mono ?_; rintro e w' ⟨rfl, rfl⟩)
                                go_roundw
                                case rel => exact ⟨set + 1, best, by omega, by go_num, fun h => (HBE.out h).elim, hbl, HSN.out, HEX4.out⟩
                                case measure => simp [intOf]; omega
                          · have hl2b : ((mem.length : Int) == best.length) = false := by simp; omega
                            have hbt : ¬ betterF best (natI mem) = true := by rw [HB3.out]; simp [hl2]; omega
                            have HEX4 := Lib.hid (HNOT.out fun h => hbt h.2)
                            clear hbt hl2
                            by_cases hroom : rk < mem.length
                            · go_wp2
                              go_roundw
                              case rel => exact ⟨set + 1, best, by omega, by go_num, fun h => (HBE.out h).elim, hbl, HSN.out, HEX4.out⟩
                              case measure => simp [intOf]; omega
                            · go_wp2
                              go_roundw
                              case rel => exact ⟨set + 1, best, by omega, by go_num, fun h => (HBE.out h).elim, hbl, HSN.out, HEX4.out⟩
                              case measure => simp [intOf]; omega
            · have hsn : set = N2 := by omega
              have hbr : best = RR := by
                have := hex.out
                rw [hsn, Nat.sub_self, exAll] at this
                exact this
              obtain ⟨ss, hss⟩ : ∃ c : Int, c = (set : Int) := ⟨_, rfl⟩
              rw [← hss]
              have hss2 : (N2 : Int) ≤ ss := by omega
              have hdf4 : decide (ss < (N2 : Int)) = false := by simpa using hss2
              have HS := Lib.hid (S2.sub (L' := [row 3 1 u10 best.length (intsV best)]) (.cons _ (.cons_cons _ .slnil)))
              have hb9 := S2.bel
              have HFORM : Hid (best ≠ [] → ∃ g cap, u10 = .slice (some ⟨g, 0, none⟩) best.length cap ∧ best.length ≤ cap) := fun hne => by
                obtain ⟨g, cap, h1, h2, _⟩ := S2.row_form (i := 1) rfl (List.length_pos_iff.2 hne)
                exact ⟨g, cap, h1, h2⟩
              have HBR := Lib.hid hbr
              clear hsn hex hss hlt2 S2 hbr
              by_cases hbe : best = []
              · have hu := HBN.out hbe
                subst hu
                have qn := eql_nil
                have HF : Hid (excluded l rq = ([], 7)) := by show _ = _; rw [HE3.out, ← HBR.out, if_pos hbe]
                clear hbe
                go_wp2
                go_ret2
                rw [HF.out]
                exact RetInts.err hb9
              · obtain ⟨gb, cb, hu, hcb⟩ := HFORM.out hbe
                subst hu
                have qs := fun w => eql_some w ⟨gb, 0, none⟩ best.length cb
                have HF : Hid (excluded l rq = (best, 0)) := by show _ = _; rw [HE3.out, ← HBR.out, if_neg hbe]
                clear hbe HFORM HBN
                go_wp2
                go_ret2
                rw [HF.out]
                exact ⟨_, rfl, HS.out⟩
end Go.Proofs.YtlffgdmljioaoaaGreatDoor
