/- Part 22 of the walks of the golf union's program: S8i, WV5, S8j. -/
import Derived.Test.YtjfhncnpmelopaaGreatDoorB20
import Derived.Test.YtjfhncnpmelopaaGreatDoorB21
import Derived.Test.YtjfhncnpmelopaaGreatDoorB15
import Derived.Test.YtjfhncnpmelopaaGreatDoorB16
import Derived.Test.YtjfhncnpmelopaaGreatDoorB04
import Derived.Test.YtjfhncnpmelopaaGreatDoorB14
import Derived.Test.YtjfhncnpmelopaaGreatDoorB17
set_option linter.unusedVariables false
set_option linter.unusedSimpArgs false
set_option linter.unusedSectionVars false
set_option linter.constructorNameAsVariable false
/- Mean of a matrix: less the mean, and the greatest sums of walks. -/
namespace Go.Sheet
def lessX (b : Best3) (x : Int) : Int := if x = noth then x else x * b.den - b.num
def lessM (m : IMat) (b : Best3) : IMat := (insideM m).map fun r => r.map (lessX b)
def topSweep : Nat → IMat → List Int → List Int
  | _, [], t => t
  | i, r :: rs, t => topSweep (i + 1) rs (t.set i (max (t.getD i 0) (timesR r t)))
def topIt (L : IMat) : Nat → List Int → List Int
  | 0, t => t
  | k + 1, t => topIt L k (topSweep 0 L t)
def topF (L : IMat) (n : Nat) : List Int := topIt L n (List.replicate n 0)
/-- sums of walks behind c changes -/
structure TopB (n c : Nat) (t : List Int) : Prop where
  len : t.length = n
  bd : ∀ x ∈ t, 0 ≤ x ∧ x ≤ 100000000000 * (c : Int)
theorem TopB.zero (n : Nat) : TopB n 0 (List.replicate n 0) := ⟨by simp, fun x hx => by rw [(List.mem_replicate.1 hx).2]; omega⟩
theorem TopB.mono {n c c' : Nat} {t : List Int} (h : TopB n c t) (hc : c ≤ c') : TopB n c' t := ⟨h.len, fun x hx => ⟨(h.bd x hx).1, by have := (h.bd x hx).2; omega⟩⟩
theorem times_le {n c : Nat} {t r : List Int} (h : TopB n c t) (hc : c ≤ 1000) (hr : ∀ x ∈ r, XB 100000000000 x) : timesR r t ≤ 100000000000 * ((c + 1 : Nat) : Int) := by
  have := timesF_bd (a := 100000000000) (b := 100000000000 * (c : Int)) (by omega) r t noth (.inl rfl) hr (fun y hy => .inr ⟨by have := h.bd y hy; omega, (h.bd y hy).2⟩)
  unfold timesR
  rcases this with h | h
  · rw [h]; unfold noth; omega
  · omega
theorem TopB.step {n c i : Nat} {t r : List Int} (h : TopB n c t) (hc : c ≤ 1000) (hr : ∀ x ∈ r, XB 100000000000 x) : TopB n (c + 1) (t.set i (max (t.getD i 0) (timesR r t))) := by
  refine ⟨by simp [h.len], fun x hx => ?_⟩
  rcases List.mem_or_eq_of_mem_set hx with hx | rfl
  · have := h.bd x hx; omega
  · have h1 := times_le h hc hr
    have h2 : 0 ≤ t.getD i 0 ∧ t.getD i 0 ≤ 100000000000 * (c : Int) := by
      rw [List.getD_eq_getElem?_getD]
      cases hi : t[i]? with
      | none => exact ⟨Int.le_refl _, by simp only [Option.getD_none]; omega⟩
      | some y => exact h.bd y (List.mem_of_getElem? hi)
    omega
theorem lessX_bd {b : Best3} {x : Int} (h : XB 999999999 x) (hn : -50000000000 ≤ b.num ∧ b.num ≤ 50000000000) (hd : 1 ≤ b.den ∧ b.den ≤ 24) : XB 100000000000 (lessX b x) := by
  unfold lessX
  split
  · rename_i h0; exact .inl h0
  · rename_i h0
    rcases h with h | h
    · exact absurd h h0
    · right
      obtain ⟨h1, h2⟩ := h
      rcases Int.le_total 0 x with hx | hx
      · have e1 := Int.mul_le_mul h2 hd.2 (by omega) (by omega)
        have e2 := Int.mul_nonneg hx (show 0 ≤ b.den by omega)
        omega
      · have e1 := Int.mul_le_mul (show -x ≤ 999999999 by omega) hd.2 (by omega) (by omega)
        have e2 := Int.mul_nonneg (show 0 ≤ -x by omega) (show 0 ≤ b.den by omega)
        rw [Int.neg_mul] at e1 e2
        omega
/-- the best mean has moderate parts -/
def B3Ok (b : Best3) : Prop := (-50000000000 ≤ b.num ∧ b.num ≤ 50000000000) ∧ 1 ≤ b.den ∧ b.den ≤ 24
theorem lessM_sq {n : Nat} {m : IMat} {b : Best3} (h : SqOk n 999999999 (insideM m)) (hb : B3Ok b) : SqOk n 100000000000 (lessM m b) := by
  refine ⟨by rw [lessM, List.length_map]; exact h.n_eq, fun r hr => ?_, fun r hr x hx => ?_⟩
  · obtain ⟨s, hs, rfl⟩ := List.mem_map.1 hr
    rw [List.length_map]; exact h.len s hs
  · obtain ⟨s, hs, rfl⟩ := List.mem_map.1 hr
    obtain ⟨y, hy, rfl⟩ := List.mem_map.1 hx
    exact lessX_bd (h.bd s hs y hy) hb.1 hb.2
theorem insideM_sq {m : IMat} (h1 : m.length ≤ 24) (h : ∀ r ∈ insideM m, r.length = m.length ∧ ∀ x ∈ r, XB 999999999 x) : SqOk m.length 999999999 (insideM m) :=
  ⟨by simp [insideM], fun r hr => (h r hr).1, fun r hr => (h r hr).2⟩
/-- bounds of the parts of the best mean -/
theorem karpIn_bd {d : IMat} {n v : Nat} {s : Int × Int} (hd : ∀ i, i < n + 1 → XB 23999999976 (at2 d i v)) (h0 : at2 d n v ≠ noth) (hn : n ≤ 24) (hs : (-50000000000 ≤ s.1 ∧ s.1 ≤ 50000000000) ∧ 1 ≤ s.2 ∧ s.2 ≤ 24) :
    ∀ ks : List Nat, (∀ k ∈ ks, k < n) → (-50000000000 ≤ (karpIn d n v ks s).1 ∧ (karpIn d n v ks s).1 ≤ 50000000000) ∧ 1 ≤ (karpIn d n v ks s).2 ∧ (karpIn d n v ks s).2 ≤ 24 := by
  intro ks
  induction ks generalizing s with
  | nil => intro _; exact hs
  | cons k ks ih =>
    intro hk
    have hkn := hk k (List.mem_cons_self ..)
    rw [karpIn]
    refine ih ?_ fun j hj => hk j (List.mem_cons_of_mem _ hj)
    split
    · rename_i hc
      have h1 := hd n (by omega)
      have h2 := hd k (by omega)
      rcases h1 with h1 | h1
      · exact absurd h1 h0
      · rcases h2 with h2 | h2
        · exact absurd h2 hc.1
        · dsimp only; omega
    · exact hs
theorem karpF_bd {d : IMat} {n : Nat} (hd : ∀ i v, i < n + 1 → v < n → XB 23999999976 (at2 d i v)) (hz : ∀ v, v < n → at2 d 0 v = 0) (hn : n ≤ 24) :
    ∀ (vs : List Nat) (b : Best3), (∀ v ∈ vs, v < n) → B3Ok b → B3Ok (karpF d n vs b)
  | [], b, _, h => h
  | v :: vs, b, hv, h => by
    have hvn := hv v (List.mem_cons_self ..)
    rw [karpF]
    refine karpF_bd hd hz hn vs _ (fun j hj => hv j (List.mem_cons_of_mem _ hj)) ?_
    split
    · exact h
    · rename_i h0
      have hb := hd n v (by omega) hvn
      have hk := karpIn_bd (s := (at2 d n v - at2 d 0 v, n)) (fun i hi => hd i v hi hvn) h0 hn (by
        rw [hz v hvn]
        rcases hb with hb | hb
        · exact absurd hb h0
        · dsimp only; omega) (List.range' 1 (n - 1)) (fun k hk => by have := List.mem_range'_1.1 hk; omega)
      rw [karpUp]
      split
      · exact hk
      · exact h
theorem greatestF_bd {n : Nat} {m : IMat} (h : SqOk n 999999999 m) (hn : n ≤ 24) : B3Ok (greatestF m) := by
  rw [greatestF, h.n_eq]
  refine karpF_bd (fun i v hi hv => ?_) (fun v hv => ?_) hn _ _ (fun v hv => List.mem_range.1 hv) ⟨by dsimp only; omega, by dsimp only; omega, by dsimp only; omega⟩
  · have hl : v < (dRow m i).length := by rw [dRow_len, h.n_eq]; exact hv
    have h1 : at2 (walksT m (n + 1)) i v = (dRow m i).getD v 0 := by
      rw [at2, show (walksT m (n + 1)).getD i [] = dRow m i by rw [List.getD_eq_getElem?_getD, walksT_at hi, Option.getD_some]]
    rw [h1, List.getD_eq_getElem?_getD, List.getElem?_eq_getElem hl, Option.getD_some]
    have := dRow_bd h (by omega) (by omega) i (by omega) _ (List.getElem_mem hl)
    rcases this with h | h
    · exact .inl h
    · right
      have : 999999999 * (i : Int) ≤ 23999999976 := by omega
      omega
  · rw [at2, show (walksT m (n + 1)).getD 0 [] = dRow m 0 by rw [List.getD_eq_getElem?_getD, walksT_at (by omega), Option.getD_some], dRow, List.getD_eq_getElem?_getD, List.getElem?_replicate, h.n_eq, if_pos hv]; rfl
/-- a row whose first j numbers are less the mean -/
def lessP (b : Best3) (r : List Int) (j : Nat) : List Int := (r.take j).map (lessX b) ++ r.drop j
theorem lessP_len (b : Best3) (r : List Int) (j : Nat) : (lessP b r j).length = r.length := by
  simp only [lessP, List.length_append, List.length_map, List.length_take, List.length_drop]; omega
theorem lessP_at {b : Best3} {r : List Int} {j : Nat} {x : Int} (h : r[j]? = some x) : (lessP b r j)[j]? = some x := by
  have hj := (List.getElem?_eq_some_iff.1 h).1
  have hl : ((r.take j).map (lessX b)).length = j := by rw [List.length_map, List.length_take]; omega
  rw [lessP, List.getElem?_append_right (by omega), hl, Nat.sub_self, List.getElem?_drop, Nat.add_zero, h]
theorem lessP_set {b : Best3} {r : List Int} {j : Nat} {x : Int} (h : r[j]? = some x) : (lessP b r j).set j (lessX b x) = lessP b r (j + 1) := by
  have hj := (List.getElem?_eq_some_iff.1 h).1
  have e : r.drop j = x :: r.drop (j + 1) := drop_at h
  have hl : ((r.take j).map (lessX b)).length = j := by rw [List.length_map, List.length_take]; omega
  rw [lessP, List.set_append_right _ _ (by omega), hl, Nat.sub_self, e, List.set_cons_zero, lessP, take_at h, List.map_append, List.append_assoc]; rfl
theorem lessP_keep {b : Best3} {r : List Int} {j : Nat} (h : r[j]? = some noth) : lessP b r (j + 1) = lessP b r j := by
  have h1 := lessP_set (b := b) h
  rw [show lessX b noth = noth by simp [lessX]] at h1
  have h2 := lessP_at (b := b) h
  rw [← h1]
  refine List.ext_getElem? fun i => ?_
  by_cases e : j = i
  · subst e; rw [List.getElem?_set_self (List.getElem?_eq_some_iff.1 h2).1, h2]
  · rw [List.getElem?_set_ne e]
theorem lessP_end (b : Best3) (r : List Int) : lessP b r r.length = r.map (lessX b) := by simp [lessP]
theorem lessP_zero (b : Best3) (r : List Int) : lessP b r 0 = r := by simp [lessP]
/-- the matrix whose first k rows are less the mean -/
def lessT (b : Best3) (I : IMat) (k : Nat) : IMat := (I.take k).map (fun r => r.map (lessX b)) ++ I.drop k
theorem lessT_len (b : Best3) (I : IMat) (k : Nat) : (lessT b I k).length = I.length := by
  simp only [lessT, List.length_append, List.length_map, List.length_take, List.length_drop]; omega
theorem lessT_at {b : Best3} {I : IMat} {k : Nat} {r : List Int} (h : I[k]? = some r) : (lessT b I k)[k]? = some r := by
  have hj := (List.getElem?_eq_some_iff.1 h).1
  have hl : ((I.take k).map (fun r => r.map (lessX b))).length = k := by rw [List.length_map, List.length_take]; omega
  rw [lessT, List.getElem?_append_right (by omega), hl, Nat.sub_self, List.getElem?_drop, Nat.add_zero, h]
theorem lessT_set {b : Best3} {I : IMat} {k : Nat} {r : List Int} (h : I[k]? = some r) : (lessT b I k).set k (r.map (lessX b)) = lessT b I (k + 1) := by
  have hj := (List.getElem?_eq_some_iff.1 h).1
  have e : I.drop k = r :: I.drop (k + 1) := drop_at h
  have hl : ((I.take k).map (fun r => r.map (lessX b))).length = k := by rw [List.length_map, List.length_take]; omega
  rw [lessT, List.set_append_right _ _ (by omega), hl, Nat.sub_self, e, List.set_cons_zero, lessT, take_at h, List.map_append, List.append_assoc]; rfl
theorem lessT_zero (b : Best3) (I : IMat) : lessT b I 0 = I := by simp [lessT]
theorem lessT_end (b : Best3) (m : IMat) : lessT b (insideM m) (insideM m).length = lessM m b := by simp [lessT, lessM]
end Go.Sheet
/- Walks: Mean. -/
namespace Go.Sheet
open Go.RowKit Go.Mem
theorem ownT_set {e : TypeId} {vs : List Value} {M : IMat} {k : Nat} {x : Value} {r : List Int} (hx : vs[k]? = some x) : (ownT e vs M).set k (row e 1 x r.length (ints r)) = ownT e vs (M.set k r) := by
  refine List.ext_getElem? fun i => ?_
  by_cases h : k = i
  · subst h
    by_cases hk : k < M.length
    · rw [List.getElem?_set_self (by rw [ownT, List.length_map, List.length_zip]; have := (List.getElem?_eq_some_iff.1 hx).1; omega), ownT_at hx (by rw [List.getElem?_set_self hk])]
    · rw [List.getElem?_eq_none (by rw [List.length_set, ownT, List.length_map, List.length_zip]; omega), List.getElem?_eq_none (by rw [ownT, List.length_map, List.length_zip, List.length_set]; omega)]
  · rw [List.getElem?_set_ne h]
    simp only [ownT, List.getElem?_map]
    congr 1
    simp only [List.zip, List.getElem?_zipWith, List.getElem?_set_ne h]
end Go.Sheet
namespace Go.Proofs.YtjfhncnpmelopaaGreatDoor
open Go.RowKit Go.Mem Go.Sheet
/-- how Mean ends; t: the text of the mean -/
def RetMean (W : World) (m : IMat) (t : ByteArray) (e : Ending) (w' : World) : Prop :=
  Below W.heap.size W w' ∧ ((matE m ≠ 0 ∧ e = .returned (.tuple #[.string ⟨#[]⟩, .slice none 0 0, .int .i64 (matE m)])) ∨
    (matE m = 0 ∧ (greatestF (insideM m)).found = false ∧ e = .returned (.tuple #[.string ⟨#[]⟩, .slice none 0 0, .int .i64 7])) ∨
    (matE m = 0 ∧ (greatestF (insideM m)).found = true ∧ ∃ v', e = .returned (.tuple #[.string t, v', .int .i64 0]) ∧
      Rd w' (· < w'.heap.size) 1 v' (tightF (lessM m (greatestF (insideM m))) (topF (lessM m (greatestF (insideM m))) m.length)).length (ints (tightF (lessM m (greatestF (insideM m))) (topF (lessM m (greatestF (insideM m))) m.length)))))
set_option maxRecDepth 100000 in
set_option maxHeartbeats 4000000 in
theorem mean_any (W : World) (v : Value) (m : IMat) (t : ByteArray) (h : RdRows W (· < W.heap.size) v m)
    (hOf : matE m = 0 → (greatestF (insideM m)).found = true → ∀ w, Below W.heap.size W w → Calls Tryz.prog 112 #[.int .i64 (greatestF (insideM m)).num, .int .i64 (greatestF (insideM m)).den] w fun e w' => e = .returned (.tuple #[.string t, .int .i64 0]) ∧ Below w.heap.size w w') :
    Calls Tryz.prog 47 #[v] W (RetMean W m t) := by
  have HM := Lib.hid (checkMatrix_any W v m h)
  have HH := Lib.hid h
  obtain ⟨vs0, h1, h2⟩ := h
  obtain ⟨A, c, rfl, _, _, _⟩ := h1.open_
  have hml := h1.le
  clear h1 h2
  generalize HNM : m.length = n at *
  have HN := Lib.hid HNM
  clear HNM
  go_enter Tryz.func47, Tryz.ntmps47
  go_wp2_with fail
  refine HM.out.mono ?_
  rintro e w2 ⟨rfl, hb2⟩
  clear HM
  by_cases h0 : matE m ≠ 0
  · have h0b : (matE m != 0) = true := by simpa using h0
    have H0 := Lib.hid h0
    clear h0
    generalize hME : matE m = E at *
    have HME := Lib.hid hME
    clear hME
    go_wp2
    go_ret3
    exact ⟨hb2, .inl ⟨by rw [HME.out]; exact H0.out, by rw [HME.out]; rfl⟩⟩
  · have h00 : matE m = 0 := by omega
    have H0 := Lib.hid h00
    have hok := matE_ok h00
    have hn24 : n ≤ 24 := by rw [← HN.out]; exact hok.1
    have hsq := insideM_sq hok.1 (insideM_ok h00)
    rw [HN.out] at hsq
    have HSQ := Lib.hid hsq
    have HIN := Lib.hid (fun w (hb : Below W.heap.size W w) => inside_any w _ m (HH.out.later hb) (by rw [HN.out]; omega) (fun r hr => by rw [(hok.2 r hr).1, HN.out]; omega))
    have HOF := Lib.hid (hOf h00)
    have h0b : (matE m != 0) = false := by simpa using h00
    have HB3 := Lib.hid (greatestF_bd hsq hn24)
    clear h0 hok hsq hOf h00
    generalize hME : matE m = E at *
    have HME := Lib.hid hME
    clear hME
    go_wp2_with fail
    refine (HIN.out w2 hb2).mono ?_
    rintro e w3 ⟨v3, vs3, rfl, hvs3, S3⟩
    have hr3 := ownT_rows S3 (k := 0) rfl (by rw [insideM_len]; exact hvs3)
    have hb3 := hb2.trans (S3.bel.mono hb2.size)
    have HG := Lib.hid (greatest_any w3 v3 (insideM m) n hr3 HSQ.out hn24)
    clear S3 hr3 hvs3
    go_wp2_with fail
    refine HG.out.mono ?_
    rintro e w4 ⟨rfl, hb4'⟩
    have hb4 := hb3.trans (hb4'.mono hb3.size)
    clear HG hb4' hb3 hb2
    generalize hGF : greatestF (insideM m) = GF at *
    have HGF := Lib.hid hGF
    clear hGF
    obtain ⟨num, den, found⟩ := GF
    dsimp only at HOF
    cases found with
    | false =>
      go_wp2
      go_ret3
      exact ⟨hb4, .inr (.inl ⟨by rw [HME.out]; exact H0.out, by rw [HGF.out], rfl⟩)⟩
    | true =>
      have HOF2 := Lib.hid (HOF.out rfl)
      have HB4 := Lib.hid hb4
      have hnum := HB3.out.1
      have hden := HB3.out.2
      dsimp only at hnum hden
      clear HOF
      go_wp2_with fail
      refine (HIN.out w4 hb4).mono ?_
      rintro e w5 ⟨v5, vs, rfl, hvs, S5⟩
      clear hb4 HIN
      rw [HN.out] at hvs S5
      have HV := Lib.hid hvs
      obtain ⟨A5, c5, rfl, _, _, _⟩ := (S5.row_rd (i := 0) rfl).open_
      have S6 := (S5.row_nil 33 1).perm (L' := [row 33 1 (.slice none 0 0) 0 []] ++ ([row 33 1 (.slice A5 n c5) n vs] ++ ownT 3 vs (insideM m))) List.perm_append_comm
      have HS6 := Lib.hid S6
      clear S5 S6 hvs
      go_wp2_with fail
      go_loopw [36, 9] (fun idx vl w' => ∃ k : Nat, k ≤ n ∧ idx = .int .i64 k ∧ St w4 w' ([row 33 1 vl k (vs.take k)] ++ ([row 33 1 (.slice A5 n c5) n vs] ++ ownT 3 vs (lessT ⟨num, den, true⟩ (insideM m) k)))) (fun idx _ _ => n - (intOf idx).toNat)
      case atStart => exact ⟨0, Nat.zero_le _, rfl, by rw [lessT_zero]; exact HS6.out⟩
      case round =>
        obtain ⟨k, hk, rfl, S⟩ := hrel
        clear HS6
        by_cases hlt : k < n
        · have hkI : k < (insideM m).length := by rw [insideM_len, HN.out]; exact hlt
          have hr : (insideM m)[k]? = some (insideM m)[k] := List.getElem?_eq_getElem hkI
          have hrl := HSQ.out.len _ (List.getElem_mem hkI)
          have hrb := HSQ.out.bd _ (List.getElem_mem hkI)
          have HTS := Lib.hid (lessT_set (b := ⟨num, den, true⟩) hr)
          have HTA := Lib.hid (lessT_at (b := ⟨num, den, true⟩) hr)
          generalize (insideM m)[k] = r at *
          have hkv : k < vs.length := by rw [HV.out]; exact hlt
          have hx : vs[k]? = some vs[k] := List.getElem?_eq_getElem hkv
          have HXV := Lib.hid hx
          have HTK := Lib.hid (take_at hx)
          obtain ⟨b5, cap5, hv5, _, _, _, hc5, _⟩ := S.row_form (i := 1) rfl (by omega)
          cases hv5
          have k1 := hc5 k (by omega)
          rw [hx] at k1
          have hidx : ∀ (M : IMat) (rr : List Int), M[k]? = some rr → ([row 33 1 u9 k (vs.take k)] ++ ([row 33 1 (.slice (some ⟨b5, 0, none⟩) n c5) n vs] ++ ownT 3 vs M))[2 + k]? = some (row 3 1 vs[k] rr.length (ints rr)) := by
            intro M rr hM
            show ([row 33 1 u9 k (vs.take k), row 33 1 (.slice (some ⟨b5, 0, none⟩) n c5) n vs] ++ ownT 3 vs M)[2 + k]? = _
            rw [List.getElem?_append_right (by simp), show 2 + k - [row 33 1 u9 k (vs.take k), row 33 1 (.slice (some ⟨b5, 0, none⟩) n c5) n vs].length = k by simp]
            exact ownT_at hx hM
          have hn0 : 0 < r.length := by rw [hrl]; omega
          obtain ⟨gx, capx, hvx, _, _, _, _, _⟩ := S.row_form (hidx _ _ HTA.out) hn0
          rw [hrl] at hvx
          rw [hvx] at k1
          rw [hvx] at HXV HTK hidx
          have HIDX := Lib.hid hidx
          have HRB := Lib.hid hrb
          have HRL := Lib.hid hrl
          have hS0 : St w4 wr ([row 33 1 u9 k (vs.take k)] ++ ([row 33 1 (.slice (some ⟨b5, 0, none⟩) n c5) n vs] ++ ownT 3 vs ((lessT ⟨num, den, true⟩ (insideM m) k).set k (lessP ⟨num, den, true⟩ r 0)))) := by
            rw [lessP_zero, set_same HTA.out]; exact S
          have HS0 := Lib.hid hS0
          clear hr hrl hrb hx hc5 hidx hvx hkv hkI S hS0 hn0
          go_wp2_with fail
          go_loopw [42] (fun idx w' => ∃ j : Nat, j ≤ n ∧ idx = .int .i64 j ∧ St w4 w' ([row 33 1 u9 k (vs.take k)] ++ ([row 33 1 (.slice (some ⟨b5, 0, none⟩) n c5) n vs] ++ ownT 3 vs ((lessT ⟨num, den, true⟩ (insideM m) k).set k (lessP ⟨num, den, true⟩ r j))))) (fun idx _ => n - (intOf idx).toNat)
          case atStart => exact ⟨0, Nat.zero_le _, rfl, HS0.out⟩
          case round =>
            obtain ⟨j, hj, rfl, S⟩ := hrel
            clear HS0
            by_cases hjl : j < n
            · have hjr : j < r.length := by rw [HRL.out]; exact hjl
              have hy : r[j]? = some r[j] := List.getElem?_eq_getElem hjr
              have hyb := HRB.out _ (List.getElem_mem hjr)
              have HPA := Lib.hid (lessP_at (b := ⟨num, den, true⟩) hy)
              have HPS := Lib.hid (lessP_set (b := ⟨num, den, true⟩) hy)
              have HPK := fun (h0 : r[j] = noth) => lessP_keep (b := ⟨num, den, true⟩) (hy.trans (congrArg some h0))
              have HPK := Lib.hid HPK
              generalize r[j] = y at *
              have hkl : k < (lessT ⟨num, den, true⟩ (insideM m) k).length := by rw [lessT_len, insideM_len, HN.out]; exact hlt
              have HMk : ∀ rr : List Int, ((lessT ⟨num, den, true⟩ (insideM m) k).set k rr)[k]? = some rr := fun rr => List.getElem?_set_self hkl
              have hrow := HIDX.out _ _ (HMk (lessP ⟨num, den, true⟩ r j))
              rw [lessP_len, HRL.out] at hrow
              obtain ⟨gx', capx', hvx', _, _, _, hcell, hfz⟩ := S.row_form hrow (by omega)
              cases hvx'
              have e1 := hcell j (by omega)
              rw [ints, List.getElem?_map, HPA.out] at e1
              simp only [Option.map_some] at e1
              have e2 := hfz j
              have HROW := Lib.hid hrow
              have HS := Lib.hid S
              clear hy hjr hcell hfz hrow S hkl HMk
              by_cases h1 : y = noth
              · have h1b : (y != -1125899906842624) = false := by rw [h1]; rfl
                have HK2 := Lib.hid (HPK.out h1)
                clear h1 hyb
                go_wp2
                go_roundw
                case rel => exact ⟨j + 1, by omega, by go_num, by rw [HK2.out]; exact HS.out⟩
                case measure => simp [intOf]; omega
              · have h1b : (y != -1125899906842624) = true := by simp only [bne_iff_ne, ne_eq]; exact h1
                have hyb2 : -999999999 ≤ y ∧ y ≤ 999999999 := by
                  rcases hyb with h | h
                  · exact absurd h h1
                  · exact h
                have hLX : lessX ⟨num, den, true⟩ y = y * den - num := by rw [lessX, if_neg h1]
                have hm1 := mul_bd (a := y) (b := den) (A := 999999999) (B := 24) (by omega) (by omega)
                have hw1 : IntKind.i64.wrap (y * den) = y * den := IntWalk.i64_in _ (by omega)
                have S2 := HS.out.row_set HROW.out j (.int .i64 (y * den - num))
                have S3 : St w4 (wr.setCell ⟨gx, j, none⟩ (.int .i64 (y * den - num))) ([row 33 1 u9 k (vs.take k)] ++ ([row 33 1 (.slice (some ⟨b5, 0, none⟩) n c5) n vs] ++ ownT 3 vs ((lessT ⟨num, den, true⟩ (insideM m) k).set k (lessP ⟨num, den, true⟩ r (j + 1))))) := by
                  have e9 : row 3 1 (.slice (some ⟨gx, 0, none⟩) n capx) n ((ints (lessP ⟨num, den, true⟩ r j)).set j (.int .i64 (y * den - num))) = row 3 1 (.slice (some ⟨gx, 0, none⟩) n capx) (lessP ⟨num, den, true⟩ r (j + 1)).length (ints (lessP ⟨num, den, true⟩ r (j + 1))) := by
                    rw [lessP_len, HRL.out, ← HPS.out, hLX, ints, ints, List.map_set]
                  rw [e9] at S2
                  have e10 : ∀ (M : IMat) (a b : Asr), ([a] ++ ([b] ++ ownT 3 vs M)).set (2 + k) (row 3 1 (.slice (some ⟨gx, 0, none⟩) n capx) (lessP ⟨num, den, true⟩ r (j + 1)).length (ints (lessP ⟨num, den, true⟩ r (j + 1)))) = [a] ++ ([b] ++ ownT 3 vs (M.set k (lessP ⟨num, den, true⟩ r (j + 1)))) := by
                    intro M a b
                    rw [← ownT_set HXV.out, show 2 + k = k + 1 + 1 by omega]; rfl
                  rw [e10, List.set_set] at S2
                  exact S2
                have HS3 := Lib.hid S3
                have hs1 : IntKind.i64.wrap (y * den - num) = y * den - num := IntWalk.i64_in _ (by omega)
                clear h1 hyb hLX S2 S3
                generalize hyd : y * den = yd at *
                generalize hyn : yd - num = ydn at *
                go_wp2
                go_roundw
                case rel => exact ⟨j + 1, by omega, by go_num, HS3.out⟩
                case measure => simp [intOf]; omega
            · have hjb : decide ((j : Int) < n) = false := by simp; omega
              obtain rfl : j = n := by omega
              rw [show lessP ⟨num, den, true⟩ r j = r.map (lessX ⟨num, den, true⟩) by rw [← HRL.out, lessP_end], HTS.out] at S
              have HS := Lib.hid S
              clear S
              go_wp2_with (at_builtin; refine wpList_append_st eltL rfl _ _ rfl rfl (HS.out.alloc _) (k := 0) rfl rfl (rd_one (by simp)) one_slice (by omega) (by omega) ?_; intro v' w' S' _)
              have S6 : St w4 w' ([row 33 1 v' (k + 1) (vs.take (k + 1))] ++ ([row 33 1 (.slice (some ⟨b5, 0, none⟩) j c5) j vs] ++ ownT 3 vs (lessT ⟨num, den, true⟩ (insideM m) (k + 1)))) := by
                rw [HTK.out]; exact S'
              have HS6 := Lib.hid S6
              clear S' S6
              go_roundw
              case rel => exact ⟨k + 1, by omega, by go_num, HS6.out⟩
              case measure => simp [intOf]; omega
        · have hkb : decide ((k : Int) < n) = false := by simp; omega
          obtain rfl : k = n := by omega
          have hLQ := lessM_sq HSQ.out (b := ⟨num, den, true⟩) ⟨hnum, hden⟩
          rw [show lessT ⟨num, den, true⟩ (insideM m) k = lessM m ⟨num, den, true⟩ by rw [← lessT_end, insideM_len, HN.out], List.take_of_length_le (by rw [HV.out]; exact Nat.le_refl _)] at S
          have hBW : Below W.heap.size W wr := HB4.out.trans (S.bel.mono HB4.out.size)
          obtain ⟨A9, c9, rfl, _, _, _⟩ := (S.row_rd (i := 0) rfl).open_
          have hRR := ownT_rows (L := [row 33 1 (.slice A9 k c9) k vs, row 33 1 (.slice A5 k c5) k vs]) S (k := 0) rfl (by rw [HV.out, hLQ.n_eq])
          have HBW := Lib.hid hBW
          have HRR := Lib.hid hRR
          have HLQ := Lib.hid hLQ
          generalize hLM : lessM m ⟨num, den, true⟩ = LM at *
          have HLM := Lib.hid hLM
          clear hLM hBW hRR hLQ S
          have HLN := Lib.hid HLQ.out.n_eq
          generalize hTT : topF LM k = TT at *
          have HTT := Lib.hid hTT
          clear hTT
          generalize wr = wb at *
          go_wp2_with (refine wpList_make_st eltI rfl _ _ rfl (n := k) rfl rfl (St.refl _) (by omega) (by omega) ?_; intro w6 g S6 _ _)
          have hz : (madeCells (Value.int .i64 0).cells (k * 1)).toList = ints (List.replicate k 0) := by
            show (madeCells #[.int .i64 0] (k * 1)).toList = _
            rw [toList_madeCells_one, ints]; simp
          rw [hz, List.nil_append] at S6
          have HS6 := Lib.hid S6
          clear hz S6
          go_loopw [68] (fun idx w' => ∃ (i c : Nat) (t : List Int), i ≤ k ∧ idx = .int .i64 i ∧ c ≤ i * 24 ∧ St wb w' [row 3 1 (.slice (some ⟨g, 0, none⟩) k k) k (ints t)] ∧ Hid (TopB k c t) ∧ Hid (topIt LM (k - i) t = TT)) (fun idx _ => k - (intOf idx).toNat)
          case atStart => exact ⟨0, 0, _, Nat.zero_le _, rfl, by omega, HS6.out, TopB.zero k, HTT.out⟩
          case round =>
            obtain ⟨i, c, t, hi, rfl, hc, S, HTB, HIT⟩ := hrel
            clear HS6
            by_cases hil : i < k
            · have HIT2 : Hid (topIt LM (k - (i + 1)) (topSweep 0 LM t) = TT) := by
                have := HIT.out
                rw [show k - i = (k - (i + 1)) + 1 by omega, topIt] at this
                exact this
              generalize hSW : topSweep 0 LM t = SW at *
              have HSW := Lib.hid hSW
              have HS := Lib.hid S
              clear hSW S HIT
              go_wp2_with fail
              go_loopw [72] (fun idx w' => ∃ (j c' : Nat) (t' : List Int), j ≤ k ∧ idx = .int .i64 j ∧ c' ≤ i * 24 + j ∧ St wb w' [row 3 1 (.slice (some ⟨g, 0, none⟩) k k) k (ints t')] ∧ Hid (TopB k c' t') ∧ Hid (topSweep j (LM.drop j) t' = SW)) (fun idx _ => k - (intOf idx).toNat)
              case atStart => exact ⟨0, c, t, Nat.zero_le _, rfl, by omega, HS.out, HTB, HSW.out⟩
              case round =>
                obtain ⟨j, c', t', hj, rfl, hc', S, HTB', HSW'⟩ := hrel
                clear HS HTB HSW
                by_cases hjl : j < k
                · have hjm : j < LM.length := by rw [HLN.out]; exact hjl
                  have hr : LM[j]? = some LM[j] := List.getElem?_eq_getElem hjm
                  have hrl := HLQ.out.len _ (List.getElem_mem hjm)
                  have hrb := HLQ.out.bd _ (List.getElem_mem hjm)
                  have HG : Hid (topSweep (j + 1) (LM.drop (j + 1)) (t'.set j (max (t'.getD j 0) (timesR LM[j] t'))) = SW) := by
                    have := HSW'.out
                    rw [drop_at hr, topSweep] at this
                    exact this
                  generalize LM[j] = r at *
                  obtain ⟨vs9, t1, t2⟩ := HRR.out.later S.bel
                  rw [HLN.out] at t1
                  obtain ⟨b9, o9, x9, hA, hx9, k1⟩ := t1.val hjl
                  subst hA
                  have hrd := t2 j x9 r hx9 hr
                  rw [hrl] at hrd
                  obtain ⟨Ar, cr, rfl, _, _, _⟩ := hrd.open_
                  have htl := HTB'.out.len
                  have hjt : j < t'.length := by omega
                  have hgd : t'.getD j 0 = t'[j] := by rw [List.getD_eq_getElem?_getD, List.getElem?_eq_getElem hjt, Option.getD_some]
                  rw [hgd] at HG
                  have hxb := HTB'.out.bd _ (List.getElem_mem hjt)
                  obtain ⟨g2, cap2, hv2, _, _, hg2, hc2, hf2⟩ := S.row_form (i := 0) rfl (by omega)
                  cases hv2
                  have e1 := hc2 j (by omega)
                  rw [ints, List.getElem?_map, List.getElem?_eq_getElem hjt] at e1
                  simp only [Option.map_some] at e1
                  have htop := S.row_rd (i := 0) rfl
                  have HTM := Lib.hid (fun w (hb : Below wr.heap.size wr w) => times_any w _ _ (.slice Ar k cr) (.slice (some ⟨g, 0, none⟩) k k) r t' 100000000000 (100000000000 * (c' : Int)) (by rw [hrl]; exact hrd.later hb) (by rw [htl]; exact (htop.mono (S' := (· < wr.heap.size)) fun _ hb _ => hb).later hb) (by omega) hrb (fun y hy => .inr ⟨by have := HTB'.out.bd y hy; omega, (HTB'.out.bd y hy).2⟩) (by omega) (by omega) (by omega))
                  have HTB2 : Hid (TopB k (c' + 1) (t'.set j (max (t'.getD j 0) (timesR r t')))) := HTB'.out.step (by omega) hrb
                  rw [hgd] at HTB2
                  generalize t'[j] = y at *
                  generalize timesR r t' = tv at *
                  have hmx : (if y < tv then tv else y) = max y tv := max_if _ _
                  generalize hMX : max y tv = mx at *
                  have l1 := World.block_lt_of_cell? wr _ e1
                  have HS := Lib.hid S
                  have HMX := Lib.hid hMX
                  clear hr hrl hrb hrd htl hgd t1 t2 hx9 htop hc2 S hMX hjm
                  go_wp2_with fail
                  refine wp_cls 12 (fun w' => Below wr.heap.size wr w') (by kernel_rfl) (by kernel_rfl) (Below.refl _ _).drew ?_
                  simp only [List.take_succ_cons, List.take_zero, List.drop_succ_cons, List.drop_zero]
                  have hK2 : ∀ w w' : World, Below wr.heap.size wr w → Below w.heap.size w w' → Below wr.heap.size wr w' := fun w w' h h' => h.trans (h'.mono h.size)
                  generalize hK : (fun w' => Below wr.heap.size wr w') = K
                  intro hne
                  have kb : ∀ y : Wd K, Below wr.heap.size wr y.w := by subst hK; exact fun y => y.h
                  have hK3 : ∀ w w' : World, K w → Below w.heap.size w w' → K w' := by subst hK; exact hK2
                  have y2 : ∀ z : Wd K, z.w.cell? ⟨g, j, none⟩ = some (.int .i64 y) := fun z => ((kb z).cell (p := ⟨g, j, none⟩) l1).trans e1
                  clear hK hK2
                  repeat (go_big_quiet_step ((first | (go_at_call 110; exact cls_below hK3 (plus_any _)) | (go_at_call 111; exact cls_below hK3 (HTM.out _ (kb _))))))
                  refine wpQuiet_nil ?_
                  intro z
                  have S1 := HS.out.ext (kb z)
                  have S2 := S1.row_set (i := 0) rfl j (.int .i64 mx)
                  obtain ⟨g3, cap3, hv3, _, _, _, hc3, hf3⟩ := S1.row_form (i := 0) rfl (by omega)
                  cases hv3
                  have f1 := hf3 j
                  have f2 := y2 z
                  have S3 : St wb (z.w.setCell ⟨g, j, none⟩ (.int .i64 mx)) [row 3 1 (.slice (some ⟨g, 0, none⟩) k k) k (ints (t'.set j mx))] := by
                    rw [ints, List.map_set]; exact S2
                  have HS3 := Lib.hid S3
                  clear kb hK3 y2 hne S1 S2 S3 hc3 hf3
                  generalize z.w = wz at *
                  go_wp2
                  go_roundw
                  case rel => exact ⟨j + 1, c' + 1, _, by omega, by go_num, by omega, by rw [HMX.out]; exact HS3.out, HTB2, HG⟩
                  case measure => simp [intOf]; omega
                · have hjb : decide ((j : Int) < k) = false := by simp; omega
                  obtain rfl : j = k := by omega
                  have HE : Hid (t' = SW) := by
                    have := HSW'.out
                    rw [List.drop_of_length_le (by rw [HLN.out]; exact Nat.le_refl _), topSweep] at this
                    exact this
                  have HS := Lib.hid S
                  clear S
                  go_wp2
                  go_roundw
                  case rel => exact ⟨i + 1, c', t', by omega, by go_num, by omega, HS.out, HTB', by rw [HE.out]; exact HIT2.out⟩
                  case measure => simp [intOf]; omega
            · have hib : decide ((i : Int) < k) = false := by simp; omega
              obtain rfl : i = k := by omega
              have HE : Hid (t = TT) := by
                have := HIT.out
                rw [Nat.sub_self, topIt] at this
                exact this
              have HBR := Lib.hid (HBW.out.trans (S.bel.mono HBW.out.size))
              have htl := HTB.out.len
              have hn24' := hn24
              have HTI := Lib.hid (fun w (hb : Below wr.heap.size wr w) => tight_any w _ _ LM t i ((HRR.out.later S.bel).later hb) (((S.row_rd (i := 0) rfl).mono (S' := (· < wr.heap.size)) fun _ hb _ => hb).later hb) HLQ.out htl hn24 (fun x hx => by have := HTB.out.bd x hx; omega))
              clear S htl
              go_wp2_with fail
              refine (HOF2.out wr HBR.out).mono ?_
              rintro e w10 ⟨rfl, hb10⟩
              go_wp2_with fail
              refine (HTI.out w10 hb10).mono ?_
              rintro e w11 ⟨v11, rfl, hb11, hrd11⟩
              obtain ⟨A11, c11, rfl, _, _, _⟩ := hrd11.open_
              have HRES : Hid (Below W.heap.size W w11) := (HBR.out.trans (hb10.mono HBR.out.size)).trans (hb11.mono (HBR.out.trans (hb10.mono HBR.out.size)).size)
              have HR11 := Lib.hid hrd11
              clear hb10 hb11 hrd11
              go_wp2
              go_ret3
              refine ⟨HRES.out, .inr (.inr ⟨by rw [HME.out]; exact H0.out, by rw [HGF.out], _, rfl, ?_⟩)⟩
              rw [HGF.out, HLM.out, HN.out, HTT.out, ← HE.out]
              exact HR11.out
end Go.Proofs.YtjfhncnpmelopaaGreatDoor
/- The small example that awake tries: what the plain functions answer there. -/
namespace Go.Sheet
def rq0 : List RQ := [⟨[97, 110, 110], false, ws0⟩, ⟨[98, 101, 110], false, ws1⟩, ⟨[99, 97, 116], true, ws2⟩]
/-- the first request's first wish is dropped, and it is guaranteed -/
def rq1 : List RQ := [⟨[97, 110, 110], true, [⟨1, 3⟩]⟩, ⟨[98, 101, 110], false, ws1⟩, ⟨[99, 97, 116], true, ws2⟩]

def pc0 : PC := ⟨[0, 5], [[10, 12], [10, 12]], [1, 1]⟩
theorem awake_starts : starts 480 500 10 2 = ([⟨480, 1, 2⟩, ⟨490, 1, 2⟩, ⟨500, 1, 2⟩], 0) := by decide +kernel
theorem awake_daylight : daylight slots0 485 800 240 = ([1], 0) := by decide +kernel
theorem awake_withdraw : withdraw slots0 rq0 [0, -1, 1] 0 = ([-1, 0, 1], 0) := by decide +kernel
theorem awake_excluded : excluded slots0 rq1 = ([0, 2], 0) := by decide +kernel
theorem awake_ends : ends pc0 = ([[10, 22], [20, 34]], 0) := by decide +kernel
theorem awake_delays : delays pc0 = ([0, 7], 0) := by decide +kernel
theorem awake_bottleneck : bottleneck pc0 = ((0, 5), 0) := by decide +kernel
theorem awake_holes : holes [10, 12] = ([[10, NONE], [22, 12]], 0) := by decide +kernel
theorem awake_apply : applyM [[10, NONE], [22, 12]] [10, 22] = ([20, 34], 0) := by decide +kernel
theorem awake_mat : matE [[10, NONE], [22, 12]] = 0 := by decide +kernel
theorem awake_greatest : greatestF (insideM [[10, NONE], [22, 12]]) = ⟨12, 1, true⟩ := by decide +kernel
theorem awake_tight : tightF (lessM [[10, NONE], [22, 12]] ⟨12, 1, true⟩) (topF (lessM [[10, NONE], [22, 12]] ⟨12, 1, true⟩) 2) = [1] := by decide +kernel
theorem awake_proof : checkProof slots0 rq0 6 ⟨[1, 0, -1], [4, 2]⟩ = 0 := by decide +kernel
theorem awake_best : best slots0 rq0 = (6, 0) := by decide +kernel
theorem awake_assign : assign slots0 rq0 = ([0, -1, 1], 0) := by decide +kernel
theorem awake_most : most slots0 rq0 = (2, 0) := by decide +kernel
end Go.Sheet
