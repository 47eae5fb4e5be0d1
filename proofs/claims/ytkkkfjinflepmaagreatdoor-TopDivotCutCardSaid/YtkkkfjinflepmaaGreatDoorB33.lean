/- Part 33 of the walks of the golf union's program: DN2, DN2h, DR1. -/
import Derived.Test.YtkkkfjinflepmaaGreatDoorB24
import Derived.Test.YtkkkfjinflepmaaGreatDoorB32
import Derived.BigQuiet
import Derived.Deep.Cut
import Derived.OwnWalk
set_option linter.unusedVariables false
set_option linter.unusedSimpArgs false
set_option linter.unusedSectionVars false
set_option linter.constructorNameAsVariable false
/- TopDivotMatches: the matches of a field; lists of names that are only read. -/
namespace Go.Mem
open Go.RowKit
theorem Sep.perm5 {L L' : List Asr} (h : L.Perm L') : ∀ {w : World} {F : Nat → Prop}, Sep L w F → Sep L' w F := by
  induction h with
  | nil => intros; trivial
  | cons A _ ih => rintro w F ⟨F1, h1, h2, h3⟩; exact ⟨F1, h1, h2, ih h3⟩
  | swap A B L =>
    rintro w F ⟨F1, h1, h2, F2, g1, g2, g3⟩
    exact ⟨F2, fun b hb => (g1 b hb).1, g2, F1, fun b hb => ⟨h1 b hb, fun h => (g1 b h).2 hb⟩, h2, g3.mono fun b ⟨⟨a, c⟩, d⟩ => ⟨⟨a, d⟩, c⟩⟩
  | trans _ _ ih1 ih2 => intro w F h; exact ih2 (ih1 h)
theorem St.perm5 {W w : World} {L L' : List Asr} (h : St W w L) (hp : L.Perm L') : St W w L' := ⟨h.1, Sep.perm5 hp h.2⟩
theorem row_holds_rd5 {w : World} {F : Nat → Prop} {e : TypeId} {size n : Nat} {v : Value} {xs : List Value} (h : (row e size v n xs).holds w F) : Rd w F size v n xs := by
  obtain ⟨ho, hF⟩ := h
  have hc := @World.ownsRow.cells _ _ _ _ _ _ _ ho
  have hl := ho.lt
  rcases ho.2 with ⟨rfl, rfl⟩ | ⟨g, cap, cur, rfl, hb, hg, h1, h2, r⟩
  · exact ⟨none, 0, rfl, Nat.le_refl _, Nat.zero_le _, (by have := ho.1; simpa using this), (fun _ => rfl), (fun h => absurd h (by omega))⟩
  · exact ⟨_, cap, rfl, h1, h2, ho.1, (fun h => by cases h), fun _ => ⟨g, 0, rfl, hF g rfl, (hl g rfl).2, fun j u hu => by have := hc (g := g) rfl j u hu; rwa [Addr.add_lit] at this⟩⟩
theorem St.merge5 {W w : World} {A B C : Asr} {L : List Asr} (h : St W w (L ++ [A, B])) (hm : ∀ F1 F2, A.holds w F1 → B.holds w F2 → C.holds w (fun b => F1 b ∨ F2 b)) : St W w (L ++ [C]) := by
  have h1 : St W w (A :: B :: L) := h.perm5 List.perm_append_comm
  obtain ⟨F1, f1, f2, F2, g1, g2, g3⟩ := h1.2
  have h2 : St W w (C :: L) := ⟨h1.1, fun b => F1 b ∨ F2 b, fun b hb => hb.elim (f1 b) (fun h => (g1 b h).1), hm _ _ f2 g2, g3.mono fun b hb => ⟨hb.1.1, fun h => h.elim hb.1.2 hb.2⟩⟩
  exact h2.perm5 (List.perm_append_comm (l₁ := [C]))
theorem St.freeze5 {W w : World} {L : List Asr} {ms : List (Value × List Value)} {e : TypeId} {v : Value} {n : Nat} {xs : List Value} (h : St W w (L ++ [rdAll ms, row e 1 v n xs])) (hn : n = xs.length) : St W w (L ++ [rdAll (ms ++ [(v, xs)])]) := by
  subst hn
  refine h.merge5 fun F1 F2 h1 h2 p hp => ?_
  rcases List.mem_append.1 hp with hp | hp
  · exact (h1 p hp).mono fun b _ hb => .inl hb
  · obtain rfl := List.mem_singleton.1 hp
    exact (row_holds_rd5 h2).mono fun b _ hb => .inr hb
theorem St.rdAll_new {W w : World} {L : List Asr} (h : St W w L) : St W w (L ++ [rdAll []]) := h.push (A := rdAll []) (F := fun _ => False) (Below.refl _ _) (fun p hp => by cases hp) (fun _ h => h.elim)
theorem St.rdAll_at {W w : World} {L : List Asr} {i k : Nat} {ms : List (Value × List Value)} {v : Value} {xs : List Value} (h : St W w L) (hi : L[i]? = some (rdAll ms)) (hk : ms[k]? = some (v, xs)) : Rd w (· < w.heap.size) 1 v xs.length xs := by
  obtain ⟨G, hG, hh⟩ := h.get hi
  exact (hh _ (List.mem_of_getElem? hk)).now
end Go.Mem
namespace Go.Proofs.YtkkkfjinflepmaaGreatDoor
open Go.RowKit Go.Mem Go.Sheet Go.Adj
def plV (p : PI) : Value := .agg #[.string p.name, .slice p.a p.m p.c, .int .i64 p.co]
def MTF (hs : List HI) (ps : List PI) (n a b : Nat) : List StI := matF (netF hs (pAt ps a).es (pAt ps a).co) (netF hs (pAt ps b).es (pAt ps b).co) n
def lastUp (l : List StI) : Int := match l.getLast? with | some s => s.up | none => 0
def upP (hs : List HI) (ps : List PI) (n a b : Nat) : Int := lastUp (MTF hs ps n a b)
theorem MTF_mir (hs : List HI) (ps : List PI) (n a b : Nat) : MTF hs ps n b a = (MTF hs ps n a b).map mirS := matF_mir _ _ _
theorem lastUp_mir (l : List StI) : lastUp (l.map mirS) = -lastUp l := by
  unfold lastUp
  rw [List.getLast?_map]
  cases l.getLast? <;> rfl
theorem mlF_le5 (A B : Nat → NI) (n : Nat) : ∀ d k, mlF A B n d k ≤ d
  | 0, _ => Nat.le_refl _
  | d + 1, k => by
    have := mlF_le5 A B n d (k + 1)
    rw [mlF]
    (repeat' split) <;> omega
theorem upP_bd (hs : List HI) (ps : List PI) (n a b : Nat) (hn : n ≤ 36) : -100 ≤ upP hs ps n a b ∧ upP hs ps n a b ≤ 100 := by
  unfold upP lastUp
  cases h : (MTF hs ps n a b).getLast? with
  | none => exact ⟨by decide, by decide⟩
  | some s =>
    have hm := List.mem_of_getLast? h
    unfold MTF matF at hm
    obtain ⟨k, hk, rfl⟩ := List.mem_map.1 hm
    have h1 := List.mem_range.1 hk
    have h2 := mlF_le5 (netF hs (pAt ps a).es (pAt ps a).co) (netF hs (pAt ps b).es (pAt ps b).co) n n 0
    exact st_bd _ _ hn (by omega)
theorem rdPl_at5 {w : World} {S : Nat → Prop} {A : Option Addr} {m c n k : Nat} {ps : List PI} (h : RdPl w S (.slice A m c) n ps) (hk : k < n) :
    ∃ g o, A = some ⟨g, o, none⟩ ∧ ps[k]? = some (pAt ps k) ∧ w.cell? ⟨g, o + k * 3, none⟩ = some (.string (pAt ps k).name) ∧ w.cell? ⟨g, o + k * 3 + 1, none⟩ = some (.slice (pAt ps k).a (pAt ps k).m (pAt ps k).c) ∧ w.cell? ⟨g, o + k * 3 + 2, none⟩ = some (.int .i64 (pAt ps k).co) := by
  obtain ⟨g, o, x, hA, hx, c0, c1, c2⟩ := h.elem hk
  have e := pAt_eq hx
  subst e
  exact ⟨g, o, hA, hx, c0, c1, c2⟩
theorem match_env (W : World) (v vp : Value) (n m : Nat) (hs : List HI) (ps : List PI) (h : Rd W (· < W.heap.size) 2 v n (hs.flatMap HI.cells)) (hp : RdPl W (· < W.heap.size) vp m ps) (hgh : GoodH hs) (hgp : GoodPs hs ps m) {a b : Nat} (ha : a < m) (hb : b < m) (hab : a ≠ b)
    (w : World) (hw : Below W.heap.size W w) : Calls Tryz.prog 35 #[v, plV (pAt ps a), plV (pAt ps b)] w fun e w' => ∃ v', e = .returned (.tuple #[v', .int .i64 0]) ∧
      St w w' [row 95 3 v' (MTF hs ps n a b).length ((MTF hs ps n a b).flatMap StI.cells)] := by
  obtain ⟨Ap, cp, rfl, _, _, _⟩ := hp.1.open_
  have hl := h.count (f := HI.cells) (size := 2) (fun _ => rfl) (by decide)
  obtain ⟨_, _, _, xa, _⟩ := rdPl_at5 hp ha
  obtain ⟨_, _, _, xb, _⟩ := rdPl_at5 hp hb
  have ga := hgp.ok a ha
  have gb := hgp.ok b hb
  have hne : (pAt ps a).name ≠ (pAt ps b).name := by
    rcases Nat.lt_or_ge a b with hlt | hge
    · exact hgp.two b a hb hlt
    · exact fun e => hgp.two a b ha (by omega) e.symm
  have ea : (pAt ps a).m = n := by rw [hl]; exact ga.1.2.2.1
  have eb : (pAt ps b).m = n := by rw [hl]; exact gb.1.2.2.1
  have env : ∀ k, k < m → GoodP hs (pAt ps k) → ps[k]? = some (pAt ps k) → (pAt ps k).m = n → CEnv w v (.slice (pAt ps k).a (pAt ps k).m (pAt ps k).c) n hs (pAt ps k).es (pAt ps k).name := fun k _ hg hx hm => by
    have hr := (hp.2 _ (List.mem_of_getElem? hx)).1.later hw
    rw [hm] at hr ⊢
    exact ⟨h.later hw, hr, hgh, hg.1.2.1, (hp.2 _ (List.mem_of_getElem? hx)).2, fun i hi => hg.1.2.2.2 i (by omega)⟩
  exact formatMatch_ok w v _ _ n hs _ _ _ _ _ _ ga.2 gb.2 hne (env a ha ga xa ea) (env b hb gb xb eb)
theorem match_last {w : World} {S : Nat → Prop} {A : Option Addr} {c : Nat} {l : List StI} (h : Rd w S 3 (.slice A l.length c) l.length (l.flatMap StI.cells)) (hl : 0 < l.length) :
    ∃ b o, A = some ⟨b, o, none⟩ ∧ w.cell? ⟨b, o + (l.length - 1) * 3, none⟩ = some (.int .i64 (lastUp l)) := by
  obtain ⟨b, o, x, e1, hx, c0, _, _⟩ := h.elem3 (k := l.length - 1) (fun s : StI => .int .i64 s.up) (fun s : StI => .int .i64 s.to) (fun s : StI => .bool s.ov) (fun _ => rfl) (by omega)
  refine ⟨b, o, e1, ?_⟩
  unfold lastUp
  rw [List.getLast?_eq_getElem?, hx]
  exact c0
end Go.Proofs.YtkkkfjinflepmaaGreatDoor
/- Brackets that are played: small laws (the head of DN3). -/
namespace Go.Proofs.YtkkkfjinflepmaaGreatDoor
open Go.RowKit Go.Mem Go.Sheet Go.Adj
theorem eltTS : Elt Tryz.prog 38 32 (.slice none 0 0) 1 24 := ⟨Tryz.underlying38, by kernel_rfl, rfl, by decide⟩
theorem one_sl5 (A : Option Addr) (m c : Nat) : ∀ u ∈ [Value.slice A m c], u.oneCell' = true := by simp [Value.oneCell']
theorem one_str5 (s : ByteArray) : ∀ u ∈ [Value.string s], u.oneCell' = true := by simp [Value.oneCell']
/-- all rounds up to one -/
def TS (f : Nat → ByteArray) (up : Nat → Nat → Int) (go : Option Nat) (m r : Nat) : List (List Value) := (List.range r).map fun i => strsO f (rndL up go m i)
theorem TS_snoc (f : Nat → ByteArray) (up : Nat → Nat → Int) (go : Option Nat) (m r : Nat) : TS f up go m (r + 1) = TS f up go m r ++ [strsO f (rndL up go m r)] := by unfold TS; rw [List.range_succ, List.map_append]; rfl
theorem strsO_len (f : Nat → ByteArray) (S : List (Option Nat)) : (strsO f S).length = S.length := by unfold strsO; rw [List.length_map]
theorem strsO_at {f : Nat → ByteArray} {S : List (Option Nat)} {k : Nat} (h : k < S.length) : (strsO f S)[k]? = some (.string (nmO f (S.getD k none))) := by
  unfold strsO
  rw [List.getElem?_map, List.getElem?_eq_getElem h, List.getD_eq_getElem?_getD, List.getElem?_eq_getElem h]; rfl
theorem strsL_snoc (f : Nat → ByteArray) (l l' : List Nat) : strsL f (l ++ l') = strsL f l ++ strsL f l' := by unfold strsL; rw [List.map_append]
theorem strsL_len (f : Nat → ByteArray) (l : List Nat) : (strsL f l).length = l.length := by unfold strsL; rw [List.length_map]
theorem pw5 {R r : Nat} (h : r ≤ R) : 2 ^ R / 2 ^ r = 2 ^ (R - r) := by
  have : 2 ^ R = 2 ^ (R - r) * 2 ^ r := by rw [← Nat.pow_add]; congr 1; omega
  rw [this, Nat.mul_div_cancel _ (Nat.two_pow_pos r)]
theorem lossL_len (up : Nat → Nat → Int) (gone : Option Nat) (S : List (Option Nat)) : ∀ k, (lossL up gone S k).length ≤ k
  | 0 => Nat.le_refl _
  | k + 1 => by
    have h1 := lossL_len up gone S k
    have h2 := lossP_len up gone (S.getD (2 * k) none) (S.getD (2 * k + 1) none)
    rw [lossL_snoc, List.length_append]
    omega
theorem losers_len (up : Nat → Nat → Int) (gone : Option Nat) (S : List (Option Nat)) (k : Nat) : (losers up gone S k).length ≤ k + 1 := by
  have h1 := lossL_len up gone S k
  unfold losers
  rw [List.length_append]
  have h2 : (outL gone).length ≤ 1 := by cases gone <;> simp [outL]
  omega
theorem losers_nil (up : Nat → Nat → Int) (gone : Option Nat) (S : List (Option Nat)) : losers up gone S 0 = outL gone := by unfold losers lossL; simp
end Go.Proofs.YtkkkfjinflepmaaGreatDoor
/- Chapter 7: Run. -/
namespace Go.Proofs.YtkkkfjinflepmaaGreatDoor
open Go.RowKit Go.Mem Go.Sheet Go.Adj
/-- rounds of a bracket: the slots and those who lose -/
structure RunOk (np t : Nat) (S : Nat → List (Option Nat)) (l : Nat → List Nat) : Prop where
  len : ∀ i, i < t → ∃ m, (S i).length = 2 * m ∧ ((S i).length = 2 ∨ (S i).length = 4 ∨ (S i).length = 8 ∨ (S i).length = 16) ∧ S (i + 1) = advL (l i) (S i) m ∧ ∀ j, j < m → (stayO (l i) ((S i).getD (2 * j) none) && stayO (l i) ((S i).getD (2 * j + 1) none)) = false
  nd : ∀ i, i < t → (pres (S i)).Nodup
  bd : ∀ i, i < t → ∀ p ∈ pres (S i), p < np
  ln : ∀ i, i < t → (l i).Nodup
  lp : ∀ i, i < t → ∀ p ∈ l i, p ∈ pres (S i)
def RS (f : Nat → ByteArray) (S : Nat → List (Option Nat)) (r : Nat) : List (List Value) := (List.range r).map fun i => strsO f (S i)
theorem RS_snoc (f : Nat → ByteArray) (S : Nat → List (Option Nat)) (r : Nat) : RS f S (r + 1) = RS f S r ++ [strsO f (S r)] := by unfold RS; rw [List.range_succ, List.map_append]; rfl
theorem RS_len (f : Nat → ByteArray) (S : Nat → List (Option Nat)) (r : Nat) : (RS f S r).length = r := by unfold RS; simp
set_option maxRecDepth 100000 in
set_option maxHeartbeats 4000000 in
theorem run_ok (W : World) (v vl : Value) (n t : Nat) (f : Nat → ByteArray) (S : Nat → List (Option Nat)) (l : Nat → List Nat) (hn : 1 ≤ n ∧ n ≤ 200) (ht : t ≤ 8) (h : Rd W (· < W.heap.size) 1 v n (strsV f n)) (hg : GoodNs f n) (h0 : S 0 = slotL n) (hr : RunOk n t S l)
    (hsh : (slotL n).length / 2 ^ t = 1)
    (hl : ∃ vs, Rd W (· < W.heap.size) 1 vl t vs ∧ ∀ i, i < t → ∃ u, vs[i]? = some u ∧ Rd W (· < W.heap.size) 1 u (l i).length (strsL f (l i))) :
    Calls Tryz.prog 22 #[v, vl] W fun e w' => ∃ va ms, e = .returned (.tuple #[va, .int .i64 0]) ∧ ms.map Prod.snd = RS f S (t + 1) ∧ St W w' [row 32 1 va (t + 1) (ms.map Prod.fst), rdAll ms] := by
  have HD := Lib.hid (draw_ok W n v f h hg hn)
  obtain ⟨A, c, rfl, _, _, _⟩ := h.open_
  obtain ⟨vs, hl1, hl2⟩ := hl
  obtain ⟨Al, cl, rfl, _, _, _⟩ := hl1.open_
  have HL : Hid (∀ i, i < t → ∀ w, Below W.heap.size W w → ∃ b o u, Al = some ⟨b, o, none⟩ ∧ w.cell? ⟨b, o + i, none⟩ = some u ∧ Rd w (· < w.heap.size) 1 u (l i).length (strsL f (l i))) := fun i hi w hw => by
    obtain ⟨b, o, u, hA, _, hu, hc⟩ := (hl1.later hw).at_ hi
    obtain ⟨u', hu', hru⟩ := hl2 i hi
    rw [hu] at hu'
    cases hu'
    exact ⟨b, o, u, hA, hc, hru.later hw⟩
  have HG := Lib.hid hg
  have HR := Lib.hid hr
  rw [← h0] at HD hsh
  obtain ⟨N, hN⟩ : ∃ N, N = (S 0).length := ⟨_, rfl⟩
  rw [← hN] at HD hsh
  have hsh2 : ((N : Int) / 2 ^ t == 0) = false := by
    have e : ((N / 2 ^ t : Nat) : Int) = (N : Int) / 2 ^ t := by push_cast; rfl
    rw [← e, hsh]; rfl
  have HN := Lib.hid hN
  clear h hl1 hl2 hg hr h0 hN hsh
  go_enter Tryz.func22, Tryz.ntmps22
  go_wp2_with fail
  go_at_call 20
  refine HD.out.mono ?_
  rintro e w2 ⟨v1, rfl, S1⟩
  obtain ⟨As, cs, rfl, _, _, _⟩ := (S1.row_rd (i := 0) rfl).open_
  have S3 := S1.row_new (e := 32) (size := 1) (n := 1) #[.slice As N cs] (by unfold maxLen; omega) rfl
  have S4 := S3.rdAll_new
  simp only [List.cons_append, List.nil_append] at S4
  have S5 := S4.perm5 (L' := [_, _, _]) (List.perm_append_comm (l₁ := [_]) (l₂ := [_, _]))
  have S6 := S5.freeze5 (L := [_]) (by rw [strsO_len, ← HN.out])
  simp only [List.cons_append, List.nil_append] at S6
  have HS6 := Lib.hid S6
  clear S1 S3 S4 S5 S6 HD
  go_wp2_with fail
  clear hsh2
  go_loopw [29, 6, 8] (fun i sv av w' => ∃ (r : Nat) (ms : List (Value × List Value)), r ≤ t ∧ i = .int .i64 (r : Int) ∧ Hid (ms.map Prod.snd = RS f S (r + 1)) ∧ (∃ u, ms[r]? = some (sv, u)) ∧ St W w' [row 32 1 av (r + 1) (ms.map Prod.fst), rdAll ms]) (fun i _ _ _ => t - (intOf i).toNat)
  case atStart => exact ⟨0, [(.slice As N cs, strsO f (S 0))], Nat.zero_le _, rfl, rfl, ⟨_, rfl⟩, HS6.out⟩
  case round =>
    obtain ⟨r, ms, hr, rfl, hms, ⟨u, hu⟩, SS⟩ := hrel
    clear HS6
    by_cases hlt : r < t
    · have hu2 : u = strsO f (S r) := by
        have e : (ms.map Prod.snd)[r]? = some u := by rw [List.getElem?_map, hu]; rfl
        rw [hms.out, RS_snoc, List.getElem?_append_right (by rw [RS_len]; exact Nat.le_refl _), RS_len, Nat.sub_self] at e
        exact (Option.some.inj e).symm
      subst hu2
      have hrd := SS.rdAll_at (i := 1) rfl hu
      obtain ⟨m, hm1, hm2, hm3, hm4⟩ := HR.out.len r hlt
      obtain ⟨q, hq⟩ : ∃ q, q = (S r).length := ⟨_, rfl⟩
      rw [strsO_len, ← hq] at hrd
      obtain ⟨b, o, ul, hA, c0, hul⟩ := HL.out r hlt _ SS.bel
      subst hA
      have HADV := Lib.hid (advance_ok wr q m _ ul f n (S r) (l r) hrd hul HG.out hq (by rw [hq]; exact hm1) (by rw [hq]; exact hm2) (HR.out.nd r hlt) (HR.out.bd r hlt) (HR.out.ln r hlt) (HR.out.lp r hlt) hm4)
      obtain ⟨Aq, cq, rfl, _, _, _⟩ := hrd.open_
      obtain ⟨Au, cu, rfl, _, _, _⟩ := hul.open_
      have hmq : m ≤ 8 := by omega
      have HM3 := Lib.hid hm3
      have HS := Lib.hid SS
      clear hrd hul hu SS hm1 hm2 hm3 hm4 hq
      go_wp2_with fail
      go_at_call 21
      refine HADV.out.mono ?_
      rintro e w4 ⟨vn, rfl, S9⟩
      rw [← HM3.out] at S9
      have S10 := HS.out.call S9
      simp only [List.cons_append, List.nil_append] at S10
      obtain ⟨An2, cn2, rfl, _, _, _⟩ := (S10.row_rd (i := 2) rfl).open_
      have hml : m = (strsO f (S (r + 1))).length := by
        rw [strsO_len, HM3.out]; unfold advL; rw [List.length_map, List.length_range]
      have S12 := S10.freeze5 (L := [_]) hml
      clear hml
      simp only [List.cons_append, List.nil_append] at S12
      have HSF := Lib.hid S12
      have HSG := Lib.hid (S12.alloc (.cells #[.slice An2 m cn2] 32))
      clear S9 S10 S12 HS HADV
      go_wp2_with (at_builtin; refine wpList_append_st eltTS rfl _ _ rfl rfl HSG.out (k := 0) rfl rfl (rd_one (by simp)) (one_sl5 _ _ _) (by omega) (by omega) ?_; intro v' w' S' _)
      go_roundw
      case rel =>
        refine ⟨r + 1, ms ++ [(.slice An2 m cn2, strsO f (S (r + 1)))], by omega, by go_num, ?_, ⟨strsO f (S (r + 1)), ?_⟩, ?_⟩
        · show _ = _
          rw [List.map_append, hms.out, RS_snoc f S (r + 1)]; rfl
        · have hml : ms.length = r + 1 := by
            have := congrArg List.length hms.out
            rw [List.length_map, RS_len] at this
            exact this
          rw [List.getElem?_append_right (by omega), hml, Nat.sub_self]; rfl
        · rw [List.map_append]
          exact S'
      case measure => simp [intOf]; omega
    · obtain rfl : t = r := by omega
      have HS := Lib.hid SS
      clear SS hu
      go_wp2_with fail
      go_ret2
      exact ⟨_, ms, rfl, hms.out, HS.out⟩
end Go.Proofs.YtkkkfjinflepmaaGreatDoor
