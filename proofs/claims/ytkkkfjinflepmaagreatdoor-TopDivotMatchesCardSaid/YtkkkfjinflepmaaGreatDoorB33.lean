/- Part 33 of the walks of the golf union's program: DN2. -/
import Derived.Test.YtkkkfjinflepmaaGreatDoorB24
import Derived.Test.YtkkkfjinflepmaaGreatDoorB32
set_option linter.unusedVariables false
set_option linter.unusedSimpArgs false
set_option linter.unusedSectionVars false
set_option linter.constructorNameAsVariable false
/- TopDivotMatches: the matches of a field; lists of names that are only read. -/
namespace Go.Mem
open Go.RowKit
theorem Sep.perm5 {L L' : List Asr} (h : L.Perm L') : ∀ {w : World} {F : Nat → Prop}, Sep L w F → Sep L' w F := by
  induction h with
  | nil => intros; trivial
  | cons A _ ih => rintro w F ⟨F1, h1, h2, h3⟩; exact ⟨F1, h1, h2, ih h3⟩
  | swap A B L =>
    rintro w F ⟨F1, h1, h2, F2, g1, g2, g3⟩
    exact ⟨F2, fun b hb => (g1 b hb).1, g2, F1, fun b hb => ⟨h1 b hb, fun h => (g1 b h).2 hb⟩, h2, g3.mono fun b ⟨⟨a, c⟩, d⟩ => ⟨⟨a, d⟩, c⟩⟩
  | trans _ _ ih1 ih2 => intro w F h; exact ih2 (ih1 h)
theorem St.perm5 {W w : World} {L L' : List Asr} (h : St W w L) (hp : L.Perm L') : St W w L' := ⟨h.1, Sep.perm5 hp h.2⟩
theorem row_holds_rd5 {w : World} {F : Nat → Prop} {e : TypeId} {size n : Nat} {v : Value} {xs : List Value} (h : (row e size v n xs).holds w F) : Rd w F size v n xs := by
  obtain ⟨ho, hF⟩ := h
  have hc := @World.ownsRow.cells _ _ _ _ _ _ _ ho
  have hl := ho.lt
  rcases ho.2 with ⟨rfl, rfl⟩ | ⟨g, cap, cur, rfl, hb, hg, h1, h2, r⟩
  · exact ⟨none, 0, rfl, Nat.le_refl _, Nat.zero_le _, (by have := ho.1; simpa using this), (fun _ => rfl), (fun h => absurd h (by omega))⟩
  · exact ⟨_, cap, rfl, h1, h2, ho.1, (fun h => by cases h), fun _ => ⟨g, 0, rfl, hF g rfl, (hl g rfl).2, fun j u hu => by have := hc (g := g) rfl j u hu; rwa [Addr.add_lit] at this⟩⟩
theorem St.merge5 {W w : World} {A B C : Asr} {L : List Asr} (h : St W w (L ++ [A, B])) (hm : ∀ F1 F2, A.holds w F1 → B.holds w F2 → C.holds w (fun b => F1 b ∨ F2 b)) : St W w (L ++ [C]) := by
  have h1 : St W w (A :: B :: L) := h.perm5 List.perm_append_comm
  obtain ⟨F1, f1, f2, F2, g1, g2, g3⟩ := h1.2
  have h2 : St W w (C :: L) := ⟨h1.1, fun b => F1 b ∨ F2 b, fun b hb => hb.elim (f1 b) (fun h => (g1 b h).1), hm _ _ f2 g2, g3.mono fun b hb => ⟨hb.1.1, fun h => h.elim hb.1.2 hb.2⟩⟩
  exact h2.perm5 (List.perm_append_comm (l₁ := [C]))
theorem St.freeze5 {W w : World} {L : List Asr} {ms : List (Value × List Value)} {e : TypeId} {v : Value} {n : Nat} {xs : List Value} (h : St W w (L ++ [rdAll ms, row e 1 v n xs])) (hn : n = xs.length) : St W w (L ++ [rdAll (ms ++ [(v, xs)])]) := by
  subst hn
  refine h.merge5 fun F1 F2 h1 h2 p hp => ?_
  rcases List.mem_append.1 hp with hp | hp
  · exact (h1 p hp).mono fun b _ hb => .inl hb
  · obtain rfl := List.mem_singleton.1 hp
    exact (row_holds_rd5 h2).mono fun b _ hb => .inr hb
theorem St.rdAll_new {W w : World} {L : List Asr} (h : St W w L) : St W w (L ++ [rdAll []]) := h.push (A := rdAll []) (F := fun _ => False) (Below.refl _ _) (fun p hp => by cases hp) (fun _ h => h.elim)
theorem St.rdAll_at {W w : World} {L : List Asr} {i k : Nat} {ms : List (Value × List Value)} {v : Value} {xs : List Value} (h : St W w L) (hi : L[i]? = some (rdAll ms)) (hk : ms[k]? = some (v, xs)) : Rd w (· < w.heap.size) 1 v xs.length xs := by
  obtain ⟨G, hG, hh⟩ := h.get hi
  exact (hh _ (List.mem_of_getElem? hk)).now
end Go.Mem
namespace Go.Proofs.YtkkkfjinflepmaaGreatDoor
open Go.RowKit Go.Mem Go.Sheet Go.Adj
def plV (p : PI) : Value := .agg #[.string p.name, .slice p.a p.m p.c, .int .i64 p.co]
def MTF (hs : List HI) (ps : List PI) (n a b : Nat) : List StI := matF (netF hs (pAt ps a).es (pAt ps a).co) (netF hs (pAt ps b).es (pAt ps b).co) n
def lastUp (l : List StI) : Int := match l.getLast? with | some s => s.up | none => 0
def upP (hs : List HI) (ps : List PI) (n a b : Nat) : Int := lastUp (MTF hs ps n a b)
theorem MTF_mir (hs : List HI) (ps : List PI) (n a b : Nat) : MTF hs ps n b a = (MTF hs ps n a b).map mirS := matF_mir _ _ _
theorem lastUp_mir (l : List StI) : lastUp (l.map mirS) = -lastUp l := by
  unfold lastUp
  rw [List.getLast?_map]
  cases l.getLast? <;> rfl
theorem mlF_le5 (A B : Nat → NI) (n : Nat) : ∀ d k, mlF A B n d k ≤ d
  | 0, _ => Nat.le_refl _
  | d + 1, k => by
    have := mlF_le5 A B n d (k + 1)
    rw [mlF]
    (repeat' split) <;> omega
theorem upP_bd (hs : List HI) (ps : List PI) (n a b : Nat) (hn : n ≤ 36) : -100 ≤ upP hs ps n a b ∧ upP hs ps n a b ≤ 100 := by
  unfold upP lastUp
  cases h : (MTF hs ps n a b).getLast? with
  | none => exact ⟨by decide, by decide⟩
  | some s =>
    have hm := List.mem_of_getLast? h
    unfold MTF matF at hm
    obtain ⟨k, hk, rfl⟩ := List.mem_map.1 hm
    have h1 := List.mem_range.1 hk
    have h2 := mlF_le5 (netF hs (pAt ps a).es (pAt ps a).co) (netF hs (pAt ps b).es (pAt ps b).co) n n 0
    exact st_bd _ _ hn (by omega)
theorem rdPl_at5 {w : World} {S : Nat → Prop} {A : Option Addr} {m c n k : Nat} {ps : List PI} (h : RdPl w S (.slice A m c) n ps) (hk : k < n) :
    ∃ g o, A = some ⟨g, o, none⟩ ∧ ps[k]? = some (pAt ps k) ∧ w.cell? ⟨g, o + k * 3, none⟩ = some (.string (pAt ps k).name) ∧ w.cell? ⟨g, o + k * 3 + 1, none⟩ = some (.slice (pAt ps k).a (pAt ps k).m (pAt ps k).c) ∧ w.cell? ⟨g, o + k * 3 + 2, none⟩ = some (.int .i64 (pAt ps k).co) := by
  obtain ⟨g, o, x, hA, hx, c0, c1, c2⟩ := h.elem hk
  have e := pAt_eq hx
  subst e
  exact ⟨g, o, hA, hx, c0, c1, c2⟩
theorem match_env (W : World) (v vp : Value) (n m : Nat) (hs : List HI) (ps : List PI) (h : Rd W (· < W.heap.size) 2 v n (hs.flatMap HI.cells)) (hp : RdPl W (· < W.heap.size) vp m ps) (hgh : GoodH hs) (hgp : GoodPs hs ps m) {a b : Nat} (ha : a < m) (hb : b < m) (hab : a ≠ b)
    (w : World) (hw : Below W.heap.size W w) : Calls Tryz.prog 35 #[v, plV (pAt ps a), plV (pAt ps b)] w fun e w' => ∃ v', e = .returned (.tuple #[v', .int .i64 0]) ∧
      St w w' [row 95 3 v' (MTF hs ps n a b).length ((MTF hs ps n a b).flatMap StI.cells)] := by
  obtain ⟨Ap, cp, rfl, _, _, _⟩ := hp.1.open_
  have hl := h.count (f := HI.cells) (size := 2) (fun _ => rfl) (by decide)
  obtain ⟨_, _, _, xa, _⟩ := rdPl_at5 hp ha
  obtain ⟨_, _, _, xb, _⟩ := rdPl_at5 hp hb
  have ga := hgp.ok a ha
  have gb := hgp.ok b hb
  have hne : (pAt ps a).name ≠ (pAt ps b).name := by
    rcases Nat.lt_or_ge a b with hlt | hge
    · exact hgp.two b a hb hlt
    · exact fun e => hgp.two a b ha (by omega) e.symm
  have ea : (pAt ps a).m = n := by rw [hl]; exact ga.1.2.2.1
  have eb : (pAt ps b).m = n := by rw [hl]; exact gb.1.2.2.1
  have env : ∀ k, k < m → GoodP hs (pAt ps k) → ps[k]? = some (pAt ps k) → (pAt ps k).m = n → CEnv w v (.slice (pAt ps k).a (pAt ps k).m (pAt ps k).c) n hs (pAt ps k).es (pAt ps k).name := fun k _ hg hx hm => by
    have hr := (hp.2 _ (List.mem_of_getElem? hx)).1.later hw
    rw [hm] at hr ⊢
    exact ⟨h.later hw, hr, hgh, hg.1.2.1, (hp.2 _ (List.mem_of_getElem? hx)).2, fun i hi => hg.1.2.2.2 i (by omega)⟩
  exact formatMatch_ok w v _ _ n hs _ _ _ _ _ _ ga.2 gb.2 hne (env a ha ga xa ea) (env b hb gb xb eb)
theorem match_last {w : World} {S : Nat → Prop} {A : Option Addr} {c : Nat} {l : List StI} (h : Rd w S 3 (.slice A l.length c) l.length (l.flatMap StI.cells)) (hl : 0 < l.length) :
    ∃ b o, A = some ⟨b, o, none⟩ ∧ w.cell? ⟨b, o + (l.length - 1) * 3, none⟩ = some (.int .i64 (lastUp l)) := by
  obtain ⟨b, o, x, e1, hx, c0, _, _⟩ := h.elem3 (k := l.length - 1) (fun s : StI => .int .i64 s.up) (fun s : StI => .int .i64 s.to) (fun s : StI => .bool s.ov) (fun _ => rfl) (by omega)
  refine ⟨b, o, e1, ?_⟩
  unfold lastUp
  rw [List.getLast?_eq_getElem?, hx]
  exact c0
end Go.Proofs.YtkkkfjinflepmaaGreatDoor
