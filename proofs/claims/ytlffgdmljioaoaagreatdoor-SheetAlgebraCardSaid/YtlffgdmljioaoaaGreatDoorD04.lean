/- Part 4 of the walks of the golf union's program: Mem, Tail, Base. -/
import Derived.WalkKit
import Derived.Laws.OwnMore
import Derived.Deep.AppendLies
import Derived.Deep.Draws
import Derived.Lib.Hide
import Derived.Maps.AppendAt
import Derived.RegionTactic
import Derived.OwnWalk
import Derived.StillTailTactics
import Derived.StillTail
import Derived.Deep.Quiet
import Derived.BigQuiet
import Derived.Deep.QuietTactic
import Derived.Below
import Derived.Test.YtlffgdmljioaoaaGreatDoorProg
import Derived.WalkLawsBesides
import Derived.Deep.RegionHeld3
import Derived.Test.YtlffgdmljioaoaaGreatDoorD01
set_option linter.unusedVariables false
set_option linter.unusedSimpArgs false
set_option linter.unusedSectionVars false
set_option linter.constructorNameAsVariable false
namespace Go.Mem
open Go.RowKit
theorem add_of_add (a : Addr) (i j : Nat) : (a.add i).add j = a.add (i + j) := by
  unfold Addr.add
  by_cases hi : i = 0 <;> by_cases hj : j = 0 <;> simp [hi, hj, Nat.add_assoc]

/-- v is a slice of n elements of size cells whose cells are xs; only blocks in S are read -/
def Rd (w : World) (S : Nat → Prop) (size : Nat) (v : Value) (n : Nat) (xs : List Value) : Prop :=
  ∃ A c, v = .slice A n c ∧ n ≤ c ∧ c ≤ maxLen ∧ xs.length = n * size ∧ (A = none → c = 0) ∧
    (0 < n → ∃ b o, A = some ⟨b, o, none⟩ ∧ S b ∧ b < w.heap.size ∧ ∀ j u, xs[j]? = some u → w.cell? ⟨b, o + j, none⟩ = some u)
section
variable {w w' : World} {S S' : Nat → Prop} {size n : Nat} {v : Value} {xs : List Value}
theorem Rd.nil (w : World) (S : Nat → Prop) (size : Nat) : Rd w S size (.slice none 0 0) 0 [] :=
  ⟨none, 0, rfl, Nat.le_refl _, Nat.zero_le _, by simp, fun _ => rfl, fun h => absurd h (by omega)⟩
theorem Rd.loc (h : Rd w S size v n xs) (hs : w.heap.size ≤ w'.heap.size) (hk : ∀ b, S b → w'.heap[b]? = w.heap[b]?) : Rd w' S size v n xs := by
  obtain ⟨A, c, hv, h1, h2, h3, h4, h5⟩ := h
  refine ⟨A, c, hv, h1, h2, h3, h4, fun hn => ?_⟩
  obtain ⟨b, o, hA, hS, hb, hc⟩ := h5 hn
  exact ⟨b, o, hA, hS, by omega, fun j u hu => (World.cell?_of_block (hk b hS)).trans (hc j u hu)⟩
theorem Rd.mono (h : Rd w S size v n xs) (hS : ∀ b, b < w.heap.size → S b → S' b) : Rd w S' size v n xs := by
  obtain ⟨A, c, hv, h1, h2, h3, h4, h5⟩ := h
  refine ⟨A, c, hv, h1, h2, h3, h4, fun hn => ?_⟩
  obtain ⟨b, o, hA, hs, hb, hc⟩ := h5 hn
  exact ⟨b, o, hA, hS b hb hs, hb, hc⟩
theorem Rd.now (h : Rd w S size v n xs) : Rd w (· < w.heap.size) size v n xs := h.mono fun _ hb _ => hb
theorem Rd.below {B : Nat} (h : Rd w (· < B) size v n xs) (hb : Below B w w') : Rd w' (· < B) size v n xs := h.loc hb.size hb.block
theorem Rd.later (h : Rd w (· < w.heap.size) size v n xs) (hb : Below w.heap.size w w') : Rd w' (· < w'.heap.size) size v n xs := (h.below hb).now
theorem Rd.len (h : Rd w S size v n xs) : xs.length = n * size := let ⟨_, _, _, _, _, h3, _⟩ := h; h3
theorem Rd.le (h : Rd w S size v n xs) : n ≤ 9223372036854775807 := by
  obtain ⟨A, c, hv, h1, h2, _⟩ := h
  unfold maxLen at h2; omega
theorem Rd.open_ (h : Rd w S size v n xs) : ∃ A c, v = .slice A n c ∧ n ≤ c ∧ c ≤ maxLen ∧ Rd w S size (.slice A n c) n xs := by
  have h' := h
  obtain ⟨A, c, hv, h1, h2, _⟩ := h
  subst hv
  exact ⟨A, c, rfl, h1, h2, h'⟩
theorem Rd.caps {A : Option Addr} {m c : Nat} (h : Rd w S size (.slice A m c) n xs) : n ≤ c ∧ c ≤ maxLen := by
  obtain ⟨A', c', hv, h1, h2, _⟩ := h
  injection hv with e1 e2 e3
  subst e3
  exact ⟨h1, h2⟩
theorem Rd.addr {A : Option Addr} {m c : Nat} (h : Rd w S size (.slice A m c) n xs) (hn : 0 < n) :
    ∃ b o, A = some ⟨b, o, none⟩ ∧ S b ∧ b < w.heap.size ∧ ∀ j u, xs[j]? = some u → w.cell? ⟨b, o + j, none⟩ = some u := by
  obtain ⟨A', c', hv, h1, h2, h3, h4, h5⟩ := h
  injection hv with e1 e2 e3
  subst e1 e2 e3
  exact h5 hn
/-- one cell elements: the k-th -/
theorem Rd.at_ {A : Option Addr} {m c k : Nat} (h : Rd w S 1 (.slice A m c) n xs) (hk : k < n) :
    ∃ b o u, A = some ⟨b, o, none⟩ ∧ S b ∧ xs[k]? = some u ∧ w.cell? ⟨b, o + k, none⟩ = some u := by
  obtain ⟨b, o, e, hb, _, hc⟩ := h.addr (by omega)
  have hl : k < xs.length := by have := h.len; omega
  exact ⟨b, o, xs[k], e, hb, List.getElem?_eq_getElem hl, hc k _ (List.getElem?_eq_getElem hl)⟩
/-- ints: the k-th -/
theorem Rd.int {A : Option Addr} {m c k : Nat} {q : IntKind} {l : List Int} (h : Rd w S 1 (.slice A m c) n (l.map (Value.int q))) (hk : k < n) :
    ∃ b o x, A = some ⟨b, o, none⟩ ∧ l[k]? = some x ∧ w.cell? ⟨b, o + k, none⟩ = some (.int q x) := by
  obtain ⟨b, o, u, e, _, hx, hc⟩ := h.at_ hk
  rw [List.getElem?_map] at hx
  cases hx' : l[k]? with
  | none => rw [hx'] at hx; cases hx
  | some x => rw [hx'] at hx; cases hx; exact ⟨b, o, x, e, rfl, hc⟩
end
theorem Rd.val {w : World} {S : Nat → Prop} {n : Nat} {A : Option Addr} {m c k : Nat} {l : List Value} (h : Rd w S 1 (.slice A m c) n (l.map id)) (hk : k < n) :
    ∃ b o x, A = some ⟨b, o, none⟩ ∧ l[k]? = some x ∧ w.cell? ⟨b, o + k, none⟩ = some x := by
  obtain ⟨b, o, u, e, _, hx, hc⟩ := h.at_ hk
  exact ⟨b, o, u, e, by simpa using hx, hc⟩
theorem flatMap_at {α : Type} {f : α → List Value} {s : Nat} : ∀ {l : List α} {k j : Nat} {x : α} {u : Value}, (∀ y ∈ l, (f y).length = s) → l[k]? = some x → (f x)[j]? = some u → (l.flatMap f)[k * s + j]? = some u := by
  intro l
  induction l with
  | nil => intro k j x u _ h; simp at h
  | cons y l ih =>
    intro k j x u hs hk hj
    cases k with
    | zero =>
      simp only [List.getElem?_cons_zero, Option.some.injEq] at hk
      subst hk
      have hjl := (List.getElem?_eq_some_iff.1 hj).1
      simp only [List.flatMap_cons, Nat.zero_mul, Nat.zero_add]
      rw [List.getElem?_append_left hjl]; exact hj
    | succ k =>
      simp only [List.getElem?_cons_succ] at hk
      have hy : (f y).length = s := hs y (by simp)
      have hle : s ≤ (k + 1) * s + j := by rw [Nat.add_mul]; omega
      simp only [List.flatMap_cons]
      rw [List.getElem?_append_right (by omega), hy]
      have e : (k + 1) * s + j - s = k * s + j := by rw [Nat.add_mul]; omega
      rw [e]
      exact ih (fun z hz => hs z (by simp [hz])) hk hj
theorem flatMap_len {α : Type} {f : α → List Value} {size : Nat} (hs : ∀ y, (f y).length = size) (l : List α) : (l.flatMap f).length = l.length * size := by
  induction l with
  | nil => simp
  | cons y l ih => rw [List.flatMap_cons, List.length_append, ih, hs, List.length_cons, Nat.add_mul]; omega
theorem Rd.count {w : World} {S : Nat → Prop} {size n : Nat} {α : Type} {f : α → List Value} {l : List α} {v : Value} (hs : ∀ y, (f y).length = size) (h0 : 0 < size) (h : Rd w S size v n (l.flatMap f)) : n = l.length :=
  Nat.eq_of_mul_eq_mul_right h0 (h.len.symm.trans (flatMap_len hs l))
theorem Rd.count1 {w : World} {S : Nat → Prop} {n : Nat} {α : Type} {f : α → Value} {l : List α} {v : Value} (h : Rd w S 1 v n (l.map f)) : n = l.length := by
  have := h.len; simpa using this.symm
/-- elements of several cells: the k-th element -/
theorem Rd.elem {w : World} {S : Nat → Prop} {size n : Nat} {α : Type} {f : α → List Value} {l : List α} {A : Option Addr} {m c k : Nat} (hs : ∀ y, (f y).length = size) (h0 : 0 < size) (h : Rd w S size (.slice A m c) n (l.flatMap f)) (hk : k < n) :
    ∃ b o x, A = some ⟨b, o, none⟩ ∧ l[k]? = some x ∧ ∀ j u, (f x)[j]? = some u → w.cell? ⟨b, o + (k * size + j), none⟩ = some u := by
  obtain ⟨b, o, e, _, _, hc⟩ := h.addr (by omega)
  have hn : n = l.length := h.count hs h0
  exact ⟨b, o, l[k]'(by omega), e, List.getElem?_eq_getElem _, fun j u hu => hc _ u (flatMap_at (fun y _ => hs y) (List.getElem?_eq_getElem _) hu)⟩
theorem Rd.elem2 {w : World} {S : Nat → Prop} {n : Nat} {α : Type} {f : α → List Value} {l : List α} {A : Option Addr} {m c k : Nat} (a b : α → Value) (hf : ∀ y, f y = [a y, b y]) (h : Rd w S 2 (.slice A m c) n (l.flatMap f)) (hk : k < n) :
    ∃ g o x, A = some ⟨g, o, none⟩ ∧ l[k]? = some x ∧ w.cell? ⟨g, o + k * 2, none⟩ = some (a x) ∧ w.cell? ⟨g, o + k * 2 + 1, none⟩ = some (b x) := by
  obtain ⟨g, o, x, hA, hx, hc⟩ := h.elem (fun y => by rw [hf]; rfl) (by decide) hk
  exact ⟨g, o, x, hA, hx, hc 0 _ (by rw [hf]; rfl), hc 1 _ (by rw [hf]; rfl)⟩
theorem Rd.elem3 {w : World} {S : Nat → Prop} {n : Nat} {α : Type} {f : α → List Value} {l : List α} {A : Option Addr} {m c k : Nat} (a b d : α → Value) (hf : ∀ y, f y = [a y, b y, d y]) (h : Rd w S 3 (.slice A m c) n (l.flatMap f)) (hk : k < n) :
    ∃ g o x, A = some ⟨g, o, none⟩ ∧ l[k]? = some x ∧ w.cell? ⟨g, o + k * 3, none⟩ = some (a x) ∧ w.cell? ⟨g, o + k * 3 + 1, none⟩ = some (b x) ∧ w.cell? ⟨g, o + k * 3 + 2, none⟩ = some (d x) := by
  obtain ⟨g, o, x, hA, hx, hc⟩ := h.elem (fun y => by rw [hf]; rfl) (by decide) hk
  exact ⟨g, o, x, hA, hx, hc 0 _ (by rw [hf]; rfl), hc 1 _ (by rw [hf]; rfl), hc 2 _ (by rw [hf]; rfl)⟩

/-- a local assertion on a set of blocks -/
structure Asr where
  holds : World → (Nat → Prop) → Prop
  loc : ∀ {w w' : World} {F : Nat → Prop}, holds w F → w.heap.size ≤ w'.heap.size → (∀ b, F b → w'.heap[b]? = w.heap[b]?) → holds w' F
  mono : ∀ {w : World} {F F' : Nat → Prop}, holds w F → (∀ b, F b → F' b) → holds w F'

def row (e : TypeId) (size : Nat) (v : Value) (n : Nat) (xs : List Value) : Asr where
  holds w F := w.ownsRow 0 e size v n xs ∧ ∀ g, v.ownBlock = some g → F g
  loc := by
    rintro w w' F ⟨⟨h1, h2⟩, hF⟩ hs hk
    refine ⟨⟨h1, ?_⟩, hF⟩
    rcases h2 with h2 | ⟨g, cap, cur, rfl, hb, hg, r⟩
    · exact .inl h2
    · exact .inr ⟨g, cap, cur, rfl, hb, (hk g (hF g rfl)).trans hg, r⟩
  mono := fun ⟨h, hF⟩ hh => ⟨h, fun g hg => hh g (hF g hg)⟩
def blk (g : Nat) (t : TypeId) (cs : Array Value) : Asr where
  holds w F := w.heap[g]? = some (.cells cs t (0, 0)) ∧ F g
  loc := fun ⟨h, hF⟩ _ hk => ⟨(hk g hF).trans h, hF⟩
  mono := fun ⟨h, hF⟩ hh => ⟨h, hh _ hF⟩
/-- data that is only read -/
def rds (size : Nat) (v : Value) (n : Nat) (xs : List Value) : Asr where
  holds w F := Rd w F size v n xs
  loc := fun h hs hk => Rd.loc h hs hk
  mono := fun h hh => Rd.mono h fun b _ => hh b
/-- a list of read-only slices of one-cell elements -/
def rdAll (ms : List (Value × List Value)) : Asr where
  holds w F := ∀ p ∈ ms, Rd w F 1 p.1 p.2.length p.2
  loc := fun h hs hk p hp => Rd.loc (h p hp) hs hk
  mono := fun h hh p hp => Rd.mono (h p hp) fun b _ => hh b

def Sep : List Asr → World → (Nat → Prop) → Prop
  | [], _, _ => True
  | A :: L, w, F => ∃ F1, (∀ b, F1 b → F b) ∧ A.holds w F1 ∧ Sep L w (fun b => F b ∧ ¬ F1 b)
theorem Sep.mono {L : List Asr} : ∀ {w : World} {F F' : Nat → Prop}, Sep L w F → (∀ b, F b → F' b) → Sep L w F' := by
  induction L with
  | nil => intros; trivial
  | cons A L ih =>
    rintro w F F' ⟨F1, h1, h2, h3⟩ hF
    exact ⟨F1, fun b hb => hF _ (h1 b hb), h2, ih h3 fun b ⟨hb, hn⟩ => ⟨hF _ hb, hn⟩⟩
theorem Sep.loc {L : List Asr} : ∀ {w w' : World} {F : Nat → Prop}, Sep L w F → w.heap.size ≤ w'.heap.size → (∀ b, F b → w'.heap[b]? = w.heap[b]?) → Sep L w' F := by
  induction L with
  | nil => intros; trivial
  | cons A L ih =>
    rintro w w' F ⟨F1, h1, h2, h3⟩ hs hF
    exact ⟨F1, h1, A.loc h2 hs fun b hb => hF _ (h1 b hb), ih h3 hs fun b hb => hF _ hb.1⟩
theorem Sep.upd {L : List Asr} : ∀ {w : World} {F : Nat → Prop} {i : Nat} {A : Asr}, Sep L w F → L[i]? = some A →
    ∃ F1, (∀ b, F1 b → F b) ∧ A.holds w F1 ∧ ∀ (w' : World) (A' : Asr) (F1' : Nat → Prop), A'.holds w' F1' → w.heap.size ≤ w'.heap.size →
      (∀ b, F1' b → F1 b ∨ ¬ F b) → (∀ b, F b → ¬ F1 b → w'.heap[b]? = w.heap[b]?) → Sep (L.set i A') w' (fun b => F b ∨ F1' b) := by
  induction L with
  | nil => intro w F i A _ h; simp at h
  | cons B L ih =>
    rintro w F i A ⟨F0, h1, h2, h3⟩ hi
    cases i with
    | zero =>
      simp only [List.getElem?_cons_zero, Option.some.injEq] at hi
      subst hi
      refine ⟨F0, h1, h2, fun w' A' F1' hA hs hF1 hsame => ?_⟩
      refine ⟨F1', fun b hb => .inr hb, hA, ?_⟩
      refine (Sep.loc (w' := w') h3 hs fun b hb => hsame b hb.1 hb.2).mono ?_
      rintro b ⟨hb, hn⟩
      exact ⟨.inl hb, fun h => by rcases hF1 b h with h | h <;> contradiction⟩
    | succ i =>
      simp only [List.getElem?_cons_succ] at hi
      obtain ⟨F1, g1, g2, g3⟩ := ih h3 hi
      refine ⟨F1, fun b hb => (g1 b hb).1, g2, fun w' A' F1' hA hs hF1 hsame => ?_⟩
      refine ⟨F0, fun b hb => .inl (h1 b hb), B.loc h2 hs fun b hb => hsame b (h1 b hb) fun h => (g1 b h).2 hb, ?_⟩
      refine (g3 w' A' F1' hA hs (fun b hb => ?_) fun b hb hn => hsame b hb.1 hn).mono ?_
      · rcases hF1 b hb with h | h
        · exact .inl h
        · exact .inr fun hh => h hh.1
      · rintro b (⟨hb, hn⟩ | hb)
        · exact ⟨.inl hb, hn⟩
        · refine ⟨.inr hb, fun h0 => ?_⟩
          rcases hF1 b hb with h | h
          · exact (g1 b h).2 h0
          · exact h (h1 b h0)
theorem Sep.append {L L' : List Asr} : ∀ {w : World} {F F' : Nat → Prop}, Sep L w F → Sep L' w F' → (∀ b, F b → ¬ F' b) → Sep (L ++ L') w (fun b => F b ∨ F' b) := by
  induction L with
  | nil => intro w F F' _ h _; exact h.mono fun b hb => .inr hb
  | cons A L ih =>
    rintro w F F' ⟨F1, h1, h2, h3⟩ h' hd
    refine ⟨F1, fun b hb => .inl (h1 b hb), h2, (ih h3 h' fun b hb => hd b hb.1).mono ?_⟩
    rintro b (⟨hb, hn⟩ | hb)
    · exact ⟨.inl hb, hn⟩
    · exact ⟨.inr hb, fun h => hd b (h1 b h) hb⟩

/-- the state of a call that began in W: old memory is as it was, the blocks made since bear L -/
def St (W w : World) (L : List Asr) : Prop := Below W.heap.size W w ∧ Sep L w (fun b => W.heap.size ≤ b ∧ b < w.heap.size)
section
variable {W w w' : World} {L L' : List Asr}
theorem St.refl (w : World) : St w w [] := ⟨Below.refl _ _, trivial⟩
theorem St.bel (h : St W w L) : Below W.heap.size W w := h.1
theorem St.size (h : St W w L) : W.heap.size ≤ w.heap.size := h.1.size
theorem St.of_below (h : Below W.heap.size W w) : St W w [] := ⟨h, trivial⟩
theorem St.ext (h : St W w L) (e : Below w.heap.size w w') : St W w' L :=
  ⟨h.1.trans (e.mono h.1.size), (Sep.loc h.2 e.size fun b hb => e.block b hb.2).mono fun b hb => ⟨hb.1, by have := e.size; omega⟩⟩
theorem St.call (h : St W w L) (h' : St w w' L') : St W w' (L ++ L') := by
  have h1 := h.ext h'.1
  refine ⟨h1.1, ?_⟩
  have h2 := Sep.loc (w' := w') h.2 h'.1.size fun b hb => h'.1.block b hb.2
  refine (h2.append h'.2 fun b hb hb' => by omega).mono ?_
  have := h.1.size
  have := h'.1.size
  rintro b (hb | hb) <;> omega
theorem St.drew (h : St W w L) : St W w.drew L := ⟨h.1.drew, Sep.loc (w' := w.drew) h.2 (Nat.le_refl _) fun _ _ => rfl⟩
theorem St.drewN (h : St W w L) (n : Nat) : St W (w.drewN n) L := ⟨h.1.trans ⟨rfl, rfl, rfl, Nat.le_refl _, fun _ _ => rfl⟩, Sep.loc (w' := w.drewN n) h.2 (Nat.le_refl _) fun _ _ => rfl⟩
theorem St.alloc (h : St W w L) (o : Obj) : St W (w.alloc o) L := h.ext ((Below.refl _ _).alloc (Nat.le_refl _) _)
theorem St.nil (h : St W w L) : St W w [] := ⟨h.1, trivial⟩
theorem St.push {A : Asr} {F : Nat → Prop} (h : St W w L) (e : Below w.heap.size w w') (hA : A.holds w' F) (hF : ∀ b, F b → w.heap.size ≤ b ∧ b < w'.heap.size) : St W w' (L ++ [A]) :=
  h.call ⟨e, F, hF, hA, trivial⟩
theorem St.upd {i : Nat} {A : Asr} (h : St W w L) (hi : L[i]? = some A) :
    ∃ F1, (∀ b, F1 b → W.heap.size ≤ b ∧ b < w.heap.size) ∧ A.holds w F1 ∧ ∀ (w' : World) (A' : Asr) (F1' : Nat → Prop) (row : Option Nat), A'.holds w' F1' →
      w.grownBy w' row → (∀ g, row = some g → F1 g) → (∀ b, F1' b → F1 b ∨ w.heap.size ≤ b ∧ b < w'.heap.size) → St W w' (L.set i A') := by
  obtain ⟨F1, h1, h2, h3⟩ := Sep.upd h.2 hi
  refine ⟨F1, h1, h2, fun w' A' F1' row hA hg hrow hF => ?_⟩
  have hblk : ∀ b, b < w.heap.size → ¬ F1 b → w'.heap[b]? = w.heap[b]? := fun b hb hn => hg.block b hb fun e => hn (hrow b e.symm)
  refine ⟨h.1.grown hg h.1.size fun k hk => (h1 k (hrow k hk)).1, ?_⟩
  refine (h3 w' A' F1' hA hg.size (fun b hb => ?_) fun b hb hn => hblk b hb.2 hn).mono ?_
  · rcases hF b hb with h | h
    · exact .inl h
    · exact .inr fun hh => by omega
  · have := hg.size
    rintro b (hb | hb)
    · omega
    · rcases hF b hb with h' | h'
      · have := h1 b h'; omega
      · have := h.1.size; omega
/-- what holds of one limb -/
theorem St.get {i : Nat} {A : Asr} (h : St W w L) (hi : L[i]? = some A) : ∃ F, (∀ b, F b → W.heap.size ≤ b ∧ b < w.heap.size) ∧ A.holds w F :=
  let ⟨F, a, b, _⟩ := h.upd hi; ⟨F, a, b⟩
theorem Sep.sub {L' : List Asr} : ∀ {L : List Asr} {w : World} {F : Nat → Prop}, L'.Sublist L → Sep L w F → Sep L' w F := by
  intro L w F hs
  induction hs generalizing F with
  | slnil => exact id
  | cons A _ ih => rintro ⟨F1, h1, h2, h3⟩; exact ih (h3.mono fun b hb => hb.1)
  | cons_cons A _ ih => rintro ⟨F1, h1, h2, h3⟩; exact ⟨F1, h1, h2, ih h3⟩
theorem St.sub (h : St W w L) (hs : L'.Sublist L) : St W w L' := ⟨h.1, Sep.sub hs h.2⟩
/-- a new row -/
theorem St.row_new (h : St W w L) {e : TypeId} {size n : Nat} (cs : Array Value) (hm : n ≤ maxLen) (hs : cs.size = n * size) :
    St W (w.alloc (.cells cs e)) (L ++ [row e size (.slice (some ⟨w.heap.size, 0, none⟩) n n) n cs.toList]) :=
  h.push (F := fun b => b = w.heap.size) ((Below.refl _ _).alloc (Nat.le_refl _) _) ⟨World.ownsRow_lit w cs n (Nat.zero_le _) hm hs, fun g hg => by simpa [Value.ownBlock] using hg.symm⟩ (fun b hb => by subst hb; simp)
theorem St.row_nil (h : St W w L) (e : TypeId) (size : Nat) : St W w (L ++ [row e size (.slice none 0 0) 0 []]) :=
  h.push (F := fun _ => False) (Below.refl _ _) ⟨World.ownsRow_nil _ _ _ _, fun g hg => by simp [Value.ownBlock] at hg⟩ (fun b hb => hb.elim)
theorem St.blk_new (h : St W w L) (cs : Array Value) (t : TypeId) : St W (w.alloc (.cells cs t)) (L ++ [blk w.heap.size t cs]) :=
  h.push (F := fun b => b = w.heap.size) ((Below.refl _ _).alloc (Nat.le_refl _) _) ⟨heap_alloc_new w _, rfl⟩ (fun b hb => by subst hb; simp)
/-- a store into a block -/
theorem St.blk_set {i g : Nat} {t : TypeId} {cs : Array Value} (h : St W w L) (hi : L[i]? = some (blk g t cs)) (j : Nat) (u : Value) :
    St W (w.setCell ⟨g, j, none⟩ u) (L.set i (blk g t (cs.setIfInBounds j u))) := by
  obtain ⟨F1, h1, ⟨h2, hF⟩, h3⟩ := h.upd hi
  exact h3 _ _ F1 (some g) ⟨heap_setCell_same w g j cs t u h2, hF⟩ ⟨rfl, rfl, rfl, by simp [World.setCell], fun k _ hk => Below.heap_setCell _ _ _ _ (fun e => hk (by subst e; rfl))⟩ (fun k hk => by cases hk; exact hF) (fun b hb => .inl hb)
theorem St.blk_at {i g : Nat} {t : TypeId} {cs : Array Value} (h : St W w L) (hi : L[i]? = some (blk g t cs)) :
    W.heap.size ≤ g ∧ g < w.heap.size ∧ w.heap[g]? = some (.cells cs t (0, 0)) := by
  obtain ⟨F, h1, h2, h3⟩ := h.get hi
  exact ⟨(h1 _ h3).1, (h1 _ h3).2, h2⟩
theorem St.blk_cell {i g : Nat} {t : TypeId} {cs : Array Value} (h : St W w L) (hi : L[i]? = some (blk g t cs)) (j : Nat) : w.cell? ⟨g, j, none⟩ = cs[j]? :=
  cell_of_row w g j cs t (0, 0) (h.blk_at hi).2.2
theorem St.blk_frozen {i g : Nat} {t : TypeId} {cs : Array Value} (h : St W w L) (hi : L[i]? = some (blk g t cs)) (j : Nat) : w.frozen? ⟨g, j, none⟩ = false := by
  simp [World.frozen?, (h.blk_at hi).2.2]
theorem St.row_own {i : Nat} {e : TypeId} {size n : Nat} {v : Value} {xs : List Value} (h : St W w L) (hi : L[i]? = some (row e size v n xs)) : w.ownsRow W.heap.size e size v n xs := by
  obtain ⟨F, h1, ⟨h2, h2'⟩, h3⟩ := h.get hi
  · refine ⟨h2, ?_⟩
    rcases h2' with h2' | ⟨g, cap, cur, rfl, hb, hg, r⟩
    · exact .inl h2'
    · exact .inr ⟨g, cap, cur, rfl, (h1 g (h3 g rfl)).1, hg, r⟩
/-- what the laws on append leave, put back -/
theorem St.row_grown {i : Nat} {e : TypeId} {size n n' : Nat} {v v' : Value} {xs xs' : List Value} (h : St W w L) (hi : L[i]? = some (row e size v n xs))
    (ho : w'.ownsRow W.heap.size e size v' n' xs') (hg : w.grownBy w' v.ownBlock) (hv : ∀ g, v'.ownBlock = some g → v.ownBlock = some g ∨ w.heap.size ≤ g) : St W w' (L.set i (row e size v' n' xs')) := by
  obtain ⟨F1, h1, ⟨h2, hF⟩, h3⟩ := h.upd hi
  refine h3 w' _ (fun b => v'.ownBlock = some b) v.ownBlock ⟨⟨ho.1, ?_⟩, fun g hg => hg⟩ hg (fun g hg => hF g hg) (fun b hb => ?_)
  · rcases ho.2 with h2' | ⟨g, cap, cur, rfl, hb, hg, r⟩
    · exact .inl h2'
    · exact .inr ⟨g, cap, cur, rfl, Nat.zero_le _, hg, r⟩
  · rcases hv b hb with h | h
    · exact .inl (hF b h)
    · exact .inr ⟨h, (ho.lt b hb).2⟩
theorem St.row_form {i : Nat} {e : TypeId} {size n : Nat} {v : Value} {xs : List Value} (h : St W w L) (hi : L[i]? = some (row e size v n xs)) (hn : 0 < n) :
    ∃ g cap, v = .slice (some ⟨g, 0, none⟩) n cap ∧ n ≤ cap ∧ W.heap.size ≤ g ∧ g < w.heap.size ∧ (∀ j, j < n * size → w.cell? ⟨g, j, none⟩ = xs[j]?) ∧ ∀ j, w.frozen? ⟨g, j, none⟩ = false := by
  have ho := h.row_own hi
  have ho' := ho
  rcases ho.2 with ⟨_, h0⟩ | ⟨g, cap, cur, rfl, hb, hg, hc, r⟩
  · omega
  · exact ⟨g, cap, rfl, hc, hb, (ho.lt g rfl).2, ho'.cellAt, ho'.frozenAt⟩
theorem St.row_set {i g cap : Nat} {e : TypeId} {size n : Nat} {xs : List Value} (h : St W w L) (hi : L[i]? = some (row e size (.slice (some ⟨g, 0, none⟩) n cap) n xs)) (j : Nat) (u : Value) :
    St W (w.setCell ⟨g, j, none⟩ u) (L.set i (row e size (.slice (some ⟨g, 0, none⟩) n cap) n (xs.set j u))) :=
  h.row_grown hi ((h.row_own hi).stored j u).1 ((h.row_own hi).stored j u).2 (fun _ hg => .inl hg)
/-- a row read -/
theorem St.row_rd {i : Nat} {e : TypeId} {size n : Nat} {v : Value} {xs : List Value} (h : St W w L) (hi : L[i]? = some (row e size v n xs)) : Rd w (fun b => W.heap.size ≤ b ∧ b < w.heap.size) size v n xs := by
  have ho := h.row_own hi
  have hc := @World.ownsRow.cells _ _ _ _ _ _ _ ho
  have hl := ho.lt
  rcases ho.2 with ⟨rfl, rfl⟩ | ⟨g, cap, cur, rfl, hb, hg, h1, h2, r⟩
  · exact ⟨none, 0, rfl, Nat.le_refl _, Nat.zero_le _, (by have := ho.1; simpa using this), (fun _ => rfl), (fun h => absurd h (by omega))⟩
  · exact ⟨_, cap, rfl, h1, h2, ho.1, (fun h => by cases h), fun _ => ⟨g, 0, rfl, ⟨hb, (hl g rfl).2⟩, (hl g rfl).2, fun j u hu => by have := hc (g := g) rfl j u hu; rwa [Addr.add_lit] at this⟩⟩
end

/-- slice type t has elements of type e, of size cells and so many bytes, zero value z -/
def Elt (P : Program) (t e : TypeId) (z : Value) (size bytes : Nat) : Prop :=
  P.underlying t = some (.slice e) ∧ (P.info? e).map (fun i => (i.zero, i.size, i.bytes)) = some (some z, size, bytes) ∧ z.cells.size = size ∧ 0 < size
theorem run_append_of_nil {P : Program} (w : World) (base : Nat) (t ty e : TypeId) (i : TypeInfo) (size : Nat) (ht : P.underlying t = some (.slice e)) (hi : P.info? e = some i)
    (v : Value) (n : Nat) (xs : List Value) (hown : w.ownsRow base e size v n xs) (c : Nat) : (Builtin.append_ #[t, t] ty #[v, .slice none 0 c]).run P w = .ok v w := by
  rcases hown.2 with ⟨rfl, rfl⟩ | ⟨g, cap, cur, rfl, _, _, hnc, _⟩
  · simp [Builtin.append_, run_underlying ht, sizeOf, typeInfo, hi, Builtin.lenOf, Builtin.firstCells]
  · simp [Builtin.append_, run_underlying ht, sizeOf, typeInfo, hi, Builtin.lenOf, Builtin.firstCells, hnc, storeCells]
theorem run_append_st {P : Program} {W w : World} {L : List Asr} {k : Nat} {t e : TypeId} (ty : TypeId) {z : Value} {size bytes : Nat} (hE : Elt P t e z size bytes)
    {v : Value} {n : Nat} {xs : List Value} (S : St W w L) (hk : L[k]? = some (row e size v n xs))
    {F : Nat → Prop} {vx : Value} {m : Nat} {news : List Value} (hr : Rd w F size vx m news) (h1 : ∀ u ∈ news, u.oneCell' = true)
    (hbytes : (n + m) * bytes ≤ 140737488355328) (h63 : n + m ≤ 140737488355328) :
    ∃ v' w', (Builtin.append_ #[t, t] ty #[v, vx]).run P w = .ok v' w' ∧ St W w' (L.set k (row e size v' (n + m) (xs ++ news))) ∧ w.grownBy w' v.ownBlock := by
  obtain ⟨ht, hinfo, hzs, hsz⟩ := hE
  obtain ⟨i, hi, hz, hsize, hby⟩ := info_parts hinfo
  have hown := S.row_own hk
  obtain ⟨A, c, rfl, _, _, hlen, hnone, hsome⟩ := hr
  have h63' : n + m ≤ maxLen := by unfold maxLen; omega
  rcases A with _ | ad
  · have hc := hnone rfl
    have hm : m = 0 := by omega
    subst hm
    have hn : news = [] := List.eq_nil_of_length_eq_zero (by simpa using hlen)
    subst hn
    refine ⟨v, w, run_append_of_nil w W.heap.size t ty e i size ht hi v n xs hown c, ?_, World.grownBy.refl w _⟩
    have := S.row_grown (w' := w) hk (v' := v) (n' := n + 0) (xs' := xs ++ []) (by simpa using hown) (World.grownBy.refl w _) (fun _ h => .inl h)
    exact this
  · have hcells : ∀ j u, news[j]? = some u → w.cell? (ad.add j) = some u := by
      intro j u hu
      rcases Nat.eq_zero_or_pos m with h0 | h0
      · subst h0
        have hn : news = [] := List.eq_nil_of_length_eq_zero (by simpa using hlen)
        subst hn
        simp at hu
      · obtain ⟨b, o, hA, _, _, hc⟩ := hsome h0
        cases hA
        rw [Addr.add_lit]; exact hc j u hu
    obtain ⟨v', w', hrun, h2, h3, _, h5⟩ := run_append_own_at (P := P) w W.heap.size t ty e i z size bytes ht hi hz hsize hby hzs hsz v n xs hown ad m c news hlen hcells h1 h63' hbytes S.size
    refine ⟨v', w', hrun, S.row_grown hk h2 h3 (fun g hg => ?_), h3⟩
    rcases h5 with h5 | h5
    · exact .inl (by rw [← h5]; exact hg)
    · rw [h5] at hg; cases hg; exact .inr (Nat.le_refl _)
theorem wpList_append_st {P : Program} {ops : Array Oper} {rest : List Oper} {o : Oper} {a : Act} {Q : Exit → Act → World → Prop} {W w : World} {L : List Asr} {k : Nat} {t e : TypeId} {z : Value} {size bytes : Nat} (hE : Elt P t e z size bytes)
    (hgd : o.guard = none) (s x : Operand) (ho : o.op = .call { callee := .builtin .append, args := #[s, x], argTypes := #[t, t] })
    {v : Value} {n : Nat} {xs : List Value} (hs : a.eval s = v) (S : St W w L) (hk : L[k]? = some (row e size v n xs))
    {F : Nat → Prop} {vx : Value} {m : Nat} {news : List Value} (hx : a.eval x = vx) (hr : Rd w F size vx m news) (h1 : ∀ u ∈ news, u.oneCell' = true)
    (hbytes : (n + m) * bytes ≤ 140737488355328) (h63 : n + m ≤ 140737488355328)
    (h : ∀ v' w', St W w' (L.set k (row e size v' (n + m) (xs ++ news))) → w.grownBy w' v.ownBlock → wpList P ops Q rest (a.put o.dst v') w') : wpList P ops Q (o :: rest) a w := by
  refine wpList_plain hgd fun K hK => ?_
  obtain ⟨v', w', hrun, h2, h3⟩ := run_append_st o.type hE S hk hr h1 hbytes h63
  unfold Oper.wp execOp
  simp only [ho, resolve, invoke, builtin, Sem.run_bind, Sem.run_pure, Result.andThen_ok, List.map_toArray, List.map_cons, List.map_nil, hs, hx, hrun]
  exact hK _ _ (h v' w' h2 h3)
theorem wpList_make_st {P : Program} {ops : Array Oper} {rest : List Oper} {o : Oper} {a : Act} {Q : Exit → Act → World → Prop} {W w : World} {L : List Asr} {t e : TypeId} {z : Value} {size bytes : Nat} (hE : Elt P t e z size bytes)
    (hgd : o.guard = none) (l c : Operand) (ho : o.op = .makeSlice t l c) {kl kc : IntKind} {n : Nat} (hl : a.eval l = .int kl (n : Int)) (hc : a.eval c = .int kc (n : Int)) (S : St W w L)
    (hbytes : bytes * n ≤ 281474976710656) (h63 : n ≤ 281474976710656)
    (h : ∀ w' g, St W w' (L ++ [row e size (.slice (some ⟨g, 0, none⟩) n n) n (madeCells z.cells (n * size)).toList]) → w.heap.size ≤ g → Below w.heap.size w w' → wpList P ops Q rest (a.put o.dst (.slice (some ⟨g, 0, none⟩) n n)) w') : wpList P ops Q (o :: rest) a w := by
  obtain ⟨ht, hinfo, hzs, hsz⟩ := hE
  obtain ⟨i, hi, hz, hsize, hby⟩ := info_parts hinfo
  have h63' : n ≤ maxLen := by unfold maxLen; omega
  refine wpList_plain hgd fun K hK => ?_
  obtain ⟨w', hrun, r1, r2⟩ := run_make_full (P := P) w w.heap.size t e i z size ht hi hz hsize kl kc n (by rw [hby]; exact hbytes) h63' (Nat.le_refl _)
  unfold Oper.wp
  simp [execOp, ho, hl, hc, hrun, Result.andThen]
  have hb : Below w.heap.size w w' := (Below.refl _ _).grown r2 (Nat.le_refl _) (fun k hk => by cases hk)
  refine hK _ _ (h w' w.heap.size (S.push (F := fun b => b = w.heap.size) hb ⟨⟨r1.1, ?_⟩, fun g hg => by simpa [Value.ownBlock] using hg.symm⟩ fun b hb' => ?_) (Nat.le_refl _) hb)
  · rcases r1.2 with h' | ⟨g, cap, cur, h1, _, h3⟩
    · exact .inl h'
    · exact .inr ⟨g, cap, cur, h1, Nat.zero_le _, h3⟩
  · subst hb'
    exact ⟨Nat.le_refl _, (r1.lt _ rfl).2⟩
theorem rd_new (w : World) {size m : Nat} (cs : Array Value) (t : TypeId) (hl : cs.size = m * size) (hm : m ≤ 140737488355328) (F : Nat → Prop) (hF : F w.heap.size) : Rd (w.alloc (.cells cs t)) F size (.slice (some ⟨w.heap.size, 0, none⟩) m m) m cs.toList := by
  refine ⟨_, m, rfl, Nat.le_refl _, by unfold maxLen; omega, by simpa using hl, (fun h => by cases h), fun hn => ?_⟩
  refine ⟨_, 0, rfl, hF, by simp, fun j u hu => ?_⟩
  rw [Nat.zero_add, cell_of_row (w.alloc (.cells cs t)) w.heap.size j cs t (0, 0) (heap_alloc_new w _)]
  simpa using hu
theorem rd_cells {w : World} {F : Nat → Prop} {g m : Nat} {xs : List Value} (hg : g < w.heap.size) (hm : xs.length ≤ 140737488355328 ∧ xs.length = m) (hc : ∀ j u, xs[j]? = some u → w.cell? ⟨g, j, none⟩ = some u) (hF : F g := by trivial) : Rd w F 1 (.slice (some ⟨g, 0, none⟩) m m) m xs :=
  ⟨_, m, rfl, Nat.le_refl _, by unfold maxLen; omega, by omega, (fun h => by cases h), fun _ => ⟨g, 0, rfl, hF, hg, fun j u hu => by rw [Nat.zero_add]; exact hc j u hu⟩⟩
/-- a call of g enters g -/
def Enters (P : Program) (g : FuncId) : Prop := ∀ (args : Array Value) (w : World), (callFunc g args).run P w = .ok (.enter g args) w
theorem enters {P : Program} {g : FuncId} {fn : Func} {c : Code} (hf : P.funcs[g]? = some fn) (h1 : (fn.name == "runtime.NumGoroutine") = false) (hb : fn.body = some c) : Enters P g := by
  intro args w
  have h1 : fn.name ≠ "runtime.NumGoroutine" := by simpa using h1
  simp [callFunc, hf, h1, hb, mark]
end Go.Mem
/- A drawn region whose first n operations each have one value in every world of a class C (loads, arithmetic, calls that may make memory), and whose other operations
   follow in one forced order: one walk in the order of the text serves every order. After the kit's Derived/StillTail.lean (one world) and Derived/Deep/Quiet.lean (a class of worlds, no tail). -/
namespace Go.Mem
open Go Go.RowKit
variable {P : Program} {ops : Array Oper} {md : Region.Mode} {C : World → Prop}
/-- whatever is picked within the head -/
def headAny (P : Program) (md : Region.Mode) (ops : Array Oper) (C : World → Prop) (n : Nat) (L : Array Bool → Act → Prop) : Nat → Array Bool → Act → Prop
  | 0, ls, a => L ls a
  | k + 1, ls, a => Region.ready md ops ls ≠ [] ∧ ∀ i ∈ Region.ready md ops ls, i < n ∧ qOp P ops C i (headAny P md ops C n L k (ls.setIfInBounds i true)) a
theorem headAny_sound {n g : Nat} {L : Array Bool → Act → Prop} {Q : Exit → Act → World → Prop} (hL : ∀ ls a w, C w → L ls a → wpAny P md ops Q g ls a w) (k : Nat) :
    ∀ (ls : Array Bool) (a : Act) (w : World), C w → headAny P md ops C n L k ls a → wpAny P md ops Q (k + g) ls a w := by
  induction k with
  | zero => intro ls a w hw h; rw [Nat.zero_add]; exact hL ls a w hw h
  | succ k ih =>
    intro ls a w hw h
    have e : k + 1 + g = (k + g) + 1 := by omega
    rw [e]
    refine ⟨fun h0 => absurd h0 h.1, fun i hi => ?_⟩
    exact wpOp_of_qOp hw (fun a' w' hw' h' => ih _ a' w' hw' h') (h.2 i hi).2
section
variable {n i : Nat} {oi : Oper} {v : Value} {L : Array Bool → Act → Prop}
/-- an operation of the head that may come up, and is apart from the others, may come first -/
theorem headAny_first (hi : ops[i]? = some oi) (hsel : ∀ (j : Nat) (o : Oper) cs b, ops[j]? = some o → o.op ≠ .select cs b) (hs : Region.sinkB md ops n = true) (hc : Region.chainB md ops n = true)
    (hn : n < ops.size) (hin : i < n) (hend : ∀ ls a, L ls a → ∀ j ∈ Region.ready md ops ls, n ≤ j) (k : Nat) :
    ∀ (ls : Array Bool) (a : Act), HeadInv md ops n ls →
      (∀ j oj, ops[j]? = some oj → j ≠ i → ls.getD j true = false → (∀ e ∈ oj.after, Region.binds md e = true → e.on ≠ i) → oi.apart ops oj = true) →
      i ∈ Region.ready md ops ls → YieldsIn P ops C oi v a → headAny P md ops C n L k (ls.setIfInBounds i true) (a.put oi.dst v) → headAny P md ops C n L (k + 1) ls a := by
  have inHead : ∀ (ls : Array Bool), HeadInv md ops n ls → i ∈ Region.ready md ops ls → ∀ j ∈ Region.ready md ops ls, j < n := by
    intro ls inv hr j hj
    rcases Nat.lt_or_ge j n with h | h
    · exact h
    · exact absurd hj (tail_waits hs hc hn inv _ i rfl hin (mem_ready.1 hr).1 j h)
  induction k with
  | zero =>
    intro ls a inv _ hr hy H
    refine ⟨fun h => (by rw [h] at hr; cases hr), fun j hj => ⟨inHead ls inv hr j hj, ?_⟩⟩
    by_cases e : j = i
    · subst e; exact hy.qOp hi H
    · have h1 := hend _ _ H j (ready_mono hj e)
      have h2 := inHead ls inv hr j hj
      omega
  | succ k ih =>
    intro ls a inv hfree hr hy H
    refine ⟨fun h => (by rw [h] at hr; cases hr), fun j hj => ⟨inHead ls inv hr j hj, ?_⟩⟩
    by_cases e : j = i
    · subst e; exact hy.qOp hi H
    · obtain ⟨hju, oj, hoj, hall⟩ := mem_ready.1 hj
      have hnot : ∀ d ∈ oj.after, Region.binds md d = true → d.on ≠ i := fun d hd hb hq => by
        have h1 := hall d hd hb
        rw [hq, getD_both (mem_ready.1 hr).1] at h1
        cases h1
      have h1 := qOp_put hoj (hfree j oj hoj e hju hnot) (fun cs b => hsel i oi cs b hi) (fun cs b => hsel j oj cs b hoj) hy (H.2 j (ready_mono hj e)).2
      refine qOp_mono (fun a' h2 => ?_) h1
      refine ih (ls.setIfInBounds j true) a' (inv.set hj (inHead ls inv hr j hj)) (fun m om hm hmi hmu hno => ?_) (ready_mono hr (Ne.symm e)) h2.1 ?_
      · refine hfree m om hm hmi ?_ hno
        by_cases hjm : j = m
        · subst hjm; exact hju
        · rw [getD_set_ne true hjm] at hmu; exact hmu
      · rw [Array.setIfInBounds_comm _ _ e]
        exact h2.2
end
theorem headAny_lex {n g : Nat} {R : Act → Prop} (hsel : Region.noSelect ops = true) (hs : Region.sinkB md ops n = true) (hc : Region.chainB md ops n = true) (hn : n < ops.size) (l : List Oper) :
    ∀ (k : Nat) (ls : Array Bool) (a : Act), (∀ j, j < l.length → l[j]? = ops[k + j]?) → k + l.length = n → HeadInv md ops n ls → Region.lexHead md ops g l.length k ls = true → wpQuiet P ops C R l a →
      headAny P md ops C n (fun ls' a' => Region.seqB md ops g n ls' = true ∧ R a') l.length ls a := by
  induction l with
  | nil =>
    intro k ls a _ hk _ hB h
    obtain rfl : k = n := by simpa using hk
    exact ⟨by simpa [Region.lexHead] using hB, h⟩
  | cons o l ih =>
    intro k ls a hl hk inv hB h
    have h0 : ops[k]? = some o := by simpa using (hl 0 (by simp)).symm
    simp only [List.length_cons] at hk
    simp only [List.length_cons, Region.lexHead, Bool.and_eq_true] at hB
    have hkn : k < n := by omega
    have hr : k ∈ Region.ready md ops ls := by simpa using hB.1.1
    have hq : qOp P ops C k (wpQuiet P ops C R l) a := by unfold qOp; simp only [h0]; exact h
    obtain ⟨v, hy, hK⟩ := yieldsIn_of_qOp h0 hq
    refine headAny_first h0 (Region.noSelect_spec hsel) hs hc hn hkn (fun ls' a' hL => seqB_ready hL.1) l.length ls a inv (Region.free_spec h0 hB.1.2) hr hy ?_
    refine ih (k + 1) _ _ (fun j hj => ?_) (by omega) (inv.set hr hkn) hB.2 hK
    have := hl (j + 1) (by simp only [List.length_cons]; omega)
    simpa [Nat.add_assoc, Nat.add_comm 1 j] using this
/-- the law -/
theorem wp_quiet_tail {id : Nat} {Q : Exit → Act → World → Prop} {a : Act} {w : World} {l : List Oper} (n : Nat) (C : World → Prop) (hm : P.follows .mixedOrders = true) (hB : Region.lexTailB .any l.toArray n = true) (hC : C w.drew)
    (h : wpQuiet P l.toArray C (fun a' => ∀ w', C w' → wpList P l.toArray Q (l.drop n) a' w') (l.take n) a) : (Code.region id l.toArray true).wp P Q a w := by
  simp only [Region.lexTailB, Bool.and_eq_true, decide_eq_true_eq] at hB
  obtain ⟨⟨⟨⟨hsel, hn⟩, hs⟩, hc⟩, hlex⟩ := hB
  have hn' : n < l.length := by simpa using hn
  have htl : (l.take n).length = n := by simp; omega
  have hdl : (l.drop n).length = l.toArray.size - n := by simp
  have inv : HeadInv .any l.toArray n (Array.replicate l.toArray.size false) :=
    ⟨by simp, fun j oj _ hl => (by rw [getD_replicate_false] at hl; cases hl), fun t _ ht => getD_in (by simpa using ht) (getD_replicate_false _ _)⟩
  have H := headAny_lex (md := .any) (g := l.toArray.size - n) hsel hs hc hn (l.take n) 0 _ a (fun j hj => by
    have hj' : j < n := by rw [htl] at hj; exact hj
    simp [hj']) (by simpa using htl) inv (by rw [htl]; exact hlex) h
  refine wp_region_any hm ?_
  have H2 := headAny_sound (Q := Q) (g := l.toArray.size - n) (fun ls a' w' hw' hL => by
    have := wpAny_of_seq (P := P) (md := .any) (Q' := Q) (l.drop n) n ls a' w' (fun j => by simp [List.getElem?_drop]) (by rw [hdl]; exact hL.1) (hL.2 w' hw')
    rwa [hdl] at this) _ _ _ _ hC H
  rw [htl, show n + (l.toArray.size - n) = l.toArray.size by omega] at H2
  exact H2
/-- the worlds that meet a condition, as a type: so that the walk's facts 'for every x' serve -/
structure Wd (K : World → Prop) where
  w : World
  h : K w
theorem wp_cls {id : Nat} {Q : Exit → Act → World → Prop} {a : Act} {w : World} {l : List Oper} (n : Nat) (K : World → Prop) (hm : P.follows .mixedOrders = true) (hB : Region.lexTailB .any l.toArray n = true) (hC : K w.drew)
    (h : Nonempty (Wd K) → wpQuiet P l.toArray (fun w' => ∃ x : Wd K, w' = x.w) (fun a' => ∀ x : Wd K, wpList P l.toArray Q (l.drop n) a' x.w) (l.take n) a) : (Code.region id l.toArray true).wp P Q a w := by
  refine wp_quiet_tail n (fun w' => ∃ x : Wd K, w' = x.w) hm hB ⟨⟨_, hC⟩, rfl⟩ ?_
  have e : (fun a' => ∀ w', (∃ x : Wd K, w' = x.w) → wpList P l.toArray Q (l.drop n) a' w') = fun a' => ∀ x : Wd K, wpList P l.toArray Q (l.drop n) a' x.w := by
    funext a'
    exact propext ⟨fun h x => h _ ⟨x, rfl⟩, fun h w' ⟨x, hx⟩ => hx ▸ h x⟩
  rw [e]
  exact h ⟨⟨_, hC⟩⟩
/-- a call that leaves the world alone -/
theorem cls_same {f : FuncId} {args : Array Value} {K : World → Prop} {x : Wd K} {v : Value} (h : Calls P f args x.w fun e w' => e = .returned v ∧ x.w = w') :
    Calls P f args x.w fun e w' => e = .returned v ∧ ∃ y : Wd K, w' = y.w := h.mono fun _ _ ⟨he, hw⟩ => ⟨he, ⟨x, hw.symm⟩⟩
/-- a call that makes memory alone -/
theorem cls_below {f : FuncId} {args : Array Value} {K : World → Prop} {x : Wd K} {v : Value} (hK : ∀ w w', K w → Below w.heap.size w w' → K w') (h : Calls P f args x.w fun e w' => e = .returned v ∧ Below x.w.heap.size x.w w') :
    Calls P f args x.w fun e w' => e = .returned v ∧ ∃ y : Wd K, w' = y.w := h.mono fun _ w' ⟨he, hw⟩ => ⟨he, ⟨⟨w', hK _ _ x.h hw⟩, rfl⟩⟩
end Go.Mem
/- The seat's program, the memory framework, the readings of chapter 8's data. -/
namespace Go.Sheet
def Slot.cells (s : Slot) : List Value := [.int .i64 s.m, .int .i64 s.h, .int .i64 s.p]
@[reducible] def Slot.val (s : Slot) : Value := .agg #[.int .i64 s.m, .int .i64 s.h, .int .i64 s.p]
def Wish.cells (s : Wish) : List Value := [.int .i64 s.s, .int .i64 s.w]
@[reducible] def Wish.val (s : Wish) : Value := .agg #[.int .i64 s.s, .int .i64 s.w]
/-- a request as it lies in memory: its wishes' slice, and what they are -/
structure Req where
  name : ByteArray
  g : Bool
  wa : Option Addr
  wn : Nat
  wc : Nat
  ws : List Wish
@[reducible] def Req.wv (r : Req) : Value := .slice r.wa r.wn r.wc
def Req.cells (s : Req) : List Value := [.string s.name, .bool s.g, .slice s.wa s.wn s.wc]
@[reducible] def Req.val (s : Req) : Value := .agg #[.string s.name, .bool s.g, .slice s.wa s.wn s.wc]
def Req.rq (r : Req) : RQ := ⟨r.name.data.toList, r.g, r.ws⟩
open Go.Mem in
/-- v is a slice of requests rs, their wishes with them -/
def RdReqs (w : World) (S : Nat → Prop) (v : Value) (n : Nat) (rs : List Req) : Prop :=
  Rd w S 3 v n (rs.flatMap Req.cells) ∧ ∀ r ∈ rs, Rd w S 2 r.wv r.wn (r.ws.flatMap Wish.cells) ∧ r.name.size ≤ 9223372036854775807
end Go.Sheet
