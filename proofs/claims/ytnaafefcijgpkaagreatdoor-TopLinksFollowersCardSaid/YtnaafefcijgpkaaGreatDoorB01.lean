/- Part 1 of the walks of the golf union's program: Mem, Types, Tail, TailW, M1. -/
import Derived.WalkKit
import Derived.Laws.OwnMore
import Derived.Deep.AppendLies
import Derived.Deep.Draws
import Derived.Lib.Hide
import Derived.Maps.AppendAt
import Derived.RegionTactic
import Derived.OwnWalk
import Derived.StillTailTactics
import Derived.StillTail
import Derived.Deep.Quiet
import Derived.BigQuiet
import Derived.Deep.QuietTactic
import Derived.Below
import Derived.OrdersHeld
import Derived.Deep.RegionHeld3
set_option linter.unusedVariables false
set_option linter.unusedSimpArgs false
set_option linter.unusedSectionVars false
set_option linter.constructorNameAsVariable false
namespace Go.Mem
open Go.RowKit
theorem block_of_add (a : Addr) (n : Nat) : (a.add n).block = a.block := by unfold Addr.add; split <;> rfl
theorem add_of_add (a : Addr) (i j : Nat) : (a.add i).add j = a.add (i + j) := by
  unfold Addr.add
  by_cases hi : i = 0 <;> by_cases hj : j = 0 <;> simp [hi, hj, Nat.add_assoc]

/-- v is a slice of n elements of size cells whose cells are xs; only blocks in S are read -/
def Rd (w : World) (S : Nat → Prop) (size : Nat) (v : Value) (n : Nat) (xs : List Value) : Prop :=
  ∃ A c, v = .slice A n c ∧ n ≤ c ∧ c ≤ maxLen ∧ xs.length = n * size ∧ (A = none → c = 0) ∧
    (0 < n → ∃ b o, A = some ⟨b, o, none⟩ ∧ S b ∧ b < w.heap.size ∧ ∀ j u, xs[j]? = some u → w.cell? ⟨b, o + j, none⟩ = some u)
section
variable {w w' : World} {S S' : Nat → Prop} {size n : Nat} {v : Value} {xs : List Value}
theorem Rd.nil (w : World) (S : Nat → Prop) (size : Nat) : Rd w S size (.slice none 0 0) 0 [] :=
  ⟨none, 0, rfl, Nat.le_refl _, Nat.zero_le _, by simp, fun _ => rfl, fun h => absurd h (by omega)⟩
theorem Rd.loc (h : Rd w S size v n xs) (hs : w.heap.size ≤ w'.heap.size) (hk : ∀ b, S b → w'.heap[b]? = w.heap[b]?) : Rd w' S size v n xs := by
  obtain ⟨A, c, hv, h1, h2, h3, h4, h5⟩ := h
  refine ⟨A, c, hv, h1, h2, h3, h4, fun hn => ?_⟩
  obtain ⟨b, o, hA, hS, hb, hc⟩ := h5 hn
  exact ⟨b, o, hA, hS, by omega, fun j u hu => (World.cell?_of_block (hk b hS)).trans (hc j u hu)⟩
theorem Rd.mono (h : Rd w S size v n xs) (hS : ∀ b, b < w.heap.size → S b → S' b) : Rd w S' size v n xs := by
  obtain ⟨A, c, hv, h1, h2, h3, h4, h5⟩ := h
  refine ⟨A, c, hv, h1, h2, h3, h4, fun hn => ?_⟩
  obtain ⟨b, o, hA, hs, hb, hc⟩ := h5 hn
  exact ⟨b, o, hA, hS b hb hs, hb, hc⟩
theorem Rd.now (h : Rd w S size v n xs) : Rd w (· < w.heap.size) size v n xs := h.mono fun _ hb _ => hb
theorem Rd.below {B : Nat} (h : Rd w (· < B) size v n xs) (hb : Below B w w') : Rd w' (· < B) size v n xs := h.loc hb.size hb.block
theorem Rd.later (h : Rd w (· < w.heap.size) size v n xs) (hb : Below w.heap.size w w') : Rd w' (· < w'.heap.size) size v n xs := (h.below hb).now
theorem Rd.len (h : Rd w S size v n xs) : xs.length = n * size := let ⟨_, _, _, _, _, h3, _⟩ := h; h3
theorem Rd.le (h : Rd w S size v n xs) : n ≤ 9223372036854775807 := by
  obtain ⟨A, c, hv, h1, h2, _⟩ := h
  unfold maxLen at h2; omega
theorem Rd.open_ (h : Rd w S size v n xs) : ∃ A c, v = .slice A n c ∧ n ≤ c ∧ c ≤ maxLen ∧ Rd w S size (.slice A n c) n xs := by
  have h' := h
  obtain ⟨A, c, hv, h1, h2, _⟩ := h
  subst hv
  exact ⟨A, c, rfl, h1, h2, h'⟩
theorem Rd.caps {A : Option Addr} {m c : Nat} (h : Rd w S size (.slice A m c) n xs) : n ≤ c ∧ c ≤ maxLen := by
  obtain ⟨A', c', hv, h1, h2, _⟩ := h
  injection hv with e1 e2 e3
  subst e3
  exact ⟨h1, h2⟩
theorem Rd.addr {A : Option Addr} {m c : Nat} (h : Rd w S size (.slice A m c) n xs) (hn : 0 < n) :
    ∃ b o, A = some ⟨b, o, none⟩ ∧ S b ∧ b < w.heap.size ∧ ∀ j u, xs[j]? = some u → w.cell? ⟨b, o + j, none⟩ = some u := by
  obtain ⟨A', c', hv, h1, h2, h3, h4, h5⟩ := h
  injection hv with e1 e2 e3
  subst e1 e2 e3
  exact h5 hn
/-- one cell elements: the k-th -/
theorem Rd.at_ {A : Option Addr} {m c k : Nat} (h : Rd w S 1 (.slice A m c) n xs) (hk : k < n) :
    ∃ b o u, A = some ⟨b, o, none⟩ ∧ S b ∧ xs[k]? = some u ∧ w.cell? ⟨b, o + k, none⟩ = some u := by
  obtain ⟨b, o, e, hb, _, hc⟩ := h.addr (by omega)
  have hl : k < xs.length := by have := h.len; omega
  exact ⟨b, o, xs[k], e, hb, List.getElem?_eq_getElem hl, hc k _ (List.getElem?_eq_getElem hl)⟩
/-- ints: the k-th -/
theorem Rd.int {A : Option Addr} {m c k : Nat} {q : IntKind} {l : List Int} (h : Rd w S 1 (.slice A m c) n (l.map (Value.int q))) (hk : k < n) :
    ∃ b o x, A = some ⟨b, o, none⟩ ∧ l[k]? = some x ∧ w.cell? ⟨b, o + k, none⟩ = some (.int q x) := by
  obtain ⟨b, o, u, e, _, hx, hc⟩ := h.at_ hk
  rw [List.getElem?_map] at hx
  cases hx' : l[k]? with
  | none => rw [hx'] at hx; cases hx
  | some x => rw [hx'] at hx; cases hx; exact ⟨b, o, x, e, rfl, hc⟩
end
theorem Rd.val {w : World} {S : Nat → Prop} {n : Nat} {A : Option Addr} {m c k : Nat} {l : List Value} (h : Rd w S 1 (.slice A m c) n (l.map id)) (hk : k < n) :
    ∃ b o x, A = some ⟨b, o, none⟩ ∧ l[k]? = some x ∧ w.cell? ⟨b, o + k, none⟩ = some x := by
  obtain ⟨b, o, u, e, _, hx, hc⟩ := h.at_ hk
  exact ⟨b, o, u, e, by simpa using hx, hc⟩
theorem flatMap_at {α : Type} {f : α → List Value} {s : Nat} : ∀ {l : List α} {k j : Nat} {x : α} {u : Value}, (∀ y ∈ l, (f y).length = s) → l[k]? = some x → (f x)[j]? = some u → (l.flatMap f)[k * s + j]? = some u := by
  intro l
  induction l with
  | nil => intro k j x u _ h; simp at h
  | cons y l ih =>
    intro k j x u hs hk hj
    cases k with
    | zero =>
      simp only [List.getElem?_cons_zero, Option.some.injEq] at hk
      subst hk
      have hjl := (List.getElem?_eq_some_iff.1 hj).1
      simp only [List.flatMap_cons, Nat.zero_mul, Nat.zero_add]
      rw [List.getElem?_append_left hjl]; exact hj
    | succ k =>
      simp only [List.getElem?_cons_succ] at hk
      have hy : (f y).length = s := hs y (by simp)
      have hle : s ≤ (k + 1) * s + j := by rw [Nat.add_mul]; omega
      simp only [List.flatMap_cons]
      rw [List.getElem?_append_right (by omega), hy]
      have e : (k + 1) * s + j - s = k * s + j := by rw [Nat.add_mul]; omega
      rw [e]
      exact ih (fun z hz => hs z (by simp [hz])) hk hj
theorem flatMap_len {α : Type} {f : α → List Value} {size : Nat} (hs : ∀ y, (f y).length = size) (l : List α) : (l.flatMap f).length = l.length * size := by
  induction l with
  | nil => simp
  | cons y l ih => rw [List.flatMap_cons, List.length_append, ih, hs, List.length_cons, Nat.add_mul]; omega
theorem Rd.count {w : World} {S : Nat → Prop} {size n : Nat} {α : Type} {f : α → List Value} {l : List α} {v : Value} (hs : ∀ y, (f y).length = size) (h0 : 0 < size) (h : Rd w S size v n (l.flatMap f)) : n = l.length :=
  Nat.eq_of_mul_eq_mul_right h0 (h.len.symm.trans (flatMap_len hs l))
theorem Rd.count1 {w : World} {S : Nat → Prop} {n : Nat} {α : Type} {f : α → Value} {l : List α} {v : Value} (h : Rd w S 1 v n (l.map f)) : n = l.length := by
  have := h.len; simpa using this.symm
/-- elements of several cells: the k-th element -/
theorem Rd.elem {w : World} {S : Nat → Prop} {size n : Nat} {α : Type} {f : α → List Value} {l : List α} {A : Option Addr} {m c k : Nat} (hs : ∀ y, (f y).length = size) (h0 : 0 < size) (h : Rd w S size (.slice A m c) n (l.flatMap f)) (hk : k < n) :
    ∃ b o x, A = some ⟨b, o, none⟩ ∧ l[k]? = some x ∧ ∀ j u, (f x)[j]? = some u → w.cell? ⟨b, o + (k * size + j), none⟩ = some u := by
  obtain ⟨b, o, e, _, _, hc⟩ := h.addr (by omega)
  have hn : n = l.length := h.count hs h0
  exact ⟨b, o, l[k]'(by omega), e, List.getElem?_eq_getElem _, fun j u hu => hc _ u (flatMap_at (fun y _ => hs y) (List.getElem?_eq_getElem _) hu)⟩
theorem Rd.elem2 {w : World} {S : Nat → Prop} {n : Nat} {α : Type} {f : α → List Value} {l : List α} {A : Option Addr} {m c k : Nat} (a b : α → Value) (hf : ∀ y, f y = [a y, b y]) (h : Rd w S 2 (.slice A m c) n (l.flatMap f)) (hk : k < n) :
    ∃ g o x, A = some ⟨g, o, none⟩ ∧ l[k]? = some x ∧ w.cell? ⟨g, o + k * 2, none⟩ = some (a x) ∧ w.cell? ⟨g, o + k * 2 + 1, none⟩ = some (b x) := by
  obtain ⟨g, o, x, hA, hx, hc⟩ := h.elem (fun y => by rw [hf]; rfl) (by decide) hk
  exact ⟨g, o, x, hA, hx, hc 0 _ (by rw [hf]; rfl), hc 1 _ (by rw [hf]; rfl)⟩
theorem Rd.elem3 {w : World} {S : Nat → Prop} {n : Nat} {α : Type} {f : α → List Value} {l : List α} {A : Option Addr} {m c k : Nat} (a b d : α → Value) (hf : ∀ y, f y = [a y, b y, d y]) (h : Rd w S 3 (.slice A m c) n (l.flatMap f)) (hk : k < n) :
    ∃ g o x, A = some ⟨g, o, none⟩ ∧ l[k]? = some x ∧ w.cell? ⟨g, o + k * 3, none⟩ = some (a x) ∧ w.cell? ⟨g, o + k * 3 + 1, none⟩ = some (b x) ∧ w.cell? ⟨g, o + k * 3 + 2, none⟩ = some (d x) := by
  obtain ⟨g, o, x, hA, hx, hc⟩ := h.elem (fun y => by rw [hf]; rfl) (by decide) hk
  exact ⟨g, o, x, hA, hx, hc 0 _ (by rw [hf]; rfl), hc 1 _ (by rw [hf]; rfl), hc 2 _ (by rw [hf]; rfl)⟩

/-- a local assertion on a set of blocks -/
structure Asr where
  holds : World → (Nat → Prop) → Prop
  loc : ∀ {w w' : World} {F : Nat → Prop}, holds w F → w.heap.size ≤ w'.heap.size → (∀ b, F b → w'.heap[b]? = w.heap[b]?) → holds w' F
  mono : ∀ {w : World} {F F' : Nat → Prop}, holds w F → (∀ b, F b → F' b) → holds w F'

def row (e : TypeId) (size : Nat) (v : Value) (n : Nat) (xs : List Value) : Asr where
  holds w F := w.ownsRow 0 e size v n xs ∧ ∀ g, v.ownBlock = some g → F g
  loc := by
    rintro w w' F ⟨⟨h1, h2⟩, hF⟩ hs hk
    refine ⟨⟨h1, ?_⟩, hF⟩
    rcases h2 with h2 | ⟨g, cap, cur, rfl, hb, hg, r⟩
    · exact .inl h2
    · exact .inr ⟨g, cap, cur, rfl, hb, (hk g (hF g rfl)).trans hg, r⟩
  mono := fun ⟨h, hF⟩ hh => ⟨h, fun g hg => hh g (hF g hg)⟩
def blk (g : Nat) (t : TypeId) (cs : Array Value) : Asr where
  holds w F := w.heap[g]? = some (.cells cs t (0, 0)) ∧ F g
  loc := fun ⟨h, hF⟩ _ hk => ⟨(hk g hF).trans h, hF⟩
  mono := fun ⟨h, hF⟩ hh => ⟨h, hh _ hF⟩
/-- data that is only read -/
def rds (size : Nat) (v : Value) (n : Nat) (xs : List Value) : Asr where
  holds w F := Rd w F size v n xs
  loc := fun h hs hk => Rd.loc h hs hk
  mono := fun h hh => Rd.mono h fun b _ => hh b
/-- a list of read-only slices of one-cell elements -/
def rdAll (ms : List (Value × List Value)) : Asr where
  holds w F := ∀ p ∈ ms, Rd w F 1 p.1 p.2.length p.2
  loc := fun h hs hk p hp => Rd.loc (h p hp) hs hk
  mono := fun h hh p hp => Rd.mono (h p hp) fun b _ => hh b

def Sep : List Asr → World → (Nat → Prop) → Prop
  | [], _, _ => True
  | A :: L, w, F => ∃ F1, (∀ b, F1 b → F b) ∧ A.holds w F1 ∧ Sep L w (fun b => F b ∧ ¬ F1 b)
theorem Sep.mono {L : List Asr} : ∀ {w : World} {F F' : Nat → Prop}, Sep L w F → (∀ b, F b → F' b) → Sep L w F' := by
  induction L with
  | nil => intros; trivial
  | cons A L ih =>
    rintro w F F' ⟨F1, h1, h2, h3⟩ hF
    exact ⟨F1, fun b hb => hF _ (h1 b hb), h2, ih h3 fun b ⟨hb, hn⟩ => ⟨hF _ hb, hn⟩⟩
theorem Sep.loc {L : List Asr} : ∀ {w w' : World} {F : Nat → Prop}, Sep L w F → w.heap.size ≤ w'.heap.size → (∀ b, F b → w'.heap[b]? = w.heap[b]?) → Sep L w' F := by
  induction L with
  | nil => intros; trivial
  | cons A L ih =>
    rintro w w' F ⟨F1, h1, h2, h3⟩ hs hF
    exact ⟨F1, h1, A.loc h2 hs fun b hb => hF _ (h1 b hb), ih h3 hs fun b hb => hF _ hb.1⟩
theorem Sep.upd {L : List Asr} : ∀ {w : World} {F : Nat → Prop} {i : Nat} {A : Asr}, Sep L w F → L[i]? = some A →
    ∃ F1, (∀ b, F1 b → F b) ∧ A.holds w F1 ∧ ∀ (w' : World) (A' : Asr) (F1' : Nat → Prop), A'.holds w' F1' → w.heap.size ≤ w'.heap.size →
      (∀ b, F1' b → F1 b ∨ ¬ F b) → (∀ b, F b → ¬ F1 b → w'.heap[b]? = w.heap[b]?) → Sep (L.set i A') w' (fun b => F b ∨ F1' b) := by
  induction L with
  | nil => intro w F i A _ h; simp at h
  | cons B L ih =>
    rintro w F i A ⟨F0, h1, h2, h3⟩ hi
    cases i with
    | zero =>
      simp only [List.getElem?_cons_zero, Option.some.injEq] at hi
      subst hi
      refine ⟨F0, h1, h2, fun w' A' F1' hA hs hF1 hsame => ?_⟩
      refine ⟨F1', fun b hb => .inr hb, hA, ?_⟩
      refine (Sep.loc (w' := w') h3 hs fun b hb => hsame b hb.1 hb.2).mono ?_
      rintro b ⟨hb, hn⟩
      exact ⟨.inl hb, fun h => by rcases hF1 b h with h | h <;> contradiction⟩
    | succ i =>
      simp only [List.getElem?_cons_succ] at hi
      obtain ⟨F1, g1, g2, g3⟩ := ih h3 hi
      refine ⟨F1, fun b hb => (g1 b hb).1, g2, fun w' A' F1' hA hs hF1 hsame => ?_⟩
      refine ⟨F0, fun b hb => .inl (h1 b hb), B.loc h2 hs fun b hb => hsame b (h1 b hb) fun h => (g1 b h).2 hb, ?_⟩
      refine (g3 w' A' F1' hA hs (fun b hb => ?_) fun b hb hn => hsame b hb.1 hn).mono ?_
      · rcases hF1 b hb with h | h
        · exact .inl h
        · exact .inr fun hh => h hh.1
      · rintro b (⟨hb, hn⟩ | hb)
        · exact ⟨.inl hb, hn⟩
        · refine ⟨.inr hb, fun h0 => ?_⟩
          rcases hF1 b hb with h | h
          · exact (g1 b h).2 h0
          · exact h (h1 b h0)
theorem Sep.append {L L' : List Asr} : ∀ {w : World} {F F' : Nat → Prop}, Sep L w F → Sep L' w F' → (∀ b, F b → ¬ F' b) → Sep (L ++ L') w (fun b => F b ∨ F' b) := by
  induction L with
  | nil => intro w F F' _ h _; exact h.mono fun b hb => .inr hb
  | cons A L ih =>
    rintro w F F' ⟨F1, h1, h2, h3⟩ h' hd
    refine ⟨F1, fun b hb => .inl (h1 b hb), h2, (ih h3 h' fun b hb => hd b hb.1).mono ?_⟩
    rintro b (⟨hb, hn⟩ | hb)
    · exact ⟨.inl hb, hn⟩
    · exact ⟨.inr hb, fun h => hd b (h1 b h) hb⟩

/-- the state of a call that began in W: old memory is as it was, the blocks made since bear L -/
def St (W w : World) (L : List Asr) : Prop := Below W.heap.size W w ∧ Sep L w (fun b => W.heap.size ≤ b ∧ b < w.heap.size)
/-- w' is w with new blocks -/
def Ext (w w' : World) : Prop := Below w.heap.size w w'
section
variable {W w w' : World} {L L' : List Asr}
theorem St.refl (w : World) : St w w [] := ⟨Below.refl _ _, trivial⟩
theorem St.bel (h : St W w L) : Below W.heap.size W w := h.1
theorem St.size (h : St W w L) : W.heap.size ≤ w.heap.size := h.1.size
theorem St.of_below (h : Below W.heap.size W w) : St W w [] := ⟨h, trivial⟩
theorem St.ext (h : St W w L) (e : Below w.heap.size w w') : St W w' L :=
  ⟨h.1.trans (e.mono h.1.size), (Sep.loc h.2 e.size fun b hb => e.block b hb.2).mono fun b hb => ⟨hb.1, by have := e.size; omega⟩⟩
theorem St.call (h : St W w L) (h' : St w w' L') : St W w' (L ++ L') := by
  have h1 := h.ext h'.1
  refine ⟨h1.1, ?_⟩
  have h2 := Sep.loc (w' := w') h.2 h'.1.size fun b hb => h'.1.block b hb.2
  refine (h2.append h'.2 fun b hb hb' => by omega).mono ?_
  have := h.1.size
  have := h'.1.size
  rintro b (hb | hb) <;> omega
theorem St.drew (h : St W w L) : St W w.drew L := ⟨h.1.drew, Sep.loc (w' := w.drew) h.2 (Nat.le_refl _) fun _ _ => rfl⟩
theorem St.drewN (h : St W w L) (n : Nat) : St W (w.drewN n) L := ⟨h.1.trans ⟨rfl, rfl, rfl, Nat.le_refl _, fun _ _ => rfl⟩, Sep.loc (w' := w.drewN n) h.2 (Nat.le_refl _) fun _ _ => rfl⟩
theorem St.alloc (h : St W w L) (o : Obj) : St W (w.alloc o) L := h.ext ((Below.refl _ _).alloc (Nat.le_refl _) _)
theorem St.nil (h : St W w L) : St W w [] := ⟨h.1, trivial⟩
theorem St.push {A : Asr} {F : Nat → Prop} (h : St W w L) (e : Below w.heap.size w w') (hA : A.holds w' F) (hF : ∀ b, F b → w.heap.size ≤ b ∧ b < w'.heap.size) : St W w' (L ++ [A]) :=
  h.call ⟨e, F, hF, hA, trivial⟩
theorem St.upd {i : Nat} {A : Asr} (h : St W w L) (hi : L[i]? = some A) :
    ∃ F1, (∀ b, F1 b → W.heap.size ≤ b ∧ b < w.heap.size) ∧ A.holds w F1 ∧ ∀ (w' : World) (A' : Asr) (F1' : Nat → Prop) (row : Option Nat), A'.holds w' F1' →
      w.grownBy w' row → (∀ g, row = some g → F1 g) → (∀ b, F1' b → F1 b ∨ w.heap.size ≤ b ∧ b < w'.heap.size) → St W w' (L.set i A') := by
  obtain ⟨F1, h1, h2, h3⟩ := Sep.upd h.2 hi
  refine ⟨F1, h1, h2, fun w' A' F1' row hA hg hrow hF => ?_⟩
  have hblk : ∀ b, b < w.heap.size → ¬ F1 b → w'.heap[b]? = w.heap[b]? := fun b hb hn => hg.block b hb fun e => hn (hrow b e.symm)
  refine ⟨h.1.grown hg h.1.size fun k hk => (h1 k (hrow k hk)).1, ?_⟩
  refine (h3 w' A' F1' hA hg.size (fun b hb => ?_) fun b hb hn => hblk b hb.2 hn).mono ?_
  · rcases hF b hb with h | h
    · exact .inl h
    · exact .inr fun hh => by omega
  · have := hg.size
    rintro b (hb | hb)
    · omega
    · rcases hF b hb with h' | h'
      · have := h1 b h'; omega
      · have := h.1.size; omega
/-- what holds of one limb -/
theorem St.get {i : Nat} {A : Asr} (h : St W w L) (hi : L[i]? = some A) : ∃ F, (∀ b, F b → W.heap.size ≤ b ∧ b < w.heap.size) ∧ A.holds w F :=
  let ⟨F, a, b, _⟩ := h.upd hi; ⟨F, a, b⟩
theorem Sep.sub {L' : List Asr} : ∀ {L : List Asr} {w : World} {F : Nat → Prop}, L'.Sublist L → Sep L w F → Sep L' w F := by
  intro L w F hs
  induction hs generalizing F with
  | slnil => exact id
  | cons A _ ih => rintro ⟨F1, h1, h2, h3⟩; exact ih (h3.mono fun b hb => hb.1)
  | cons_cons A _ ih => rintro ⟨F1, h1, h2, h3⟩; exact ⟨F1, h1, h2, ih h3⟩
theorem St.sub (h : St W w L) (hs : L'.Sublist L) : St W w L' := ⟨h.1, Sep.sub hs h.2⟩
theorem grownBy_alloc' (w : World) (o : Obj) (row : Option Nat) : w.grownBy (w.alloc o) row := World.grownBy_alloc w o row
/-- a new row -/
theorem St.row_new (h : St W w L) {e : TypeId} {size n : Nat} (cs : Array Value) (hm : n ≤ maxLen) (hs : cs.size = n * size) :
    St W (w.alloc (.cells cs e)) (L ++ [row e size (.slice (some ⟨w.heap.size, 0, none⟩) n n) n cs.toList]) :=
  h.push (F := fun b => b = w.heap.size) ((Below.refl _ _).alloc (Nat.le_refl _) _) ⟨World.ownsRow_lit w cs n (Nat.zero_le _) hm hs, fun g hg => by simpa [Value.ownBlock] using hg.symm⟩ (fun b hb => by subst hb; simp)
theorem St.row_nil (h : St W w L) (e : TypeId) (size : Nat) : St W w (L ++ [row e size (.slice none 0 0) 0 []]) :=
  h.push (F := fun _ => False) (Below.refl _ _) ⟨World.ownsRow_nil _ _ _ _, fun g hg => by simp [Value.ownBlock] at hg⟩ (fun b hb => hb.elim)
theorem St.blk_new (h : St W w L) (cs : Array Value) (t : TypeId) : St W (w.alloc (.cells cs t)) (L ++ [blk w.heap.size t cs]) :=
  h.push (F := fun b => b = w.heap.size) ((Below.refl _ _).alloc (Nat.le_refl _) _) ⟨heap_alloc_new w _, rfl⟩ (fun b hb => by subst hb; simp)
/-- a store into a block -/
theorem St.blk_set {i g : Nat} {t : TypeId} {cs : Array Value} (h : St W w L) (hi : L[i]? = some (blk g t cs)) (j : Nat) (u : Value) :
    St W (w.setCell ⟨g, j, none⟩ u) (L.set i (blk g t (cs.setIfInBounds j u))) := by
  obtain ⟨F1, h1, ⟨h2, hF⟩, h3⟩ := h.upd hi
  exact h3 _ _ F1 (some g) ⟨heap_setCell_same w g j cs t u h2, hF⟩ ⟨rfl, rfl, rfl, by simp [World.setCell], fun k _ hk => Below.heap_setCell _ _ _ _ (fun e => hk (by subst e; rfl))⟩ (fun k hk => by cases hk; exact hF) (fun b hb => .inl hb)
theorem St.blk_at {i g : Nat} {t : TypeId} {cs : Array Value} (h : St W w L) (hi : L[i]? = some (blk g t cs)) :
    W.heap.size ≤ g ∧ g < w.heap.size ∧ w.heap[g]? = some (.cells cs t (0, 0)) := by
  obtain ⟨F, h1, h2, h3⟩ := h.get hi
  exact ⟨(h1 _ h3).1, (h1 _ h3).2, h2⟩
theorem St.blk_cell {i g : Nat} {t : TypeId} {cs : Array Value} (h : St W w L) (hi : L[i]? = some (blk g t cs)) (j : Nat) : w.cell? ⟨g, j, none⟩ = cs[j]? :=
  cell_of_row w g j cs t (0, 0) (h.blk_at hi).2.2
theorem St.blk_frozen {i g : Nat} {t : TypeId} {cs : Array Value} (h : St W w L) (hi : L[i]? = some (blk g t cs)) (j : Nat) : w.frozen? ⟨g, j, none⟩ = false := by
  simp [World.frozen?, (h.blk_at hi).2.2]
theorem St.row_own {i : Nat} {e : TypeId} {size n : Nat} {v : Value} {xs : List Value} (h : St W w L) (hi : L[i]? = some (row e size v n xs)) : w.ownsRow W.heap.size e size v n xs := by
  obtain ⟨F, h1, ⟨h2, h2'⟩, h3⟩ := h.get hi
  · refine ⟨h2, ?_⟩
    rcases h2' with h2' | ⟨g, cap, cur, rfl, hb, hg, r⟩
    · exact .inl h2'
    · exact .inr ⟨g, cap, cur, rfl, (h1 g (h3 g rfl)).1, hg, r⟩
/-- what the laws on append leave, put back -/
theorem St.row_grown {i : Nat} {e : TypeId} {size n n' : Nat} {v v' : Value} {xs xs' : List Value} (h : St W w L) (hi : L[i]? = some (row e size v n xs))
    (ho : w'.ownsRow W.heap.size e size v' n' xs') (hg : w.grownBy w' v.ownBlock) (hv : ∀ g, v'.ownBlock = some g → v.ownBlock = some g ∨ w.heap.size ≤ g) : St W w' (L.set i (row e size v' n' xs')) := by
  obtain ⟨F1, h1, ⟨h2, hF⟩, h3⟩ := h.upd hi
  refine h3 w' _ (fun b => v'.ownBlock = some b) v.ownBlock ⟨⟨ho.1, ?_⟩, fun g hg => hg⟩ hg (fun g hg => hF g hg) (fun b hb => ?_)
  · rcases ho.2 with h2' | ⟨g, cap, cur, rfl, hb, hg, r⟩
    · exact .inl h2'
    · exact .inr ⟨g, cap, cur, rfl, Nat.zero_le _, hg, r⟩
  · rcases hv b hb with h | h
    · exact .inl (hF b h)
    · exact .inr ⟨h, (ho.lt b hb).2⟩
theorem St.row_form {i : Nat} {e : TypeId} {size n : Nat} {v : Value} {xs : List Value} (h : St W w L) (hi : L[i]? = some (row e size v n xs)) (hn : 0 < n) :
    ∃ g cap, v = .slice (some ⟨g, 0, none⟩) n cap ∧ n ≤ cap ∧ W.heap.size ≤ g ∧ g < w.heap.size ∧ (∀ j, j < n * size → w.cell? ⟨g, j, none⟩ = xs[j]?) ∧ ∀ j, w.frozen? ⟨g, j, none⟩ = false := by
  have ho := h.row_own hi
  have ho' := ho
  rcases ho.2 with ⟨_, h0⟩ | ⟨g, cap, cur, rfl, hb, hg, hc, r⟩
  · omega
  · exact ⟨g, cap, rfl, hc, hb, (ho.lt g rfl).2, ho'.cellAt, ho'.frozenAt⟩
theorem St.row_set {i g cap : Nat} {e : TypeId} {size n : Nat} {xs : List Value} (h : St W w L) (hi : L[i]? = some (row e size (.slice (some ⟨g, 0, none⟩) n cap) n xs)) (j : Nat) (u : Value) :
    St W (w.setCell ⟨g, j, none⟩ u) (L.set i (row e size (.slice (some ⟨g, 0, none⟩) n cap) n (xs.set j u))) :=
  h.row_grown hi ((h.row_own hi).stored j u).1 ((h.row_own hi).stored j u).2 (fun _ hg => .inl hg)
/-- a row read -/
theorem St.row_rd {i : Nat} {e : TypeId} {size n : Nat} {v : Value} {xs : List Value} (h : St W w L) (hi : L[i]? = some (row e size v n xs)) : Rd w (fun b => W.heap.size ≤ b ∧ b < w.heap.size) size v n xs := by
  have ho := h.row_own hi
  have hc := @World.ownsRow.cells _ _ _ _ _ _ _ ho
  have hl := ho.lt
  rcases ho.2 with ⟨rfl, rfl⟩ | ⟨g, cap, cur, rfl, hb, hg, h1, h2, r⟩
  · exact ⟨none, 0, rfl, Nat.le_refl _, Nat.zero_le _, (by have := ho.1; simpa using this), (fun _ => rfl), (fun h => absurd h (by omega))⟩
  · exact ⟨_, cap, rfl, h1, h2, ho.1, (fun h => by cases h), fun _ => ⟨g, 0, rfl, ⟨hb, (hl g rfl).2⟩, (hl g rfl).2, fun j u hu => by have := hc (g := g) rfl j u hu; rwa [Addr.add_lit] at this⟩⟩
end

/-- slice type t has elements of type e, of size cells and so many bytes, zero value z -/
def Elt (P : Program) (t e : TypeId) (z : Value) (size bytes : Nat) : Prop :=
  P.underlying t = some (.slice e) ∧ (P.info? e).map (fun i => (i.zero, i.size, i.bytes)) = some (some z, size, bytes) ∧ z.cells.size = size ∧ 0 < size
theorem run_append_of_nil {P : Program} (w : World) (base : Nat) (t ty e : TypeId) (i : TypeInfo) (size : Nat) (ht : P.underlying t = some (.slice e)) (hi : P.info? e = some i)
    (v : Value) (n : Nat) (xs : List Value) (hown : w.ownsRow base e size v n xs) (c : Nat) : (Builtin.append_ #[t, t] ty #[v, .slice none 0 c]).run P w = .ok v w := by
  rcases hown.2 with ⟨rfl, rfl⟩ | ⟨g, cap, cur, rfl, _, _, hnc, _⟩
  · simp [Builtin.append_, run_underlying ht, sizeOf, typeInfo, hi, Builtin.lenOf, Builtin.firstCells]
  · simp [Builtin.append_, run_underlying ht, sizeOf, typeInfo, hi, Builtin.lenOf, Builtin.firstCells, hnc, storeCells]
theorem run_append_st {P : Program} {W w : World} {L : List Asr} {k : Nat} {t e : TypeId} (ty : TypeId) {z : Value} {size bytes : Nat} (hE : Elt P t e z size bytes)
    {v : Value} {n : Nat} {xs : List Value} (S : St W w L) (hk : L[k]? = some (row e size v n xs))
    {F : Nat → Prop} {vx : Value} {m : Nat} {news : List Value} (hr : Rd w F size vx m news) (h1 : ∀ u ∈ news, u.oneCell' = true)
    (hbytes : (n + m) * bytes ≤ 140737488355328) (h63 : n + m ≤ 140737488355328) :
    ∃ v' w', (Builtin.append_ #[t, t] ty #[v, vx]).run P w = .ok v' w' ∧ St W w' (L.set k (row e size v' (n + m) (xs ++ news))) ∧ w.grownBy w' v.ownBlock := by
  obtain ⟨ht, hinfo, hzs, hsz⟩ := hE
  obtain ⟨i, hi, hz, hsize, hby⟩ := info_parts hinfo
  have hown := S.row_own hk
  obtain ⟨A, c, rfl, _, _, hlen, hnone, hsome⟩ := hr
  have h63' : n + m ≤ maxLen := by unfold maxLen; omega
  rcases A with _ | ad
  · have hc := hnone rfl
    have hm : m = 0 := by omega
    subst hm
    have hn : news = [] := List.eq_nil_of_length_eq_zero (by simpa using hlen)
    subst hn
    refine ⟨v, w, run_append_of_nil w W.heap.size t ty e i size ht hi v n xs hown c, ?_, World.grownBy.refl w _⟩
    have := S.row_grown (w' := w) hk (v' := v) (n' := n + 0) (xs' := xs ++ []) (by simpa using hown) (World.grownBy.refl w _) (fun _ h => .inl h)
    exact this
  · have hcells : ∀ j u, news[j]? = some u → w.cell? (ad.add j) = some u := by
      intro j u hu
      rcases Nat.eq_zero_or_pos m with h0 | h0
      · subst h0
        have hn : news = [] := List.eq_nil_of_length_eq_zero (by simpa using hlen)
        subst hn
        simp at hu
      · obtain ⟨b, o, hA, _, _, hc⟩ := hsome h0
        cases hA
        rw [Addr.add_lit]; exact hc j u hu
    obtain ⟨v', w', hrun, h2, h3, _, h5⟩ := run_append_own_at (P := P) w W.heap.size t ty e i z size bytes ht hi hz hsize hby hzs hsz v n xs hown ad m c news hlen hcells h1 h63' hbytes S.size
    refine ⟨v', w', hrun, S.row_grown hk h2 h3 (fun g hg => ?_), h3⟩
    rcases h5 with h5 | h5
    · exact .inl (by rw [← h5]; exact hg)
    · rw [h5] at hg; cases hg; exact .inr (Nat.le_refl _)
theorem wpList_append_st {P : Program} {ops : Array Oper} {rest : List Oper} {o : Oper} {a : Act} {Q : Exit → Act → World → Prop} {W w : World} {L : List Asr} {k : Nat} {t e : TypeId} {z : Value} {size bytes : Nat} (hE : Elt P t e z size bytes)
    (hgd : o.guard = none) (s x : Operand) (ho : o.op = .call { callee := .builtin .append, args := #[s, x], argTypes := #[t, t] })
    {v : Value} {n : Nat} {xs : List Value} (hs : a.eval s = v) (S : St W w L) (hk : L[k]? = some (row e size v n xs))
    {F : Nat → Prop} {vx : Value} {m : Nat} {news : List Value} (hx : a.eval x = vx) (hr : Rd w F size vx m news) (h1 : ∀ u ∈ news, u.oneCell' = true)
    (hbytes : (n + m) * bytes ≤ 140737488355328) (h63 : n + m ≤ 140737488355328)
    (h : ∀ v' w', St W w' (L.set k (row e size v' (n + m) (xs ++ news))) → w.grownBy w' v.ownBlock → wpList P ops Q rest (a.put o.dst v') w') : wpList P ops Q (o :: rest) a w := by
  refine wpList_plain hgd fun K hK => ?_
  obtain ⟨v', w', hrun, h2, h3⟩ := run_append_st o.type hE S hk hr h1 hbytes h63
  unfold Oper.wp execOp
  simp only [ho, resolve, invoke, builtin, Sem.run_bind, Sem.run_pure, Result.andThen_ok, List.map_toArray, List.map_cons, List.map_nil, hs, hx, hrun]
  exact hK _ _ (h v' w' h2 h3)
theorem wpList_make_st {P : Program} {ops : Array Oper} {rest : List Oper} {o : Oper} {a : Act} {Q : Exit → Act → World → Prop} {W w : World} {L : List Asr} {t e : TypeId} {z : Value} {size bytes : Nat} (hE : Elt P t e z size bytes)
    (hgd : o.guard = none) (l c : Operand) (ho : o.op = .makeSlice t l c) {kl kc : IntKind} {n : Nat} (hl : a.eval l = .int kl (n : Int)) (hc : a.eval c = .int kc (n : Int)) (S : St W w L)
    (hbytes : bytes * n ≤ 281474976710656) (h63 : n ≤ 281474976710656)
    (h : ∀ w' g, St W w' (L ++ [row e size (.slice (some ⟨g, 0, none⟩) n n) n (madeCells z.cells (n * size)).toList]) → w.heap.size ≤ g → Below w.heap.size w w' → wpList P ops Q rest (a.put o.dst (.slice (some ⟨g, 0, none⟩) n n)) w') : wpList P ops Q (o :: rest) a w := by
  obtain ⟨ht, hinfo, hzs, hsz⟩ := hE
  obtain ⟨i, hi, hz, hsize, hby⟩ := info_parts hinfo
  have h63' : n ≤ maxLen := by unfold maxLen; omega
  refine wpList_plain hgd fun K hK => ?_
  obtain ⟨w', hrun, r1, r2⟩ := run_make_full (P := P) w w.heap.size t e i z size ht hi hz hsize kl kc n (by rw [hby]; exact hbytes) h63' (Nat.le_refl _)
  unfold Oper.wp
  simp [execOp, ho, hl, hc, hrun, Result.andThen]
  have hb : Below w.heap.size w w' := (Below.refl _ _).grown r2 (Nat.le_refl _) (fun k hk => by cases hk)
  refine hK _ _ (h w' w.heap.size (S.push (F := fun b => b = w.heap.size) hb ⟨⟨r1.1, ?_⟩, fun g hg => by simpa [Value.ownBlock] using hg.symm⟩ fun b hb' => ?_) (Nat.le_refl _) hb)
  · rcases r1.2 with h' | ⟨g, cap, cur, h1, _, h3⟩
    · exact .inl h'
    · exact .inr ⟨g, cap, cur, h1, Nat.zero_le _, h3⟩
  · subst hb'
    exact ⟨Nat.le_refl _, (r1.lt _ rfl).2⟩
theorem rd_new (w : World) {size m : Nat} (cs : Array Value) (t : TypeId) (hl : cs.size = m * size) (hm : m ≤ 140737488355328) (F : Nat → Prop) (hF : F w.heap.size) : Rd (w.alloc (.cells cs t)) F size (.slice (some ⟨w.heap.size, 0, none⟩) m m) m cs.toList := by
  refine ⟨_, m, rfl, Nat.le_refl _, by unfold maxLen; omega, by simpa using hl, (fun h => by cases h), fun hn => ?_⟩
  refine ⟨_, 0, rfl, hF, by simp, fun j u hu => ?_⟩
  rw [Nat.zero_add, cell_of_row (w.alloc (.cells cs t)) w.heap.size j cs t (0, 0) (heap_alloc_new w _)]
  simpa using hu
theorem rd_cells {w : World} {F : Nat → Prop} {g m : Nat} {xs : List Value} (hg : g < w.heap.size) (hm : xs.length ≤ 140737488355328 ∧ xs.length = m) (hc : ∀ j u, xs[j]? = some u → w.cell? ⟨g, j, none⟩ = some u) (hF : F g := by trivial) : Rd w F 1 (.slice (some ⟨g, 0, none⟩) m m) m xs :=
  ⟨_, m, rfl, Nat.le_refl _, by unfold maxLen; omega, by omega, (fun h => by cases h), fun _ => ⟨g, 0, rfl, hF, hg, fun j u hu => by rw [Nat.zero_add]; exact hc j u hu⟩⟩
/-- a drawn region whose first n operations only read: these in the order of the text, in a world wd; then the forced tail -/
theorem wp_still_tail {P : Program} {id : Nat} {Q : Exit → Act → World → Prop} {a : Act} {w : World} {l : List Oper} (n : Nat) (hm : P.follows .mixedOrders = true) (hB : Region.lexTailB .any l.toArray n = true)
    (h : ∀ wd, wd = w.drew → wpStill P l.toArray wd (fun a' => wpList P l.toArray Q (l.drop n) a' wd) (l.take n) a) : (Code.region id l.toArray true).wp P Q a w :=
  wp_region_still_tail n hm hB (h _ rfl)
/-- a call of g enters g -/
def Enters (P : Program) (g : FuncId) : Prop := ∀ (args : Array Value) (w : World), (callFunc g args).run P w = .ok (.enter g args) w
theorem enters {P : Program} {g : FuncId} {fn : Func} {c : Code} (hf : P.funcs[g]? = some fn) (h1 : (fn.name == "runtime.NumGoroutine") = false) (hb : fn.body = some c) : Enters P g := by
  intro args w
  have h1 : fn.name ≠ "runtime.NumGoroutine" := by simpa using h1
  simp [callFunc, hf, h1, hb, mark]
end Go.Mem
/- Plain data of chapter 8, and small facts on lists. -/
namespace Go.Sheet
structure Slot where
  m : Int
  h : Int
  p : Int
  deriving DecidableEq
structure Wish where
  s : Int
  w : Int
  deriving DecidableEq
theorem drop_at {α : Type} {l : List α} {k : Nat} {x : α} (h : l[k]? = some x) : l.drop k = x :: l.drop (k+1) := by
  obtain ⟨hk, rfl⟩ := List.getElem?_eq_some_iff.1 h
  exact List.drop_eq_getElem_cons hk
theorem take_at {α : Type} {l : List α} {k : Nat} {x : α} (h : l[k]? = some x) : l.take (k+1) = l.take k ++ [x] := by
  obtain ⟨hk, rfl⟩ := List.getElem?_eq_some_iff.1 h
  exact List.take_succ_eq_append_getElem hk
/-- the first error that is not 0 -/
def fst : List Int → Int
  | [] => 0
  | e :: l => if e ≠ 0 then e else fst l
theorem fst_stop {l : List Int} {k : Nat} {x : Int} (h : l[k]? = some x) (h0 : x ≠ 0) (e : fst (l.drop k) = fst l) : x = fst l := by
  rw [← e, drop_at h, fst, if_pos h0]
theorem fst_go {l : List Int} {k : Nat} {x : Int} (h : l[k]? = some x) (h0 : ¬ x ≠ 0) (e : fst (l.drop k) = fst l) : fst (l.drop (k + 1)) = fst l := by
  rw [← e, drop_at h, fst, if_neg h0]
theorem fst_end {l : List Int} {n : Nat} (h : l.length ≤ n) (e : fst (l.drop n) = fst l) : fst l = 0 := by
  rw [← e, List.drop_of_length_le h, fst]
def whenE (b : Bool) (e : Int) : Int := if b then e else 0
def outE (n lo hi : Int) : Int := whenE (decide (n < lo) || decide (hi < n)) 3
/-- the first error that a check finds in a list -/
def eachF {α : Type} (f : Nat → α → Int) : Nat → List α → Int
  | _, [] => 0
  | k, x :: l => if f k x ≠ 0 then f k x else eachF f (k + 1) l
theorem eachF_stop {α : Type} {f : Nat → α → Int} {l : List α} {k : Nat} {x : α} (h : l[k]? = some x) (h0 : f k x ≠ 0) (e : eachF f k (l.drop k) = eachF f 0 l) : f k x = eachF f 0 l := by
  rw [← e, drop_at h, eachF, if_pos h0]
theorem eachF_go {α : Type} {f : Nat → α → Int} {l : List α} {k : Nat} {x : α} (h : l[k]? = some x) (h0 : ¬ f k x ≠ 0) (e : eachF f k (l.drop k) = eachF f 0 l) : eachF f (k + 1) (l.drop (k + 1)) = eachF f 0 l := by
  rw [← e, drop_at h, eachF, if_neg h0]
theorem eachF_end {α : Type} {f : Nat → α → Int} {l : List α} {n : Nat} (h : l.length ≤ n) (e : eachF f n (l.drop n) = eachF f 0 l) : eachF f 0 l = 0 := by
  rw [← e, List.drop_of_length_le h, eachF]
/-- the first place at which p holds, or -1 -/
def idxF {α : Type} (p : α → Bool) : Nat → List α → Int
  | _, [] => -1
  | k, x :: l => if p x then (k : Int) else idxF p (k + 1) l
theorem idxF_stop {α : Type} {p : α → Bool} {l : List α} {k : Nat} {x : α} (h : l[k]? = some x) (h0 : p x = true) (e : idxF p k (l.drop k) = idxF p 0 l) : (k : Int) = idxF p 0 l := by
  rw [← e, drop_at h, idxF, if_pos h0]
theorem idxF_go {α : Type} {p : α → Bool} {l : List α} {k : Nat} {x : α} (h : l[k]? = some x) (h0 : p x = false) (e : idxF p k (l.drop k) = idxF p 0 l) : idxF p (k + 1) (l.drop (k + 1)) = idxF p 0 l := by
  rw [← e, drop_at h, idxF, if_neg (by simp [h0])]
theorem idxF_end {α : Type} {p : α → Bool} {l : List α} {n : Nat} (h : l.length ≤ n) (e : idxF p n (l.drop n) = idxF p 0 l) : -1 = idxF p 0 l := by
  rw [← e, List.drop_of_length_le h, idxF]
theorem idxF_any {α : Type} (p : α → Bool) (l : List α) : ∀ k, decide (0 ≤ idxF p k l) = l.any p := by
  induction l with
  | nil => intro k; simp [idxF]
  | cons x l ih =>
    intro k
    cases h : p x
    · rw [idxF, if_neg (by simp [h]), ih]; simp [h]
    · rw [idxF, if_pos h]; simp [h]
theorem idxF_none {α : Type} (p : α → Bool) (l : List α) (h : l.find? p = none) : ∀ k, idxF p k l = -1 := by
  induction l with
  | nil => intro k; rfl
  | cons x l ih =>
    intro k
    rw [List.find?_cons] at h
    cases hp : p x <;> rw [hp] at h
    · rw [idxF, if_neg (by simp [hp])]; exact ih h _
    · cases h
theorem idxF_some {α : Type} (p : α → Bool) (l : List α) (y : α) (h : l.find? p = some y) : ∀ k : Nat, ∃ j : Nat, idxF p k l = ((k + j : Nat) : Int) ∧ l[j]? = some y := by
  induction l with
  | nil => cases h
  | cons x l ih =>
    intro k
    rw [List.find?_cons] at h
    cases hp : p x <;> rw [hp] at h
    · obtain ⟨j, h1, h2⟩ := ih h (k + 1)
      exact ⟨j + 1, by rw [idxF, if_neg (by simp [hp]), h1]; congr 1; omega, by simpa using h2⟩
    · cases h
      exact ⟨0, by rw [idxF, if_pos hp]; rfl, rfl⟩
theorem eachF_map {α β : Type} (g : α → β) (f : Nat → β → Int) (l : List α) : ∀ k, eachF f k (l.map g) = eachF (fun i x => f i (g x)) k l := by
  induction l with
  | nil => intro k; rfl
  | cons x l ih => intro k; simp only [List.map_cons, eachF, ih]
def sumF : List Int → Int
  | [] => 0
  | x :: l => x + sumF l
theorem sumF_append (a b : List Int) : sumF (a ++ b) = sumF a + sumF b := by
  induction a with
  | nil => simp [sumF]
  | cons x a ih => simp only [List.cons_append, sumF, ih]; omega
end Go.Sheet
/- A drawn region whose first n operations each have one value in every world of a class C (loads, arithmetic, calls that may make memory), and whose other operations
   follow in one forced order: one walk in the order of the text serves every order. After the kit's Derived/StillTail.lean (one world) and Derived/Deep/Quiet.lean (a class of worlds, no tail). -/
namespace Go.Mem
open Go Go.RowKit
variable {P : Program} {ops : Array Oper} {md : Region.Mode} {C : World → Prop}
/-- whatever is picked within the head -/
def headAny (P : Program) (md : Region.Mode) (ops : Array Oper) (C : World → Prop) (n : Nat) (L : Array Bool → Act → Prop) : Nat → Array Bool → Act → Prop
  | 0, ls, a => L ls a
  | k + 1, ls, a => Region.ready md ops ls ≠ [] ∧ ∀ i ∈ Region.ready md ops ls, i < n ∧ qOp P ops C i (headAny P md ops C n L k (ls.setIfInBounds i true)) a
theorem headAny_sound {n g : Nat} {L : Array Bool → Act → Prop} {Q : Exit → Act → World → Prop} (hL : ∀ ls a w, C w → L ls a → wpAny P md ops Q g ls a w) (k : Nat) :
    ∀ (ls : Array Bool) (a : Act) (w : World), C w → headAny P md ops C n L k ls a → wpAny P md ops Q (k + g) ls a w := by
  induction k with
  | zero => intro ls a w hw h; rw [Nat.zero_add]; exact hL ls a w hw h
  | succ k ih =>
    intro ls a w hw h
    have e : k + 1 + g = (k + g) + 1 := by omega
    rw [e]
    refine ⟨fun h0 => absurd h0 h.1, fun i hi => ?_⟩
    exact wpOp_of_qOp hw (fun a' w' hw' h' => ih _ a' w' hw' h') (h.2 i hi).2
section
variable {n i : Nat} {oi : Oper} {v : Value} {L : Array Bool → Act → Prop}
/-- an operation of the head that may come up, and is apart from the others, may come first -/
theorem headAny_first (hi : ops[i]? = some oi) (hsel : ∀ (j : Nat) (o : Oper) cs b, ops[j]? = some o → o.op ≠ .select cs b) (hs : Region.sinkB md ops n = true) (hc : Region.chainB md ops n = true)
    (hn : n < ops.size) (hin : i < n) (hend : ∀ ls a, L ls a → ∀ j ∈ Region.ready md ops ls, n ≤ j) (k : Nat) :
    ∀ (ls : Array Bool) (a : Act), HeadInv md ops n ls →
      (∀ j oj, ops[j]? = some oj → j ≠ i → ls.getD j true = false → (∀ e ∈ oj.after, Region.binds md e = true → e.on ≠ i) → oi.apart ops oj = true) →
      i ∈ Region.ready md ops ls → YieldsIn P ops C oi v a → headAny P md ops C n L k (ls.setIfInBounds i true) (a.put oi.dst v) → headAny P md ops C n L (k + 1) ls a := by
  have inHead : ∀ (ls : Array Bool), HeadInv md ops n ls → i ∈ Region.ready md ops ls → ∀ j ∈ Region.ready md ops ls, j < n := by
    intro ls inv hr j hj
    rcases Nat.lt_or_ge j n with h | h
    · exact h
    · exact absurd hj (tail_waits hs hc hn inv _ i rfl hin (mem_ready.1 hr).1 j h)
  induction k with
  | zero =>
    intro ls a inv _ hr hy H
    refine ⟨fun h => (by rw [h] at hr; cases hr), fun j hj => ⟨inHead ls inv hr j hj, ?_⟩⟩
    by_cases e : j = i
    · subst e; exact hy.qOp hi H
    · have h1 := hend _ _ H j (ready_mono hj e)
      have h2 := inHead ls inv hr j hj
      omega
  | succ k ih =>
    intro ls a inv hfree hr hy H
    refine ⟨fun h => (by rw [h] at hr; cases hr), fun j hj => ⟨inHead ls inv hr j hj, ?_⟩⟩
    by_cases e : j = i
    · subst e; exact hy.qOp hi H
    · obtain ⟨hju, oj, hoj, hall⟩ := mem_ready.1 hj
      have hnot : ∀ d ∈ oj.after, Region.binds md d = true → d.on ≠ i := fun d hd hb hq => by
        have h1 := hall d hd hb
        rw [hq, getD_both (mem_ready.1 hr).1] at h1
        cases h1
      have h1 := qOp_put hoj (hfree j oj hoj e hju hnot) (fun cs b => hsel i oi cs b hi) (fun cs b => hsel j oj cs b hoj) hy (H.2 j (ready_mono hj e)).2
      refine qOp_mono (fun a' h2 => ?_) h1
      refine ih (ls.setIfInBounds j true) a' (inv.set hj (inHead ls inv hr j hj)) (fun m om hm hmi hmu hno => ?_) (ready_mono hr (Ne.symm e)) h2.1 ?_
      · refine hfree m om hm hmi ?_ hno
        by_cases hjm : j = m
        · subst hjm; exact hju
        · rw [getD_set_ne true hjm] at hmu; exact hmu
      · rw [Array.setIfInBounds_comm _ _ e]
        exact h2.2
end
theorem headAny_lex {n g : Nat} {R : Act → Prop} (hsel : Region.noSelect ops = true) (hs : Region.sinkB md ops n = true) (hc : Region.chainB md ops n = true) (hn : n < ops.size) (l : List Oper) :
    ∀ (k : Nat) (ls : Array Bool) (a : Act), (∀ j, j < l.length → l[j]? = ops[k + j]?) → k + l.length = n → HeadInv md ops n ls → Region.lexHead md ops g l.length k ls = true → wpQuiet P ops C R l a →
      headAny P md ops C n (fun ls' a' => Region.seqB md ops g n ls' = true ∧ R a') l.length ls a := by
  induction l with
  | nil =>
    intro k ls a _ hk _ hB h
    obtain rfl : k = n := by simpa using hk
    exact ⟨by simpa [Region.lexHead] using hB, h⟩
  | cons o l ih =>
    intro k ls a hl hk inv hB h
    have h0 : ops[k]? = some o := by simpa using (hl 0 (by simp)).symm
    simp only [List.length_cons] at hk
    simp only [List.length_cons, Region.lexHead, Bool.and_eq_true] at hB
    have hkn : k < n := by omega
    have hr : k ∈ Region.ready md ops ls := by simpa using hB.1.1
    have hq : qOp P ops C k (wpQuiet P ops C R l) a := by unfold qOp; simp only [h0]; exact h
    obtain ⟨v, hy, hK⟩ := yieldsIn_of_qOp h0 hq
    refine headAny_first h0 (Region.noSelect_spec hsel) hs hc hn hkn (fun ls' a' hL => seqB_ready hL.1) l.length ls a inv (Region.free_spec h0 hB.1.2) hr hy ?_
    refine ih (k + 1) _ _ (fun j hj => ?_) (by omega) (inv.set hr hkn) hB.2 hK
    have := hl (j + 1) (by simp only [List.length_cons]; omega)
    simpa [Nat.add_assoc, Nat.add_comm 1 j] using this
/-- the law -/
theorem wp_quiet_tail {id : Nat} {Q : Exit → Act → World → Prop} {a : Act} {w : World} {l : List Oper} (n : Nat) (C : World → Prop) (hm : P.follows .mixedOrders = true) (hB : Region.lexTailB .any l.toArray n = true) (hC : C w.drew)
    (h : wpQuiet P l.toArray C (fun a' => ∀ w', C w' → wpList P l.toArray Q (l.drop n) a' w') (l.take n) a) : (Code.region id l.toArray true).wp P Q a w := by
  simp only [Region.lexTailB, Bool.and_eq_true, decide_eq_true_eq] at hB
  obtain ⟨⟨⟨⟨hsel, hn⟩, hs⟩, hc⟩, hlex⟩ := hB
  have hn' : n < l.length := by simpa using hn
  have htl : (l.take n).length = n := by simp; omega
  have hdl : (l.drop n).length = l.toArray.size - n := by simp
  have inv : HeadInv .any l.toArray n (Array.replicate l.toArray.size false) :=
    ⟨by simp, fun j oj _ hl => (by rw [getD_replicate_false] at hl; cases hl), fun t _ ht => getD_in (by simpa using ht) (getD_replicate_false _ _)⟩
  have H := headAny_lex (md := .any) (g := l.toArray.size - n) hsel hs hc hn (l.take n) 0 _ a (fun j hj => by
    have hj' : j < n := by rw [htl] at hj; exact hj
    simp [hj']) (by simpa using htl) inv (by rw [htl]; exact hlex) h
  refine wp_region_any hm ?_
  have H2 := headAny_sound (Q := Q) (g := l.toArray.size - n) (fun ls a' w' hw' hL => by
    have := wpAny_of_seq (P := P) (md := .any) (Q' := Q) (l.drop n) n ls a' w' (fun j => by simp [List.getElem?_drop]) (by rw [hdl]; exact hL.1) (hL.2 w' hw')
    rwa [hdl] at this) _ _ _ _ hC H
  rw [htl, show n + (l.toArray.size - n) = l.toArray.size by omega] at H2
  exact H2
/-- the worlds that meet a condition, as a type: so that the walk's facts 'for every x' serve -/
structure Wd (K : World → Prop) where
  w : World
  h : K w
/-- the class of these worlds -/
def Cls (K : World → Prop) : World → Prop := fun w' => ∃ x : Wd K, w' = x.w
theorem wp_cls {id : Nat} {Q : Exit → Act → World → Prop} {a : Act} {w : World} {l : List Oper} (n : Nat) (K : World → Prop) (hm : P.follows .mixedOrders = true) (hB : Region.lexTailB .any l.toArray n = true) (hC : K w.drew)
    (h : Nonempty (Wd K) → wpQuiet P l.toArray (fun w' => ∃ x : Wd K, w' = x.w) (fun a' => ∀ x : Wd K, wpList P l.toArray Q (l.drop n) a' x.w) (l.take n) a) : (Code.region id l.toArray true).wp P Q a w := by
  refine wp_quiet_tail n (fun w' => ∃ x : Wd K, w' = x.w) hm hB ⟨⟨_, hC⟩, rfl⟩ ?_
  have e : (fun a' => ∀ w', (∃ x : Wd K, w' = x.w) → wpList P l.toArray Q (l.drop n) a' w') = fun a' => ∀ x : Wd K, wpList P l.toArray Q (l.drop n) a' x.w := by
    funext a'
    exact propext ⟨fun h x => h _ ⟨x, rfl⟩, fun h w' ⟨x, hx⟩ => hx ▸ h x⟩
  rw [e]
  exact h ⟨⟨_, hC⟩⟩
/-- a call that leaves the world alone -/
theorem cls_same {f : FuncId} {args : Array Value} {K : World → Prop} {x : Wd K} {v : Value} (h : Calls P f args x.w fun e w' => e = .returned v ∧ x.w = w') :
    Calls P f args x.w fun e w' => e = .returned v ∧ ∃ y : Wd K, w' = y.w := h.mono fun _ _ ⟨he, hw⟩ => ⟨he, ⟨x, hw.symm⟩⟩
/-- a call that makes memory alone -/
theorem cls_below {f : FuncId} {args : Array Value} {K : World → Prop} {x : Wd K} {v : Value} (hK : ∀ w w', K w → Below w.heap.size w w' → K w') (h : Calls P f args x.w fun e w' => e = .returned v ∧ Below x.w.heap.size x.w w') :
    Calls P f args x.w fun e w' => e = .returned v ∧ ∃ y : Wd K, w' = y.w := h.mono fun _ w' ⟨he, hw⟩ => ⟨he, ⟨⟨w', hK _ _ x.h hw⟩, rfl⟩⟩
end Go.Mem
/- A drawn region of three parts: first m operations that have one value in whatever world; quiet operations (loads) that have one value in every world that meets S; loud operations that keep S, in whatever order; then a forced tail. -/
namespace Go.Mem
open Go Go.RowKit
variable {P : Program} {ops : Array Oper} {md : Region.Mode} {S : World → Prop} {Q : Exit → Act → World → Prop}
/-- operations that yield a value and nothing else -/
def plainOp : Op → Bool
  | .move _ | .assign _ | .fieldAddr _ _ _ | .load _ _ | .nilCheck _ | .indexAddr _ _ _ => true
  | .binOp _ _ _ _ _ => true
  | .call { callee := .builtin .len, args := _, argTypes := _ } => true
  | .call { callee := .builtin .max, args := _, argTypes := _ } => true
  | .call { callee := .builtin .min, args := _, argTypes := _ } => true
  | _ => false
def Good (P : Program) (t : Sem Next) : Prop := ∀ w w' n, t.run P w = .ok n w' → ∃ v, n = .value v
theorem Good.pure (x : Value) : Good P (Pure.pure (Next.value x)) := fun w w' n h => by
  simp only [Sem.run_pure, Result.ok.injEq] at h; exact ⟨_, h.1.symm⟩
theorem Good.bind {α : Type} (s : Sem α) (f : α → Sem Next) (h : ∀ x, Good P (f x)) : Good P (s >>= f) := fun w w' n hs => by
  simp only [Sem.run_bind] at hs
  cases hq : s.run P w with
  | ok x w2 => rw [hq] at hs; simp only [Result.andThen_ok] at hs; exact h x _ _ _ hs
  | halt x w2 => rw [hq] at hs; simp [Result.andThen] at hs
theorem Good.nilDeref : Good P (runtimePanic .nilDeref) := fun w w' n h => by
  simp [runtimePanic, goPanic, go_sem] at h
theorem plain_good {o : Oper} (h : plainOp o.op = true) (ρ : Operand → Value) : Good P (execOp ρ o) := by
  unfold execOp
  unfold plainOp at h
  split at h
  · rename_i e; simp only [e]; exact .pure _
  · rename_i e; simp only [e]; exact .pure _
  · rename_i e; simp only [e]; exact .bind _ _ fun x => .pure x
  · rename_i e; simp only [e]; exact .bind _ _ fun x => .pure x
  · rename_i e
    simp only [e]
    split
    · exact .nilDeref
    · exact .nilDeref
    · exact .nilDeref
    · split
      · exact .nilDeref
      · refine .bind _ _ fun x => .bind _ _ fun y => ?_
        split
        · exact .bind _ _ fun _ => .pure _
        · exact .pure _
      · exact .pure _
    · exact .pure _
  · rename_i e; simp only [e]; exact .bind _ _ fun x => .pure x
  · rename_i e; simp only [e]; exact .bind _ _ fun x => .pure x
  · rename_i e
    simp only [e, resolve, invoke, builtin]
    intro w w' n hs
    simp only [Sem.run_bind, Sem.run_pure, Result.andThen_ok] at hs
    exact (Good.bind (Builtin.len_ _ _ _) (fun x => Pure.pure (Next.value x)) fun x => .pure x) _ _ _ (by simpa only [Sem.run_bind, Sem.run_pure] using hs)
  · rename_i e
    simp only [e, resolve, invoke, builtin]
    intro w w' n hs
    simp only [Sem.run_bind, Sem.run_pure, Result.andThen_ok] at hs
    exact (Good.bind (Builtin.max_ _ _ _) (fun x => Pure.pure (Next.value x)) fun x => .pure x) _ _ _ (by simpa only [Sem.run_bind, Sem.run_pure] using hs)
  · rename_i e
    simp only [e, resolve, invoke, builtin]
    intro w w' n hs
    simp only [Sem.run_bind, Sem.run_pure, Result.andThen_ok] at hs
    exact (Good.bind (Builtin.min_ _ _ _) (fun x => Pure.pure (Next.value x)) fun x => .pure x) _ _ _ (by simpa only [Sem.run_bind, Sem.run_pure] using hs)
  · cases h
/-- what a quiet walk shows of a plain operation -/
theorem yieldsIf_of_qOp {i : Nat} {o : Oper} {a : Act} {K : Act → Prop} (hi : ops[i]? = some o) (hp : plainOp o.op = true) (h : qOp P ops S i K a) : ∃ v, YieldsIf P ops S o v a ∧ K (a.put o.dst v) := by
  obtain ⟨v, hy, hk⟩ := yieldsIn_of_qOp hi h
  refine ⟨v, hy.imp (fun ⟨h1, h2⟩ => ⟨h1, fun w hw => ?_⟩) id, hk⟩
  have h3 := h2 w hw
  unfold Oper.quietAt at h3
  generalize hr : (execOp a.eval o).run P w = r at *
  cases r with
  | ok n w' =>
    obtain ⟨u, rfl⟩ := plain_good hp _ _ _ _ hr
    obtain ⟨rfl, rfl⟩ := h3
    rfl
  | halt x w' => simp only [Oper.quietUpon] at h3
/-- the operations of the list, each ready and free when its turn comes -/
def lexIs (md : Region.Mode) (ops : Array Oper) : List Nat → Array Bool → Bool
  | [], _ => true
  | i :: l, ls => (Region.ready md ops ls).contains i && Region.free md ops ls i && ((ops[i]?).map fun o => plainOp o.op).getD false && lexIs md ops l (ls.setIfInBounds i true)
def setAll : List Nat → Array Bool → Array Bool
  | [], ls => ls
  | i :: l, ls => setAll l (ls.setIfInBounds i true)
def pick (ops : Array Oper) (l : List Nat) : List Oper := l.filterMap (ops[·]?)
theorem wpQuiet_mono' {R R' : Act → Prop} (hR : ∀ a, R a → R' a) : ∀ {l : List Oper} {a : Act}, wpQuiet P ops S R l a → wpQuiet P ops S R' l a := by
  intro l
  induction l with
  | nil => intro a h; exact hR _ h
  | cons o l ih =>
    intro a h
    simp only [wpQuiet] at h ⊢
    split
    · rename_i hw; rw [if_pos hw] at h; exact Oper.quiet_mono (fun a => ih) h
    · rename_i hw; rw [if_neg hw] at h; exact ih h
/-- operations that have one value in whatever world may come first in the region -/
theorem wpAny_pre (hsel : Region.noSelect ops = true) (hQ : ∀ c a a' w, Q (.panic c) a' w → Q (.panic c) a w) {g : Nat} {w : World} (pre : List Nat) :
    ∀ (ls : Array Bool) (a : Act), lexIs md ops pre ls = true → wpQuiet P ops (fun _ => True) (fun a' => wpAny P md ops Q g (setAll pre ls) a' w) (pick ops pre) a → wpAny P md ops Q (pre.length + g) ls a w := by
  induction pre with
  | nil => intro ls a _ h; rw [List.length_nil, Nat.zero_add]; exact h
  | cons i l ih =>
    intro ls a hB h
    simp only [lexIs, Bool.and_eq_true] at hB
    obtain ⟨⟨⟨hr, hf⟩, hp⟩, hB⟩ := hB
    cases ho : ops[i]? with
    | none => rw [ho] at hp; cases hp
    | some o =>
      rw [ho] at hp
      have e : pick ops (i :: l) = o :: pick ops l := by simp [pick, ho]
      rw [e] at h
      have hq : qOp P ops (fun _ => True) i (wpQuiet P ops (fun _ => True) (fun a' => wpAny P md ops Q g (setAll (i :: l) ls) a' w) (pick ops l)) a := by unfold qOp; simp only [ho]; exact h
      obtain ⟨v, hy, hk⟩ := yieldsIf_of_qOp ho hp hq
      have e2 : (i :: l).length + g = (l.length + g) + 1 := by simp only [List.length_cons]; omega
      rw [e2]
      exact wpAny_take ho hsel hf hr (fun c a w h => hQ _ _ _ _ h) (hy.imp (fun ⟨h1, h2⟩ => ⟨h1, fun w => h2 w trivial⟩) id) (ih _ _ hB hk)
def sinkFrom (md : Region.Mode) (ops : Array Oper) (m n : Nat) : Bool :=
  (List.range n).all fun i => decide (i < m) || (List.range (n + 1)).any fun j => decide (i < j) && Region.waitsFor md ops j i
theorem tail_waits' {m n : Nat} {listed : Array Bool} (hs : sinkFrom md ops m n = true) (hc : Region.chainB md ops n = true) (hn : n < ops.size) (inv : HeadInv md ops n listed) :
    ∀ (d i : Nat), n - i = d → m ≤ i → i < n → listed.getD i true = false → ∀ t, n ≤ t → t ∉ Region.ready md ops listed := by
  intro d
  induction d using Nat.strongRecOn with
  | _ d ih =>
    intro i hd hmi hi hun t ht hr
    obtain ⟨_, ot, hot, hall⟩ := mem_ready.1 hr
    have htlt : t < ops.size := (Array.getElem?_eq_some_iff.1 hot).1
    by_cases htn : t = n
    · subst htn
      have h1 := List.all_eq_true.1 hs i (List.mem_range.2 hi)
      have h1' : ((List.range (t + 1)).any fun j => decide (i < j) && Region.waitsFor md ops j i) = true := by
        simp only [Bool.or_eq_true, decide_eq_true_eq] at h1
        rcases h1 with h1 | h1
        · omega
        · exact h1
      obtain ⟨j, hj, hj2⟩ := List.any_eq_true.1 h1'
      simp only [Bool.and_eq_true, decide_eq_true_eq] at hj2
      obtain ⟨oj, hoj, e, he, hb, hon⟩ := Region.waitsFor_spec hj2.2
      have hjle : j ≤ t := by have := List.mem_range.1 hj; omega
      by_cases hjt : j = t
      · subst hjt
        have : oj = ot := Option.some.inj (hoj.symm.trans hot)
        subst this
        have h2 := hall e he hb
        rw [hon, getD_both hun] at h2
        cases h2
      · cases hl : listed.getD j false with
        | true =>
          have h2 := inv.closed j oj hoj hl e he hb
          rw [hon, getD_both hun] at h2
          cases h2
        | false =>
          have hjs : j < listed.size := by rw [inv.size]; omega
          exact ih (t - j) (by omega) j rfl (by omega) (by omega) (getD_in hjs hl) t (Nat.le_refl _) hr
    · have h1 := List.all_eq_true.1 hc t (List.mem_range.2 htlt)
      simp only [Bool.or_eq_true, decide_eq_true_eq] at h1
      rcases h1 with h1 | h1
      · omega
      · obtain ⟨o', ho', e, he, hb, hon⟩ := Region.waitsFor_spec h1
        have : o' = ot := Option.some.inj (ho'.symm.trans hot)
        subst this
        have h2 := hall e he hb
        rw [hon, getD_both (inv.tail (t - 1) (by omega) (by omega))] at h2
        cases h2
/-- whatever is picked within the head; S is kept -/
def headW (P : Program) (md : Region.Mode) (ops : Array Oper) (Q : Exit → Act → World → Prop) (S : World → Prop) (n : Nat) (L : Array Bool → Act → World → Prop) : Nat → Array Bool → Act → World → Prop
  | 0, ls, a, w => L ls a w
  | k + 1, ls, a, w => Region.ready md ops ls ≠ [] ∧ ∀ i ∈ Region.ready md ops ls, i < n ∧ wpOp P ops Q i (fun a' w' => S w' ∧ headW P md ops Q S n L k (ls.setIfInBounds i true) a' w') a w
theorem headW_sound {n g : Nat} {L : Array Bool → Act → World → Prop} (hL : ∀ ls a w, L ls a w → wpAny P md ops Q g ls a w) (k : Nat) :
    ∀ (ls : Array Bool) (a : Act) (w : World), headW P md ops Q S n L k ls a w → wpAny P md ops Q (k + g) ls a w := by
  induction k with
  | zero => intro ls a w h; rw [Nat.zero_add]; exact hL ls a w h
  | succ k ih =>
    intro ls a w h
    have e : k + 1 + g = (k + g) + 1 := by omega
    rw [e]
    exact ⟨fun h0 => absurd h0 h.1, fun i hi => wpOp_mono (fun a' w' h' => ih _ a' w' h'.2) (h.2 i hi).2⟩
theorem headW_first {m n i : Nat} {oi : Oper} {v : Value} {L : Array Bool → Act → World → Prop} (hi : ops[i]? = some oi) (hsel : ∀ (j : Nat) (o : Oper) cs b, ops[j]? = some o → o.op ≠ .select cs b)
    (hs : sinkFrom md ops m n = true) (hc : Region.chainB md ops n = true) (hn : n < ops.size) (hin : i < n) (hQ : ∀ c a a' w, Q (.panic c) a' w → Q (.panic c) a w)
    (hend : ∀ ls a w, L ls a w → ∀ j ∈ Region.ready md ops ls, n ≤ j) (k : Nat) :
    ∀ (ls : Array Bool) (a : Act) (w : World), HeadInv md ops n ls → (∀ i < m, ls.getD i true = true) →
      (∀ j oj, ops[j]? = some oj → j ≠ i → ls.getD j true = false → (∀ e ∈ oj.after, Region.binds md e = true → e.on ≠ i) → oi.apart ops oj = true) →
      i ∈ Region.ready md ops ls → YieldsIf P ops S oi v a → S w → headW P md ops Q S n L k (ls.setIfInBounds i true) (a.put oi.dst v) w → headW P md ops Q S n L (k + 1) ls a w := by
  have inHead : ∀ (ls : Array Bool), HeadInv md ops n ls → (∀ i < m, ls.getD i true = true) → i ∈ Region.ready md ops ls → ∀ j ∈ Region.ready md ops ls, j < n := by
    intro ls inv hm hr j hj
    rcases Nat.lt_or_ge j n with h | h
    · exact h
    · have hun := (mem_ready.1 hr).1
      have hmi : m ≤ i := by
        rcases Nat.lt_or_ge i m with h' | h'
        · rw [hm i h'] at hun; cases hun
        · exact h'
      exact absurd hj (tail_waits' hs hc hn inv _ i rfl hmi hin hun j h)
  induction k with
  | zero =>
    intro ls a w inv hm _ hr hy hS H
    refine ⟨fun h => (by rw [h] at hr; cases hr), fun j hj => ⟨inHead ls inv hm hr j hj, ?_⟩⟩
    by_cases e : j = i
    · subst e; exact hy.wpOp hi hS ⟨hS, H⟩
    · have h1 := hend _ _ _ H j (ready_mono hj e)
      have h2 := inHead ls inv hm hr j hj
      omega
  | succ k ih =>
    intro ls a w inv hm hfree hr hy hS H
    refine ⟨fun h => (by rw [h] at hr; cases hr), fun j hj => ⟨inHead ls inv hm hr j hj, ?_⟩⟩
    by_cases e : j = i
    · subst e; exact hy.wpOp hi hS ⟨hS, H⟩
    · obtain ⟨hju, oj, hoj, hall⟩ := mem_ready.1 hj
      have hnot : ∀ d ∈ oj.after, Region.binds md d = true → d.on ≠ i := fun d hd hb hq => by
        have h1 := hall d hd hb
        rw [hq, getD_both (mem_ready.1 hr).1] at h1
        cases h1
      have h1 := wpOp_putIf hoj (hfree j oj hoj e hju hnot) (fun cs b => hsel i oi cs b hi) (fun cs b => hsel j oj cs b hoj) (fun c a w h => hQ c a _ w h) hy (H.2 j (ready_mono hj e)).2
      refine wpOp_mono (fun a' w' h2 => ⟨h2.2.1, ?_⟩) h1
      refine ih (ls.setIfInBounds j true) a' w' (inv.set hj (inHead ls inv hm hr j hj)) (fun x hx => ?_) (fun q om hq hqi hqu hno => ?_) (ready_mono hr (Ne.symm e)) h2.1 h2.2.1 ?_
      · by_cases hjx : j = x
        · subst hjx
          have := (mem_ready.1 hj).1
          rw [hm j hx] at this
          cases this
        · rw [getD_set_ne true hjx]; exact hm x hx
      · refine hfree q om hq hqi ?_ hno
        by_cases hjm : j = q
        · subst hjm; exact hju
        · rw [getD_set_ne true hjm] at hqu; exact hqu
      · rw [Array.setIfInBounds_comm _ _ e]
        exact h2.2.2
theorem HeadInv.setAll {n : Nat} : ∀ (l : List Nat) (ls : Array Bool), HeadInv md ops n ls → lexIs md ops l ls = true → (∀ i ∈ l, i < n) → HeadInv md ops n (setAll l ls)
  | [], _, inv, _, _ => inv
  | i :: l, ls, inv, hB, hl => by
    simp only [lexIs, Bool.and_eq_true] at hB
    exact HeadInv.setAll l _ (inv.set (by simpa using hB.1.1.1) (hl i (List.mem_cons_self ..))) hB.2 fun j hj => hl j (List.mem_cons_of_mem _ hj)
theorem setAll_true : ∀ (l : List Nat) (ls : Array Bool) (x : Nat), ls.getD x true = true → (Go.Mem.setAll l ls).getD x true = true
  | [], _, _, h => h
  | i :: l, ls, x, h => by
    refine setAll_true l _ x ?_
    by_cases hix : i = x
    · subst hix
      rcases Nat.lt_or_ge i ls.size with h' | h'
      · simp [h']
      · simp [h']
    · rw [getD_set_ne true hix]; exact h
theorem setAll_mem : ∀ (l : List Nat) (ls : Array Bool) (x : Nat), x ∈ l → (Go.Mem.setAll l ls).getD x true = true
  | i :: l, ls, x, h => by
    rcases List.mem_cons.1 h with rfl | h
    · refine setAll_true l _ x ?_
      rcases Nat.lt_or_ge x ls.size with h' | h'
      · simp [h']
      · simp [Array.getElem?_eq_none h']
    · exact setAll_mem l _ x h
/-- operations that have one value in every world that meets S may come first in the head -/
theorem headW_qs {m n k : Nat} {L : Array Bool → Act → World → Prop} {w : World} (hsel : Region.noSelect ops = true) (hs : sinkFrom md ops m n = true) (hc : Region.chainB md ops n = true) (hn : n < ops.size)
    (hQ : ∀ c a a' w, Q (.panic c) a' w → Q (.panic c) a w) (hend : ∀ ls a w, L ls a w → ∀ j ∈ Region.ready md ops ls, n ≤ j) (hS : S w) (qs : List Nat) :
    ∀ (ls : Array Bool) (a : Act), HeadInv md ops n ls → (∀ i < m, ls.getD i true = true) → lexIs md ops qs ls = true → (∀ i ∈ qs, i < n) →
      wpQuiet P ops S (fun a' => headW P md ops Q S n L k (setAll qs ls) a' w) (pick ops qs) a → headW P md ops Q S n L (qs.length + k) ls a w := by
  induction qs with
  | nil => intro ls a _ _ _ _ h; rw [List.length_nil, Nat.zero_add]; exact h
  | cons i l ih =>
    intro ls a inv hm hB hl h
    simp only [lexIs, Bool.and_eq_true] at hB
    obtain ⟨⟨⟨hr, hf⟩, hp⟩, hB⟩ := hB
    cases ho : ops[i]? with
    | none => rw [ho] at hp; cases hp
    | some o =>
      rw [ho] at hp
      have e : pick ops (i :: l) = o :: pick ops l := by simp [pick, ho]
      rw [e] at h
      have hq : qOp P ops S i (wpQuiet P ops S (fun a' => headW P md ops Q S n L k (Go.Mem.setAll (i :: l) ls) a' w) (pick ops l)) a := by unfold qOp; simp only [ho]; exact h
      obtain ⟨v, hy, hk⟩ := yieldsIf_of_qOp ho hp hq
      have e2 : (i :: l).length + k = (l.length + k) + 1 := by simp only [List.length_cons]; omega
      have hr' : i ∈ Region.ready md ops ls := by simpa using hr
      have hin := hl i (List.mem_cons_self ..)
      rw [e2]
      refine headW_first ho (Region.noSelect_spec hsel) hs hc hn hin hQ hend _ ls a w inv hm (Region.free_spec ho hf) hr' hy hS ?_
      refine ih _ _ (inv.set hr' hin) (fun x hx => ?_) hB (fun j hj => hl j (List.mem_cons_of_mem _ hj)) hk
      exact setAll_true [i] ls x (hm x hx)
/-- what the numbers of a region must be -/
def headWB (ops : Array Oper) (m n k : Nat) (qs : List Nat) : Bool :=
  let l0 := Array.replicate ops.size false
  let l1 := setAll (List.range m) l0
  Region.noSelect ops && decide (n < ops.size) && decide (m + (qs.length + k) = n) && sinkFrom .any ops m n && Region.chainB .any ops n && lexIs .any ops (List.range m) l0 && lexIs .any ops qs l1 && qs.all (fun i => decide (i < n)) &&
    decide (m ≤ n)
/-- the law -/
theorem wp_head_tail {id : Nat} {a : Act} {w : World} {l : List Oper} (m n k : Nat) (qs : List Nat) (S : World → Prop) (Fin : Act → World → Prop) (hm : P.follows .mixedOrders = true) (hB : headWB l.toArray m n k qs = true) (hS : S w.drew)
    (h1 : wpQuiet P l.toArray (fun _ => True) (fun a1 => wpQuiet P l.toArray S (fun a2 => headW P .any l.toArray (NoPanic Q) S n
        (fun ls a' w' => Region.seqB .any l.toArray (l.toArray.size - n) n ls = true ∧ Fin a' w') k (setAll qs (setAll (List.range m) (Array.replicate l.toArray.size false))) a2 w.drew) (pick l.toArray qs) a1) (pick l.toArray (List.range m)) a)
    (h2 : ∀ a' w', Fin a' w' → wpList P l.toArray (NoPanic Q) (l.drop n) a' w') : (Code.region id l.toArray true).wp P Q a w := by
  simp only [headWB, Bool.and_eq_true, decide_eq_true_eq] at hB
  obtain ⟨⟨⟨⟨⟨⟨⟨⟨hsel, hn⟩, hmk⟩, hs⟩, hc⟩, hpre⟩, hqs⟩, hqn⟩, hmn⟩ := hB
  have hQ : ∀ c a a' w, NoPanic Q (.panic c) a' w → NoPanic Q (.panic c) a w := fun _ _ _ _ h => (h : False).elim
  have inv0 : HeadInv .any l.toArray n (Array.replicate l.toArray.size false) :=
    ⟨by simp, fun j oj _ hl => (by rw [getD_replicate_false] at hl; cases hl), fun t _ ht => getD_in (by simpa using ht) (getD_replicate_false _ _)⟩
  have inv1 := HeadInv.setAll (List.range m) _ inv0 hpre fun i hi => by have := List.mem_range.1 hi; omega
  refine wp_region_noPanic (wp_region_any hm ?_)
  have hdl : (l.drop n).length = l.toArray.size - n := by simp
  have hsz : l.toArray.size = (List.range m).length + ((qs.length + k) + (l.toArray.size - n)) := by rw [List.length_range]; omega
  have hfu : wpAny P .any l.toArray (NoPanic Q) ((List.range m).length + ((qs.length + k) + (l.toArray.size - n))) (Array.replicate l.toArray.size false) a w.drew := by
    refine wpAny_pre hsel hQ (List.range m) _ _ hpre ?_
    refine wpQuiet_mono' (fun a1 h3 => ?_) h1
    refine headW_sound (n := n) (S := S) (fun ls a' w' hL => ?_) (qs.length + k) _ a1 w.drew ?_ (L := fun ls a' w' => Region.seqB .any l.toArray (l.toArray.size - n) n ls = true ∧ Fin a' w')
    · have := wpAny_of_seq (P := P) (md := .any) (Q' := NoPanic Q) (l.drop n) n ls a' w' (fun j => by simp [List.getElem?_drop]) (by rw [hdl]; exact hL.1) (h2 a' w' hL.2)
      rwa [hdl] at this
    · exact headW_qs hsel hs hc hn hQ (fun ls a w hL => seqB_ready hL.1) hS qs _ a1 inv1 (fun i hi => setAll_mem _ _ i (List.mem_range.2 hi)) hqs (fun i hi => by simpa using List.all_eq_true.1 hqn i hi) h3
  rw [← hsz] at hfu
  exact hfu
/-- whichever comes up -/
theorem headW_all {n k : Nat} {L : Array Bool → Act → World → Prop} {rs : List Nat} {ls : Array Bool} {a : Act} {w : World} (hr : Region.ready md ops ls = rs) (hne : rs ≠ []) (hn : rs.all (fun i => decide (i < n)) = true)
    (h : ∀ i ∈ rs, wpOp P ops Q i (fun a' w' => S w' ∧ headW P md ops Q S n L k (ls.setIfInBounds i true) a' w') a w) : headW P md ops Q S n L (k + 1) ls a w :=
  ⟨fun h0 => hne (hr ▸ h0), fun i hi => ⟨by have := List.all_eq_true.1 hn i (hr ▸ hi); simpa using this, h i (hr ▸ hi)⟩⟩
/-- one operation, walked like a list of one -/
theorem wpOp_list {i : Nat} {o : Oper} {K : Act → World → Prop} {a : Act} {w : World} (ho : ops[i]? = some o) (h : ∀ Q' : Exit → Act → World → Prop, (∀ a w, K a w → Q' .normal a w) → wpList P ops Q' [o] a w) : wpOp P ops Q i K a w := by
  have h1 := h (fun e a w => match e with | .normal => K a w | _ => False) (fun _ _ h => h)
  unfold wpOp
  simp only [ho]
  simp only [wpList] at h1
  split
  · rename_i hw
    rw [if_pos hw] at h1
    rcases h1 with h1 | ⟨_, h1⟩
    · refine .inl ?_
      unfold Oper.wp at *
      generalize (execOp a.eval o).run P w = r at *
      cases r with
      | ok n w' =>
        cases n <;> simp only [Oper.upon] at h1 ⊢ <;>
          first
            | exact h1
            | exact Calls.mono h1 (fun e w'' he => by cases e <;> first | exact he | exact False.elim he | exact (let ⟨_, _, h⟩ := he; False.elim h))
            | exact Rows.mono h1 (fun _ _ he => he)
      | halt x w' => cases x <;> simp only [Oper.upon] at h1 ⊢
    · obtain ⟨_, _, h1⟩ := h1
      exact h1.elim
  · rename_i hw; rw [if_neg hw] at h1; exact h1
/-- the law, with what follows in the place of its predicate -/
theorem wp_head_tail' {id : Nat} {a : Act} {w : World} {l : List Oper} (m n k : Nat) (pre qs : List Nat) (hpre : List.range m = pre) (K : World → Prop) (hm : P.follows .mixedOrders = true) (hB : headWB l.toArray m n k qs = true) (hK : K w.drew)
    (h1 : wpQuiet P l.toArray (fun _ => True) (fun a1 => wpQuiet P l.toArray (fun w' => ∃ y : Wd K, w' = y.w) (fun a2 => headW P .any l.toArray (NoPanic Q) K n
        (fun ls a' w' => Region.seqB .any l.toArray (l.toArray.size - n) n ls = true ∧ wpList P l.toArray (NoPanic Q) (l.drop n) a' w') k (setAll qs (setAll pre (Array.replicate l.toArray.size false))) a2 w.drew) (pick l.toArray qs) a1) (pick l.toArray pre) a) :
    (Code.region id l.toArray true).wp P Q a w := by
  subst hpre
  have e : (fun w' => ∃ y : Wd K, w' = y.w) = K := by
    funext w'
    exact propext ⟨fun ⟨y, hy⟩ => hy ▸ y.h, fun h => ⟨⟨w', h⟩, rfl⟩⟩
  rw [e] at h1
  exact wp_head_tail m n k qs K (fun a' w' => wpList P l.toArray (NoPanic Q) (l.drop n) a' w') hm hB hK h1 (fun _ _ h => h)
theorem headW_mono {n : Nat} {L L' : Array Bool → Act → World → Prop} (hL : ∀ ls a w, L ls a w → L' ls a w) (k : Nat) :
    ∀ (ls : Array Bool) (a : Act) (w : World), headW P md ops Q S n L k ls a w → headW P md ops Q S n L' k ls a w := by
  induction k with
  | zero => exact hL
  | succ k ih => exact fun ls a w h => ⟨h.1, fun i hi => ⟨(h.2 i hi).1, wpOp_mono (fun a' w' h' => ⟨h'.1, ih _ a' w' h'.2⟩) (h.2 i hi).2⟩⟩
/-- the law, with a predicate between the loud operations and the tail -/
theorem wp_head_tail3 {id : Nat} {a : Act} {w : World} {l : List Oper} (m n k : Nat) (pre qs : List Nat) (hpre : List.range m = pre) (K : World → Prop) (Fin : Act → Act → World → Prop) (hm : P.follows .mixedOrders = true) (hB : headWB l.toArray m n k qs = true) (hK : K w.drew)
    (h1 : wpQuiet P l.toArray (fun _ => True) (fun a1 => wpQuiet P l.toArray (fun w' => ∃ y : Wd K, w' = y.w) (fun a2 => headW P .any l.toArray (NoPanic Q) K n
        (fun ls a' w' => Region.seqB .any l.toArray (l.toArray.size - n) n ls = true ∧ Fin a2 a' w') k (setAll qs (setAll pre (Array.replicate l.toArray.size false))) a2 w.drew ∧
        ∀ a' w', Fin a2 a' w' → wpList P l.toArray (NoPanic Q) (l.drop n) a' w') (pick l.toArray qs) a1) (pick l.toArray pre) a) :
    (Code.region id l.toArray true).wp P Q a w :=
  wp_head_tail' m n k pre qs hpre K hm hB hK (wpQuiet_mono' (fun _ h => wpQuiet_mono' (fun _ h' => headW_mono (fun _ _ _ hl => ⟨hl.1, h'.2 _ _ hl.2⟩) _ _ _ _ h'.1) h) h1)
end Go.Mem
/- TopAdjusted: what the law says, in plain numbers. -/
namespace Go.Adj
/-- a hole, an entry, as they lie in memory -/
structure HI where
  par : Int
  idx : Int
structure EI where
  s : Int
  m : ByteArray
def HI.cells (x : HI) : List Value := [.int .i64 x.par, .int .i64 x.idx]
def EI.cells (x : EI) : List Value := [.int .i64 x.s, .string x.m]
def bx : ByteArray := ⟨#[120]⟩
def bc : ByteArray := ⟨#[99]⟩
def bd : ByteArray := ⟨#[45]⟩
def be : ByteArray := ⟨#[]⟩
instance : Inhabited HI := ⟨⟨0, 0⟩⟩
instance : Inhabited EI := ⟨⟨0, be⟩⟩
def hAt (hs : List HI) (i : Nat) : HI := hs.getD i default
def eAt (es : List EI) (i : Nat) : EI := es.getD i default
theorem hAt_eq {hs : List HI} {i : Nat} {x : HI} (h : hs[i]? = some x) : hAt hs i = x := by unfold hAt; simp [List.getD, h]
theorem eAt_eq {hs : List EI} {i : Nat} {x : EI} (h : hs[i]? = some x) : eAt hs i = x := by unfold eAt; simp [List.getD, h]
/-- holes without an error -/
structure GoodH (hs : List HI) : Prop where
  len : 1 ≤ hs.length ∧ hs.length ≤ 36
  par : ∀ i, i < hs.length → 3 ≤ (hAt hs i).par ∧ (hAt hs i).par ≤ 6
  idx : ∀ i, i < hs.length → 1 ≤ (hAt hs i).idx ∧ (hAt hs i).idx ≤ hs.length
  two : ∀ i k, i < hs.length → k < i → (hAt hs k).idx ≠ (hAt hs i).idx
/-- an entry without an error -/
def GoodE (x : EI) : Prop := ((x.m = be ∨ x.m = bc) ∧ 1 ≤ x.s ∧ x.s ≤ 99) ∨ ((x.m = bx ∨ x.m = bd) ∧ x.s = 0)
/-- an entry that is not '-' -/
def PlayE (x : EI) : Prop := ((x.m = be ∨ x.m = bc) ∧ 1 ≤ x.s ∧ x.s ≤ 99) ∨ (x.m = bx ∧ x.s = 0)
def sumTo (f : Nat → Int) : Nat → Int
  | 0 => 0
  | k + 1 => sumTo f k + f k
theorem sumTo_add (f g : Nat → Int) : ∀ n, sumTo (fun i => f i + g i) n = sumTo f n + sumTo g n
  | 0 => rfl
  | n + 1 => by simp only [sumTo, sumTo_add f g n]; omega
theorem sumTo_sub (f g : Nat → Int) : ∀ n, sumTo (fun i => f i - g i) n = sumTo f n - sumTo g n
  | 0 => rfl
  | n + 1 => by simp only [sumTo, sumTo_sub f g n]; omega
theorem sumTo_const (c : Int) : ∀ n : Nat, sumTo (fun _ => c) n = c * n
  | 0 => by simp [sumTo]
  | n + 1 => by simp only [sumTo, sumTo_const c n]; rw [Int.natCast_succ, Int.mul_add]; omega
theorem sumTo_congr {f g : Nat → Int} : ∀ {n : Nat}, (∀ i, i < n → f i = g i) → sumTo f n = sumTo g n
  | 0, _ => rfl
  | n + 1, h => by simp only [sumTo]; rw [sumTo_congr (fun i hi => h i (by omega)), h n (by omega)]
theorem sumTo_le {f g : Nat → Int} : ∀ {n : Nat}, (∀ i, i < n → f i ≤ g i) → sumTo f n ≤ sumTo g n
  | 0, _ => Int.le_refl _
  | n + 1, h => by simp only [sumTo]; have := sumTo_le (n := n) (fun i hi => h i (by omega)); have := h n (by omega); omega
theorem sumTo_bd {f : Nat → Int} {a b : Int} : ∀ {n : Nat}, (∀ i, i < n → a ≤ f i ∧ f i ≤ b) → a * n ≤ sumTo f n ∧ sumTo f n ≤ b * n
  | 0, _ => by simp [sumTo]
  | n + 1, h => by
    have h1 := sumTo_bd (n := n) (fun i hi => h i (by omega))
    have h2 := h n (by omega)
    simp only [sumTo]
    rw [Int.natCast_succ, Int.mul_add, Int.mul_add]
    omega
theorem sumTo_eq_of_le {f g : Nat → Int} : ∀ {n : Nat}, (∀ i, i < n → f i ≤ g i) → sumTo f n = sumTo g n → ∀ i, i < n → f i = g i
  | 0, _, _ => fun i hi => absurd hi (by omega)
  | n + 1, h, e => fun i hi => by
    simp only [sumTo] at e
    have h1 := sumTo_le (n := n) (fun i hi => h i (by omega))
    have h2 := h n (by omega)
    have e1 : sumTo f n = sumTo g n := by omega
    by_cases hin : i = n
    · subst hin; omega
    · exact sumTo_eq_of_le (n := n) (fun i hi => h i (by omega)) e1 i (by omega)
/-- how many indexes are at most r -/
def cnt (hs : List HI) (r : Int) (n : Nat) : Int := sumTo (fun i => if (hAt hs i).idx ≤ r then 1 else 0) n
def eqs (hs : List HI) (r : Int) (n : Nat) : Int := sumTo (fun i => if (hAt hs i).idx = r then 1 else 0) n
theorem cnt_succ (hs : List HI) (r : Int) (n : Nat) : cnt hs (r + 1) n = cnt hs r n + eqs hs (r + 1) n := by
  unfold cnt eqs
  rw [← sumTo_add]
  refine sumTo_congr fun i _ => ?_
  split <;> split <;> split <;> omega
theorem eqs_zero (hs : List HI) (r : Int) : ∀ {n : Nat}, (∀ i, i < n → (hAt hs i).idx ≠ r) → eqs hs r n = 0
  | 0, _ => rfl
  | n + 1, h => by
    show eqs hs r n + (if (hAt hs n).idx = r then 1 else 0) = 0
    rw [eqs_zero hs r fun i hi => h i (by omega), if_neg (h n (by omega))]; rfl
theorem eqs_le (hs : List HI) (r : Int) : ∀ {n : Nat}, (∀ i k, i < n → k < i → (hAt hs k).idx ≠ (hAt hs i).idx) → 0 ≤ eqs hs r n ∧ eqs hs r n ≤ 1
  | 0, _ => by simp [eqs, sumTo]
  | n + 1, h => by
    show 0 ≤ eqs hs r n + (if (hAt hs n).idx = r then 1 else 0) ∧ eqs hs r n + (if (hAt hs n).idx = r then 1 else 0) ≤ 1
    have ih := eqs_le hs r (n := n) (fun i k hi hk => h i k (by omega) hk)
    by_cases e : (hAt hs n).idx = r
    · have hz : eqs hs r n = 0 := eqs_zero hs r fun i hi => by rw [← e]; exact h n i (by omega) hi
      rw [hz, if_pos e]; omega
    · rw [if_neg e]; omega
theorem cnt_eq {hs : List HI} (h : GoodH hs) : ∀ r : Nat, r ≤ hs.length → cnt hs r hs.length = r := by
  have hstep : ∀ r : Int, cnt hs r hs.length ≤ cnt hs (r + 1) hs.length ∧ cnt hs (r + 1) hs.length ≤ cnt hs r hs.length + 1 := fun r => by
    rw [cnt_succ]
    have := eqs_le hs (r + 1) h.two
    omega
  have h0 : cnt hs 0 hs.length = 0 := by
    unfold cnt
    rw [sumTo_congr (g := fun _ => 0) fun i hi => if_neg (by have := h.idx i hi; omega), sumTo_const]; omega
  have hn : cnt hs hs.length hs.length = hs.length := by
    unfold cnt
    rw [sumTo_congr (g := fun _ => 1) fun i hi => if_pos (by have := h.idx i hi; omega), sumTo_const]; omega
  have hup : ∀ r : Nat, cnt hs r hs.length ≤ r := by
    intro r
    induction r with
    | zero => rw [Int.natCast_zero, h0]; exact Int.le_refl _
    | succ r ih => have := hstep r; rw [Int.natCast_succ]; omega
  have hdn : ∀ d : Nat, d ≤ hs.length → ((hs.length - d : Nat) : Int) ≤ cnt hs ((hs.length - d : Nat) : Int) hs.length := by
    intro d
    induction d with
    | zero => intro _; rw [Nat.sub_zero, hn]; exact Int.le_refl _
    | succ d ih =>
      intro hd
      have h1 := ih (by omega)
      have h2 := hstep ((hs.length - (d + 1) : Nat) : Int)
      have e : (((hs.length - (d + 1) : Nat) : Int) + 1) = ((hs.length - d : Nat) : Int) := by omega
      rw [e] at h2
      omega
  intro r hr
  have h1 := hup r
  have h2 := hdn (hs.length - r) (by omega)
  rw [show hs.length - (hs.length - r) = r by omega] at h2
  omega
/-- rounded down, as the program does it -/
def floorF (a b : Int) : Int := if a.tmod b < 0 then a.tdiv b - 1 else a.tdiv b
def qF (hs : List HI) (c : Int) : Int := floorF c hs.length
def restF (hs : List HI) (c : Int) : Int := c - qF hs c * hs.length
def givF (hs : List HI) (c : Int) (i : Nat) : Int := if (hAt hs i).idx ≤ restF hs c then qF hs c + 1 else qF hs c
theorem rest_bd {hs : List HI} (h : 1 ≤ hs.length) (c : Int) : 0 ≤ restF hs c ∧ restF hs c < hs.length := by
  unfold restF qF floorF
  have e := Int.mul_tdiv_add_tmod c hs.length
  have hn : (0 : Int) < hs.length := by omega
  have hlt := Int.tmod_lt_of_pos c hn
  have hgt : -(hs.length : Int) < c.tmod hs.length := by
    by_cases hc : 0 ≤ c
    · have := Int.tmod_nonneg (hs.length : Int) hc; omega
    · have := Int.tmod_lt_of_pos (-c) hn
      rw [Int.neg_tmod] at this; omega
  rw [Int.mul_comm] at e
  split
  · rw [Int.sub_mul]; omega
  · omega
theorem q_bd {hs : List HI} (h : 1 ≤ hs.length ∧ hs.length ≤ 36) {c : Int} (hc : -99 ≤ c ∧ c ≤ 99) : -100 ≤ qF hs c ∧ qF hs c ≤ 99 := by
  have h1 := rest_bd h.1 c
  have e : restF hs c = c - qF hs c * hs.length := rfl
  have hn : (1 : Int) ≤ hs.length := by omega
  have hn2 : (hs.length : Int) ≤ 36 := by omega
  generalize qF hs c = q at *
  generalize (hs.length : Int) = n at *
  constructor
  · apply Int.not_lt.1
    intro hq
    have : q * n ≤ -101 * n := Int.mul_le_mul_of_nonneg_right (by omega) (by omega)
    omega
  · apply Int.not_lt.1
    intro hq
    have : 100 * n ≤ q * n := Int.mul_le_mul_of_nonneg_right (by omega) (by omega)
    omega
theorem giv_bd {hs : List HI} (h : 1 ≤ hs.length ∧ hs.length ≤ 36) {c : Int} (hc : -99 ≤ c ∧ c ≤ 99) (i : Nat) : -100 ≤ givF hs c i ∧ givF hs c i ≤ 100 := by
  have := q_bd h hc
  unfold givF
  split <;> omega
theorem giv_sum {hs : List HI} (h : GoodH hs) (c : Int) : sumTo (givF hs c) hs.length = c := by
  have hr := rest_bd h.len.1 c
  have hc := cnt_eq h (restF hs c).toNat (by omega)
  rw [Int.toNat_of_nonneg hr.1] at hc
  have e : sumTo (givF hs c) hs.length = qF hs c * hs.length + cnt hs (restF hs c) hs.length := by
    unfold cnt
    rw [← sumTo_const, ← sumTo_add]
    refine sumTo_congr fun i _ => ?_
    unfold givF
    split <;> omega
  rw [e, hc]
  unfold restF
  omega
def limF (hs : List HI) (c : Int) (i : Nat) : Int := (hAt hs i).par + 2 + givF hs c i
def adjF (hs : List HI) (es : List EI) (c : Int) (i : Nat) : Int := if (eAt es i).m = bx then limF hs c i else min (eAt es i).s (limF hs c i)
def ptsF (hs : List HI) (es : List EI) (c : Int) (i : Nat) : Int := if (eAt es i).m = bx then 0 else max 0 (2 + (hAt hs i).par - ((eAt es i).s - givF hs c i))
theorem adj_pts (hs : List HI) (es : List EI) (c : Int) (h : GoodH hs) : sumTo (adjF hs es c) hs.length + sumTo (ptsF hs es c) hs.length = sumTo (fun i => (hAt hs i).par) hs.length + 2 * hs.length + c := by
  rw [← sumTo_add, ← sumTo_const, ← sumTo_add]
  conv => rhs; rhs; rw [← giv_sum h c]
  rw [← sumTo_add]
  refine sumTo_congr fun i _ => ?_
  unfold adjF ptsF limF
  split <;> omega
theorem net_sum (hs : List HI) (es : List EI) (c : Int) (h : GoodH hs) : sumTo (fun i => (eAt es i).s - givF hs c i) hs.length = sumTo (fun i => (eAt es i).s) hs.length - c := by
  rw [sumTo_sub, giv_sum h]
theorem adj_le (hs : List HI) (es : List EI) (c : Int) (n : Nat) (hx : ∀ i, i < n → (eAt es i).m ≠ bx) : sumTo (adjF hs es c) n ≤ sumTo (fun i => (eAt es i).s) n :=
  sumTo_le fun i hi => by unfold adjF; rw [if_neg (hx i hi)]; omega
/-- a hole is worse than two above its net par -/
def worseF (hs : List HI) (es : List EI) (c : Int) : Nat → Bool
  | 0 => false
  | k + 1 => worseF hs es c k || decide ((hAt hs k).par + 2 < (eAt es k).s - givF hs c k)
theorem worse_iff (hs : List HI) (es : List EI) (c : Int) : ∀ n, worseF hs es c n = true ↔ ∃ i, i < n ∧ (hAt hs i).par + 2 < (eAt es i).s - givF hs c i
  | 0 => by simp [worseF]
  | n + 1 => by
    rw [worseF, Bool.or_eq_true, worse_iff hs es c n, decide_eq_true_iff]
    constructor
    · rintro (⟨i, h1, h2⟩ | h)
      · exact ⟨i, by omega, h2⟩
      · exact ⟨n, by omega, h⟩
    · rintro ⟨i, h1, h2⟩
      by_cases e : i = n
      · subst e; exact .inr h2
      · exact .inl ⟨i, by omega, h2⟩
theorem adj_eq_iff (hs : List HI) (es : List EI) (c : Int) (n : Nat) (hx : ∀ i, i < n → (eAt es i).m ≠ bx) : (sumTo (adjF hs es c) n = sumTo (fun i => (eAt es i).s) n) ↔ worseF hs es c n = false := by
  constructor
  · intro e
    rw [Bool.eq_false_iff]
    intro hw
    obtain ⟨i, hi, h⟩ := (worse_iff hs es c n).1 hw
    have := sumTo_eq_of_le (fun i hi => by unfold adjF; rw [if_neg (hx i hi)]; omega) e i hi
    unfold adjF limF at this
    rw [if_neg (hx i hi)] at this
    omega
  · intro hw
    refine sumTo_congr fun i hi => ?_
    have : ¬ ((hAt hs i).par + 2 < (eAt es i).s - givF hs c i) := fun h => by
      have := (worse_iff hs es c n).2 ⟨i, hi, h⟩
      rw [hw] at this; cases this
    unfold adjF limF
    rw [if_neg (hx i hi)]
    omega
theorem tmod_bd (a b : Int) (ha : -1000 ≤ a ∧ a ≤ 1000) (hb : 1 ≤ b ∧ b ≤ 1000) : -1000 ≤ a.tmod b ∧ a.tmod b ≤ 1000 := by
  have hn : 0 < b := by omega
  have hlt := Int.tmod_lt_of_pos a hn
  by_cases hc : 0 ≤ a
  · have := Int.tmod_nonneg b hc; omega
  · have := Int.tmod_lt_of_pos (-a) hn
    rw [Int.neg_tmod] at this; omega
theorem tdiv_bd (a b : Int) (ha : -1000 ≤ a ∧ a ≤ 1000) (hb : 1 ≤ b ∧ b ≤ 1000) : -2000 ≤ a.tdiv b ∧ a.tdiv b ≤ 2000 := by
  have e := Int.mul_tdiv_add_tmod a b
  have hm := tmod_bd a b ha hb
  generalize a.tdiv b = q at *
  constructor
  · apply Int.not_lt.1
    intro hq
    have : b * q ≤ b * (-2001) := Int.mul_le_mul_of_nonneg_left (by omega) (by omega)
    omega
  · apply Int.not_lt.1
    intro hq
    have : b * 2001 ≤ b * q := Int.mul_le_mul_of_nonneg_left (by omega) (by omega)
    omega
end Go.Adj
