/- Part 14 of the walks of the golf union's program: LR1. -/
import Derived.Test.YtkkkfjinflepmaaGreatDoorB13
set_option linter.unusedVariables false
set_option linter.unusedSimpArgs false
set_option linter.unusedSectionVars false
set_option linter.constructorNameAsVariable false
/- TopLinksRaised: the plain law: strokes given, states of a match. -/
namespace Go.Proofs.YtkkkfjinflepmaaGreatDoor
open Go.RowKit Go.Mem Go.Sheet Go.Adj
theorem rest_unique {n q r q' r' : Int} (h : q * n + r = q' * n + r') (h1 : 0 ≤ r ∧ r < n) (h2 : 0 ≤ r' ∧ r' < n) : q = q' ∧ r = r' := by
  have hq : q = q' := by
    rcases Int.lt_trichotomy q q' with hl | he | hl
    · have : q * n + n ≤ q' * n := by
        have := Int.mul_le_mul_of_nonneg_right (show q + 1 ≤ q' by omega) (show 0 ≤ n by omega)
        rw [Int.add_mul] at this; omega
      omega
    · exact he
    · have : q' * n + n ≤ q * n := by
        have := Int.mul_le_mul_of_nonneg_right (show q' + 1 ≤ q by omega) (show 0 ≤ n by omega)
        rw [Int.add_mul] at this; omega
      omega
  exact ⟨hq, by rw [hq] at h; omega⟩
theorem giv_more {hs : List HI} (h : 1 ≤ hs.length) (c r : Int) (i : Nat) : givF hs (c + r * hs.length) i = givF hs c i + r := by
  have h1 := rest_bd h c
  have h2 := rest_bd h (c + r * hs.length)
  have e1 : restF hs c = c - qF hs c * hs.length := rfl
  have e2 : restF hs (c + r * hs.length) = c + r * hs.length - qF hs (c + r * hs.length) * hs.length := rfl
  have := rest_unique (n := hs.length) (q := qF hs (c + r * hs.length)) (r := restF hs (c + r * hs.length)) (q' := qF hs c + r) (r' := restF hs c) (by rw [Int.add_mul]; omega) h2 h1
  unfold givF
  rw [this.1, this.2]
  split <;> omega
/-- who wins a hole -/
def cmpI (a b : Int) : Int := if a < b then -1 else if b < a then 1 else 0
def cmpN (a b : NI) : Int := if isO a.x then (if isO b.x then cmpI b.s a.s else 1) else if isO b.x then -1 else 0
def isD : MK → Bool
  | .d => true
  | _ => false
structure StI where
  up : Int
  «to» : Int
  ov : Bool
  deriving DecidableEq
def StI.cells (x : StI) : List Value := [.int .i64 x.up, .int .i64 x.to, .bool x.ov]
def StI.val (x : StI) : Value := .agg #[.int .i64 x.up, .int .i64 x.to, .bool x.ov]
instance : Inhabited StI := ⟨⟨0, 0, false⟩⟩
def overF (up tg : Int) : Bool := decide (tg < max up (-up)) || decide (tg = 0)
def deadF (A B : Nat → NI) (k : Nat) : Bool := isD (A k).x || isD (B k).x
def upF (A B : Nat → NI) : Nat → Int := sumTo (fun i => cmpN (A i) (B i))
def stF (A B : Nat → NI) (n k : Nat) : StI := ⟨upF A B (k + 1), (n : Int) - k - 1, overF (upF A B (k + 1)) ((n : Int) - k - 1)⟩
/-- how many holes a match has from hole k on, d holes being left -/
def mlF (A B : Nat → NI) (n : Nat) : Nat → Nat → Nat
  | 0, _ => 0
  | d + 1, k => if deadF A B k then 0 else if (stF A B n k).ov then 1 else mlF A B n d (k + 1) + 1
def matF (A B : Nat → NI) (n : Nat) : List StI := (List.range (mlF A B n n 0)).map (stF A B n)
theorem cmpI_bd (a b : Int) : -1 ≤ cmpI a b ∧ cmpI a b ≤ 1 := by unfold cmpI; split <;> (try split) <;> omega
theorem cmpN_bd (a b : NI) : -1 ≤ cmpN a b ∧ cmpN a b ≤ 1 := by
  have := cmpI_bd b.s a.s
  unfold cmpN
  split <;> split <;> omega
theorem upF_bd (A B : Nat → NI) (k : Nat) : -(k : Int) ≤ upF A B k ∧ upF A B k ≤ k := by
  have := sumTo_bd (f := fun i => cmpN (A i) (B i)) (a := -1) (b := 1) (n := k) (fun i _ => cmpN_bd _ _)
  unfold upF
  omega
theorem upF_congr {A B A' B' : Nat → NI} {n : Nat} (h : ∀ i, i < n → cmpN (A i) (B i) = cmpN (A' i) (B' i)) {k : Nat} (hk : k ≤ n) : upF A B k = upF A' B' k :=
  sumTo_congr fun i hi => h i (by omega)
theorem stF_congr {A B A' B' : Nat → NI} {n : Nat} (h : ∀ i, i < n → cmpN (A i) (B i) = cmpN (A' i) (B' i)) {k : Nat} (hk : k < n) : stF A B n k = stF A' B' n k := by
  unfold stF
  rw [upF_congr h (show k + 1 ≤ n by omega)]
theorem mlF_le (A B : Nat → NI) (n : Nat) : ∀ d k, mlF A B n d k ≤ d
  | 0, _ => Nat.le_refl _
  | d + 1, k => by
    have := mlF_le A B n d (k + 1)
    unfold mlF
    split
    · omega
    · split <;> omega
theorem mlF_congr {A B A' B' : Nat → NI} {n : Nat} (h : ∀ i, i < n → cmpN (A i) (B i) = cmpN (A' i) (B' i)) (hd : ∀ i, i < n → deadF A B i = deadF A' B' i) : ∀ d k, k + d = n → mlF A B n d k = mlF A' B' n d k
  | 0, _, _ => rfl
  | d + 1, k, hk => by
    rw [mlF, mlF, hd k (by omega), stF_congr h (by omega), mlF_congr h hd d (k + 1) (by omega)]
theorem matF_congr {A B A' B' : Nat → NI} {n : Nat} (h : ∀ i, i < n → cmpN (A i) (B i) = cmpN (A' i) (B' i)) (hd : ∀ i, i < n → deadF A B i = deadF A' B' i) : matF A B n = matF A' B' n := by
  unfold matF
  rw [mlF_congr h hd n 0 (by omega)]
  refine List.map_congr_left fun k hk => stF_congr h ?_
  have := mlF_le A' B' n n 0
  have := List.mem_range.1 hk
  omega
/-- an entry with so many more strokes, where it has strokes -/
def upE (x : EI) : EI := if x.m = be ∨ x.m = bc then ⟨x.s + 1, x.m⟩ else x
/-- nets that are shifted alike -/
def Shift (d : Int) (a b : NI) : Prop := a.x = b.x ∧ (a.x = .o → b.s = a.s + d)
theorem cmpN_shift {d : Int} {a a' b b' : NI} (h : Shift d a a') (h' : Shift d b b') : cmpN a b = cmpN a' b' := by
  obtain ⟨sa, ax⟩ := a
  obtain ⟨sa', ax'⟩ := a'
  obtain ⟨sb, bx⟩ := b
  obtain ⟨sb', bx'⟩ := b'
  obtain ⟨h1, h2⟩ := h
  obtain ⟨h3, h4⟩ := h'
  dsimp only at h1 h2 h3 h4
  subst h1 h3
  unfold cmpN cmpI
  cases ax <;> cases bx <;> simp only [isO] <;> simp_all
theorem dead_shift {d : Int} {a a' b b' : NI} (h : Shift d a a') (h' : Shift d b b') : (isD a.x || isD b.x) = (isD a'.x || isD b'.x) := by rw [h.1, h'.1]
theorem net_more {hs : List HI} (h : 1 ≤ hs.length) (es : List EI) (c r : Int) (i : Nat) : Shift (-r) (netF hs es c i) (netF hs es (c + r * hs.length) i) := by
  have hg := giv_more h c r i
  unfold netF
  rw [hg]
  split
  · exact ⟨rfl, fun h => by cases h⟩
  · split
    · exact ⟨rfl, fun h => by cases h⟩
    · exact ⟨rfl, fun _ => by show _ - _ = _ - _ + _; omega⟩
theorem net_up {hs : List HI} {es fs : List EI} (c : Int) {i : Nat} (hf : eAt fs i = upE (eAt es i)) (he : GoodE (eAt es i)) : Shift 1 (netF hs es c i) (netF hs fs c i) := by
  unfold netF
  rw [hf]
  generalize eAt es i = x at *
  obtain ⟨xs, xm⟩ := x
  rcases he with ⟨hm | hm, _⟩ | ⟨hm | hm, _⟩ <;> (change xm = _ at hm; subst hm)
  · have e : upE ⟨xs, be⟩ = ⟨xs + 1, be⟩ := if_pos (.inl rfl)
    rw [e, if_neg (show be ≠ bx by decide), if_neg (show be ≠ bd by decide), if_neg (show be ≠ bx by decide), if_neg (show be ≠ bd by decide)]
    exact ⟨rfl, fun _ => by show xs + 1 - _ = xs - _ + 1; omega⟩
  · have e : upE ⟨xs, bc⟩ = ⟨xs + 1, bc⟩ := if_pos (.inr rfl)
    rw [e, if_neg (show bc ≠ bx by decide), if_neg (show bc ≠ bd by decide), if_neg (show bc ≠ bx by decide), if_neg (show bc ≠ bd by decide)]
    exact ⟨rfl, fun _ => by show xs + 1 - _ = xs - _ + 1; omega⟩
  · have e : upE ⟨xs, bx⟩ = ⟨xs, bx⟩ := if_neg (by show ¬ (bx = be ∨ bx = bc); decide)
    rw [e, if_pos rfl]
    exact ⟨rfl, fun h => by cases h⟩
  · have e : upE ⟨xs, bd⟩ = ⟨xs, bd⟩ := if_neg (by show ¬ (bd = be ∨ bd = bc); decide)
    rw [e, if_neg (show bd ≠ bx by decide), if_pos rfl]
    exact ⟨rfl, fun h => by cases h⟩
theorem mat_more {hs : List HI} (h : 1 ≤ hs.length) (ea eb : List EI) (ca cb r : Int) (n : Nat) :
    matF (netF hs ea (ca + r * hs.length)) (netF hs eb (cb + r * hs.length)) n = matF (netF hs ea ca) (netF hs eb cb) n :=
  (matF_congr (fun i _ => cmpN_shift (net_more h ea ca r i) (net_more h eb cb r i)) (fun i _ => dead_shift (net_more h ea ca r i) (net_more h eb cb r i))).symm
theorem mat_up {hs : List HI} {ea eb fa fb : List EI} (ca cb : Int) {n : Nat} (ha : ∀ i, i < n → eAt fa i = upE (eAt ea i)) (hb : ∀ i, i < n → eAt fb i = upE (eAt eb i)) (ga : ∀ i, i < n → GoodE (eAt ea i)) (gb : ∀ i, i < n → GoodE (eAt eb i)) :
    matF (netF hs fa ca) (netF hs fb cb) n = matF (netF hs ea ca) (netF hs eb cb) n :=
  (matF_congr (fun i hi => cmpN_shift (net_up ca (ha i hi) (ga i hi)) (net_up cb (hb i hi) (gb i hi))) (fun i hi => dead_shift (net_up ca (ha i hi) (ga i hi)) (net_up cb (hb i hi) (gb i hi)))).symm
end Go.Proofs.YtkkkfjinflepmaaGreatDoor
