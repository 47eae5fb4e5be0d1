/- Part 1 of the walks of the golf union's program: Types, Name, S8, S8c, S8d, V8, S8e, S8f, S8h, S8t, S8i. -/
set_option linter.unusedVariables false
set_option linter.unusedSimpArgs false
set_option linter.unusedSectionVars false
set_option linter.constructorNameAsVariable false
/- Plain data of chapter 8, and small facts on lists. -/
namespace Go.Sheet
structure Slot where
  m : Int
  h : Int
  p : Int
  deriving DecidableEq
structure Wish where
  s : Int
  w : Int
  deriving DecidableEq
theorem drop_at {α : Type} {l : List α} {k : Nat} {x : α} (h : l[k]? = some x) : l.drop k = x :: l.drop (k+1) := by
  obtain ⟨hk, rfl⟩ := List.getElem?_eq_some_iff.1 h
  exact List.drop_eq_getElem_cons hk
theorem take_at {α : Type} {l : List α} {k : Nat} {x : α} (h : l[k]? = some x) : l.take (k+1) = l.take k ++ [x] := by
  obtain ⟨hk, rfl⟩ := List.getElem?_eq_some_iff.1 h
  exact List.take_succ_eq_append_getElem hk
/-- the first error that is not 0 -/
def fst : List Int → Int
  | [] => 0
  | e :: l => if e ≠ 0 then e else fst l
theorem fst_stop {l : List Int} {k : Nat} {x : Int} (h : l[k]? = some x) (h0 : x ≠ 0) (e : fst (l.drop k) = fst l) : x = fst l := by
  rw [← e, drop_at h, fst, if_pos h0]
theorem fst_go {l : List Int} {k : Nat} {x : Int} (h : l[k]? = some x) (h0 : ¬ x ≠ 0) (e : fst (l.drop k) = fst l) : fst (l.drop (k + 1)) = fst l := by
  rw [← e, drop_at h, fst, if_neg h0]
theorem fst_end {l : List Int} {n : Nat} (h : l.length ≤ n) (e : fst (l.drop n) = fst l) : fst l = 0 := by
  rw [← e, List.drop_of_length_le h, fst]
def whenE (b : Bool) (e : Int) : Int := if b then e else 0
def outE (n lo hi : Int) : Int := whenE (decide (n < lo) || decide (hi < n)) 3
/-- the first error that a check finds in a list -/
def eachF {α : Type} (f : Nat → α → Int) : Nat → List α → Int
  | _, [] => 0
  | k, x :: l => if f k x ≠ 0 then f k x else eachF f (k + 1) l
theorem eachF_stop {α : Type} {f : Nat → α → Int} {l : List α} {k : Nat} {x : α} (h : l[k]? = some x) (h0 : f k x ≠ 0) (e : eachF f k (l.drop k) = eachF f 0 l) : f k x = eachF f 0 l := by
  rw [← e, drop_at h, eachF, if_pos h0]
theorem eachF_go {α : Type} {f : Nat → α → Int} {l : List α} {k : Nat} {x : α} (h : l[k]? = some x) (h0 : ¬ f k x ≠ 0) (e : eachF f k (l.drop k) = eachF f 0 l) : eachF f (k + 1) (l.drop (k + 1)) = eachF f 0 l := by
  rw [← e, drop_at h, eachF, if_neg h0]
theorem eachF_end {α : Type} {f : Nat → α → Int} {l : List α} {n : Nat} (h : l.length ≤ n) (e : eachF f n (l.drop n) = eachF f 0 l) : eachF f 0 l = 0 := by
  rw [← e, List.drop_of_length_le h, eachF]
/-- the first place at which p holds, or -1 -/
def idxF {α : Type} (p : α → Bool) : Nat → List α → Int
  | _, [] => -1
  | k, x :: l => if p x then (k : Int) else idxF p (k + 1) l
theorem idxF_stop {α : Type} {p : α → Bool} {l : List α} {k : Nat} {x : α} (h : l[k]? = some x) (h0 : p x = true) (e : idxF p k (l.drop k) = idxF p 0 l) : (k : Int) = idxF p 0 l := by
  rw [← e, drop_at h, idxF, if_pos h0]
theorem idxF_go {α : Type} {p : α → Bool} {l : List α} {k : Nat} {x : α} (h : l[k]? = some x) (h0 : p x = false) (e : idxF p k (l.drop k) = idxF p 0 l) : idxF p (k + 1) (l.drop (k + 1)) = idxF p 0 l := by
  rw [← e, drop_at h, idxF, if_neg (by simp [h0])]
theorem idxF_end {α : Type} {p : α → Bool} {l : List α} {n : Nat} (h : l.length ≤ n) (e : idxF p n (l.drop n) = idxF p 0 l) : -1 = idxF p 0 l := by
  rw [← e, List.drop_of_length_le h, idxF]
theorem idxF_any {α : Type} (p : α → Bool) (l : List α) : ∀ k, decide (0 ≤ idxF p k l) = l.any p := by
  induction l with
  | nil => intro k; simp [idxF]
  | cons x l ih =>
    intro k
    cases h : p x
    · rw [idxF, if_neg (by simp [h]), ih]; simp [h]
    · rw [idxF, if_pos h]; simp [h]
theorem idxF_none {α : Type} (p : α → Bool) (l : List α) (h : l.find? p = none) : ∀ k, idxF p k l = -1 := by
  induction l with
  | nil => intro k; rfl
  | cons x l ih =>
    intro k
    rw [List.find?_cons] at h
    cases hp : p x <;> rw [hp] at h
    · rw [idxF, if_neg (by simp [hp])]; exact ih h _
    · cases h
theorem idxF_some {α : Type} (p : α → Bool) (l : List α) (y : α) (h : l.find? p = some y) : ∀ k : Nat, ∃ j : Nat, idxF p k l = ((k + j : Nat) : Int) ∧ l[j]? = some y := by
  induction l with
  | nil => cases h
  | cons x l ih =>
    intro k
    rw [List.find?_cons] at h
    cases hp : p x <;> rw [hp] at h
    · obtain ⟨j, h1, h2⟩ := ih h (k + 1)
      exact ⟨j + 1, by rw [idxF, if_neg (by simp [hp]), h1]; congr 1; omega, by simpa using h2⟩
    · cases h
      exact ⟨0, by rw [idxF, if_pos hp]; rfl, rfl⟩
theorem eachF_map {α β : Type} (g : α → β) (f : Nat → β → Int) (l : List α) : ∀ k, eachF f k (l.map g) = eachF (fun i x => f i (g x)) k l := by
  induction l with
  | nil => intro k; rfl
  | cons x l ih => intro k; simp only [List.map_cons, eachF, ih]
def sumF : List Int → Int
  | [] => 0
  | x :: l => x + sumF l
theorem sumF_append (a b : List Int) : sumF (a ++ b) = sumF a + sumF b := by
  induction a with
  | nil => simp [sumF]
  | cons x a ih => simp only [List.cons_append, sumF, ih]; omega
end Go.Sheet
/- Names, on bytes. -/
namespace Go.Sheet
def letterI (c : Int) : Bool := (decide (97 ≤ c) && decide (c ≤ 122)) || (decide (65 ≤ c) && decide (c ≤ 90))
def goodI (i : Nat) (c : Int) : Bool := letterI c || (!decide (i = 0) && (decide (c = 95) || (decide (48 ≤ c) && decide (c ≤ 57))))
def goodAt : Nat → List UInt8 → Bool
  | _, [] => true
  | i, b :: r => goodI i b.toNat && goodAt (i + 1) r
def nameB (s : ByteArray) : Bool := decide (0 < s.size) && decide (s.size ≤ 24) && goodAt 0 s.data.toList
theorem byte_at (s : ByteArray) (k : Nat) (h : k < s.size) : s.data.toList[k]? = some s[k] := by
  have : k < s.data.toList.length := by simpa using h
  rw [List.getElem?_eq_getElem this]; rfl
theorem good_stop (s : ByteArray) (k : Nat) (h : k < s.size) (h0 : goodI k (s[k].toNat : Int) = false) (e : goodAt k (s.data.toList.drop k) = goodAt 0 s.data.toList) : goodAt 0 s.data.toList = false := by
  rw [← e, drop_at (byte_at s k h), goodAt, h0]; rfl
theorem good_go (s : ByteArray) (k : Nat) (h : k < s.size) (h0 : goodI k (s[k].toNat : Int) = true) (e : goodAt k (s.data.toList.drop k) = goodAt 0 s.data.toList) : goodAt (k + 1) (s.data.toList.drop (k + 1)) = goodAt 0 s.data.toList := by
  rw [← e, drop_at (byte_at s k h), goodAt, h0]; rfl
theorem good_end (s : ByteArray) (k : Nat) (h : s.size ≤ k) (e : goodAt k (s.data.toList.drop k) = goodAt 0 s.data.toList) : goodAt 0 s.data.toList = true := by
  rw [← e, List.drop_of_length_le (by simpa using h)]; rfl
def nameL (l : List UInt8) : Bool := decide (0 < l.length) && decide (l.length ≤ 24) && goodAt 0 l
theorem nameB_eq (s : ByteArray) : nameB s = nameL s.data.toList := by
  have h : s.data.toList.length = s.size := by simp
  rw [nameB, nameL, h]
end Go.Sheet
/- What the functions of sheet compute, as plain functions. -/
namespace Go.Sheet
def slotE (l : List Slot) (i : Nat) (s : Slot) : Int :=
  if fst [outE s.m 0 10000, outE s.h 1 36, outE s.p 1 8] ≠ 0 then fst [outE s.m 0 10000, outE s.h 1 36, outE s.p 1 8]
  else if i = 0 then 0
  else match l[i - 1]? with
    | some b => whenE (decide (s.m < b.m) || (s.m == b.m && decide (s.h ≤ b.h))) 11
    | none => 0
def checkSlots (l : List Slot) : Int := if 24 < l.length then 5 else eachF (slotE l) 0 l
/-- a request as data -/
structure RQ where
  name : List UInt8
  g : Bool
  ws : List Wish
  deriving DecidableEq
def prevWish (ws : List Wish) (k : Nat) (x : Wish) : Bool := decide (0 < k) && (match ws[k - 1]? with | some y => decide (x.s ≤ y.s) | none => false)
def wishE (nl : Nat) (ws : List Wish) (k : Nat) (x : Wish) : Int :=
  fst [whenE (decide (x.s < 0) || decide ((nl : Int) ≤ x.s)) 10, whenE (prevWish ws k x) 11, outE x.w 1 10000]
def reqE (nl : Nat) (rs : List RQ) (i : Nat) (x : RQ) : Int :=
  if fst [whenE (!nameL x.name) 8, whenE ((rs.take i).any fun y => y.name == x.name) 9] ≠ 0 then fst [whenE (!nameL x.name) 8, whenE ((rs.take i).any fun y => y.name == x.name) 9]
  else eachF (wishE nl x.ws) 0 x.ws
def checkRequests (l : List Slot) (rs : List RQ) : Int :=
  if fst [checkSlots l, whenE (decide (24 < rs.length)) 5] ≠ 0 then fst [checkSlots l, whenE (decide (24 < rs.length)) 5]
  else eachF (reqE l.length rs) 0 rs
/-- an entry of an assignment: its error, and what it does to (value, places taken) -/
def caE (x : RQ) (s : Int) : Int := if s = -1 then whenE x.g 23 else if (x.ws.find? fun y => y.s == s).isSome then 0 else 10
def caUp (x : RQ) (s : Int) (st : Int × List Int) : Int × List Int :=
  match x.ws.find? fun y => y.s == s with
  | some y => (st.1 + y.w, st.2.set s.toNat (st.2.getD s.toNat 0 + 1))
  | none => st
def caAt (rs : List RQ) (i : Nat) (s : Int) : Int := match rs[i]? with | some x => caE x s | none => 0
def caSt (st : Int × List Int) : List RQ → List Int → Int × List Int
  | x :: rs, s :: a => caSt (if s = -1 then st else caUp x s st) rs a
  | _, _ => st
def overAt : List Int → List Slot → Bool
  | t :: ts, s :: l => decide (s.p < t) || overAt ts l
  | _, _ => false
theorem overAt_stop {ts : List Int} {l : List Slot} {k : Nat} {t : Int} {s : Slot} (h : ts[k]? = some t) (hs : l[k]? = some s) (h0 : s.p < t) (e : overAt (ts.drop k) (l.drop k) = overAt ts l) : overAt ts l = true := by
  rw [← e, drop_at h, drop_at hs, overAt]; simp [h0]
theorem overAt_go {ts : List Int} {l : List Slot} {k : Nat} {t : Int} {s : Slot} (h : ts[k]? = some t) (hs : l[k]? = some s) (h0 : ¬ s.p < t) (e : overAt (ts.drop k) (l.drop k) = overAt ts l) : overAt (ts.drop (k + 1)) (l.drop (k + 1)) = overAt ts l := by
  rw [← e, drop_at h, drop_at hs, overAt]; simp [h0]
theorem overAt_end {ts : List Int} {l : List Slot} {k : Nat} (h : ts.length ≤ k) (e : overAt (ts.drop k) (l.drop k) = overAt ts l) : overAt ts l = false := by
  rw [← e, List.drop_of_length_le h, overAt]
  intros; contradiction
def caE0 (l : List Slot) (rs : List RQ) (a : List Int) : Int := fst [checkRequests l rs, whenE ((a.length : Int) != rs.length) 2]
def caEnd (l : List Slot) (rs : List RQ) (a : List Int) : Int × List Int := caSt (0, List.replicate l.length 0) rs a
/-- the value of an assignment, and the error -/
def checkAssignment (l : List Slot) (rs : List RQ) (a : List Int) : Int × Int :=
  if caE0 l rs a ≠ 0 then (0, caE0 l rs a)
  else if eachF (caAt rs) 0 a ≠ 0 then (0, eachF (caAt rs) 0 a)
  else if overAt (caEnd l rs a).2 l then (0, 29) else ((caEnd l rs a).1, 0)
end Go.Sheet
/- Starts, Shotgun, Daylight as plain functions. -/
namespace Go.Sheet
def startsE1 (f l i p : Int) : Int := fst [outE f 0 10000, outE l 0 10000, outE i 1 10000, outE p 1 8]
def startsE2 (f l i : Int) : Int := fst [whenE (decide (l < f)) 11, whenE (decide (24 < (l - f).tdiv i + 1)) 5]
def startsN (f l i : Int) : Nat := ((l - f) / i).toNat + 1
def startsL (f i p : Int) (n : Nat) : List Slot := (List.range n).map fun (k : Nat) => ⟨f + k * i, 1, p⟩
def starts (f l i p : Int) : List Slot × Int :=
  if startsE1 f l i p ≠ 0 then ([], startsE1 f l i p)
  else if startsE2 f l i ≠ 0 then ([], startsE2 f l i)
  else (startsL f i p (startsN f l i), 0)
theorem startsL_succ (f i p : Int) (n : Nat) : startsL f i p (n + 1) = startsL f i p n ++ [⟨f + n * i, 1, p⟩] := by
  rw [startsL, startsL, List.range_succ, List.map_append]; rfl
theorem startsL_len (f i p : Int) (n : Nat) : (startsL f i p n).length = n := by simp [startsL]
theorem starts_le {f l i : Int} {k : Nat} (hi : 1 ≤ i) (h : f ≤ l) : f + k * i ≤ l ↔ k < startsN f l i := by
  rw [startsN]
  have h1 : (k : Int) ≤ (l - f) / i ↔ (k : Int) * i ≤ l - f := Int.le_ediv_iff_mul_le (by omega)
  have h0 : 0 ≤ (l - f) / i := Int.ediv_nonneg (by omega) (by omega)
  omega
def dayOk (a b r : Int) (s : Slot) : Bool := decide (a ≤ s.m) && decide (s.m + r ≤ b)
/-- the numbers, from k on, of the slots that are kept -/
def dayL (a b r : Int) : Nat → List Slot → List Int
  | _, [] => []
  | k, s :: l => if dayOk a b r s then (k : Int) :: dayL a b r (k + 1) l else dayL a b r (k + 1) l
def dayE (l : List Slot) (a b r : Int) : Int := fst [checkSlots l, outE a 0 10000, outE b 0 10000, outE r 0 10000]
def daylight (l : List Slot) (a b r : Int) : List Int × Int := if dayE l a b r ≠ 0 then ([], dayE l a b r) else (dayL a b r 0 l, 0)
theorem dayL_go {a b r : Int} {l : List Slot} {k : Nat} {s : Slot} {out : List Int} (h : l[k]? = some s) (h0 : dayOk a b r s = true) (e : out ++ dayL a b r k (l.drop k) = dayL a b r 0 l) :
    (out ++ [(k : Int)]) ++ dayL a b r (k + 1) (l.drop (k + 1)) = dayL a b r 0 l := by
  rw [← e, drop_at h, dayL, if_pos h0]; simp
theorem dayL_skip {a b r : Int} {l : List Slot} {k : Nat} {s : Slot} {out : List Int} (h : l[k]? = some s) (h0 : dayOk a b r s = false) (e : out ++ dayL a b r k (l.drop k) = dayL a b r 0 l) :
    out ++ dayL a b r (k + 1) (l.drop (k + 1)) = dayL a b r 0 l := by
  rw [← e, drop_at h, dayL, if_neg (by simp [h0])]
theorem dayL_end {a b r : Int} {l : List Slot} {k : Nat} {out : List Int} (h : l.length ≤ k) (e : out ++ dayL a b r k (l.drop k) = dayL a b r 0 l) : out = dayL a b r 0 l := by
  rw [← e, List.drop_of_length_le h, dayL]; simp
end Go.Sheet
/- The pace of play as plain functions. -/
namespace Go.Sheet
/-- a pace as plain data -/
structure PC where
  rd : List Int
  mi : List (List Int)
  ho : List Int
  deriving DecidableEq
def paceE1 (p : PC) : Int := fst [whenE (decide (p.rd.length = 0)) 12, whenE (decide (24 < p.rd.length)) 5, eachF (fun _ n => outE n 0 10000) 0 p.rd, whenE (decide (p.mi.length ≠ p.rd.length)) 2]
def paceE2 (p : PC) : Int := fst [whenE (decide (p.ho.length = 0)) 12, whenE (decide (36 < p.ho.length)) 5, eachF (fun _ n => outE n 1 8) 0 p.ho]
def paceR (nh : Nat) (row : List Int) : Int := if row.length ≠ nh then 2 else eachF (fun _ n => outE n 1 10000) 0 row
def checkPace (p : PC) : Int := if paceE1 p ≠ 0 then paceE1 p else if paceE2 p ≠ 0 then paceE2 p else eachF (fun _ r => paceR p.ho.length r) 0 p.mi
def at2 (B : List (List Int)) (g h : Nat) : Int := (B.getD g []).getD h 0
def beginF (g : Nat) (B E : List (List Int)) (hd : Int) (h : Nat) (at_ : Int) : Int :=
  let b := if 0 < g then max at_ (at2 B (g - 1) h) else at_
  if hd ≤ (g : Int) then max b (at2 E (g - hd.toNat) h) else b
def endF (g : Nat) (E : List (List Int)) (h : Nat) (b m : Int) : Int := if 0 < g then max (b + m) (at2 E (g - 1) h) else b + m
/-- a group on the holes from h on: it comes, begins, ends -/
def playH (g : Nat) (B E : List (List Int)) (mi : List Int) : Nat → List Int → Int → List (Int × Int × Int)
  | _, [], _ => []
  | h, hd :: ho, at_ => (at_, beginF g B E hd h at_, endF g E h (beginF g B E hd h at_) (mi.getD h 0)) :: playH g B E mi (h + 1) ho (endF g E h (beginF g B E hd h at_) (mi.getD h 0))
structure Tab where
  c : List (List Int)
  b : List (List Int)
  e : List (List Int)
def playG (mi : List (List Int)) (ho : List Int) : Nat → List Int → Tab → Tab
  | _, [], T => T
  | g, rd :: rds, T => let row := playH g T.b T.e (mi.getD g []) 0 ho rd
    playG mi ho (g + 1) rds ⟨T.c ++ [row.map (·.1)], T.b ++ [row.map (·.2.1)], T.e ++ [row.map (·.2.2)]⟩
def played (p : PC) : Tab := playG p.mi p.ho 0 p.rd ⟨[], [], []⟩
def delayL (p : PC) : Nat → List (List Int) → List Int
  | _, [] => []
  | g, e :: l => (e.getD (e.length - 1) 0 - p.rd.getD g 0 - sumF (p.mi.getD g [])) :: delayL p (g + 1) l
def waitH (C B : List (List Int)) (n h : Nat) : Int := sumF ((List.range n).map fun g => at2 B g h - at2 C g h)
def waits (p : PC) : List Int := (List.range p.ho.length).map (waitH (played p).c (played p).b p.rd.length)
end Go.Sheet
/- What it means that slots and requests have no error. -/
namespace Go.Sheet
theorem eachF_zero {α : Type} (f : Nat → α → Int) (l : List α) : ∀ k, eachF f k l = 0 ↔ ∀ i x, l[i]? = some x → f (k + i) x = 0 := by
  induction l with
  | nil => intro k; simp [eachF]
  | cons y l ih =>
    intro k
    rw [eachF]
    by_cases h : f k y ≠ 0
    · rw [if_pos h]
      exact ⟨fun h' => absurd h' h, fun h' => h' 0 y rfl⟩
    · rw [if_neg h, ih]
      constructor
      · intro h' i x hx
        cases i with
        | zero => simp at hx; subst hx; simpa using h
        | succ i => have := h' i x (by simpa using hx); rwa [show k + 1 + i = k + (i + 1) by omega] at this
      · intro h' i x hx
        have := h' (i + 1) x (by simpa using hx)
        rwa [show k + (i + 1) = k + 1 + i by omega] at this
theorem fst_zero (l : List Int) : fst l = 0 ↔ ∀ x ∈ l, x = 0 := by
  induction l with
  | nil => simp [fst]
  | cons y l ih =>
    rw [fst]
    by_cases h : y ≠ 0
    · rw [if_pos h]; simp [h]
    · rw [if_neg h, ih]; simp at h; simp [h]
theorem whenE_zero (b : Bool) (e : Int) (he : e ≠ 0) : whenE b e = 0 ↔ b = false := by
  cases b <;> simp [whenE, he]
theorem outE_zero (n lo hi : Int) : outE n lo hi = 0 ↔ lo ≤ n ∧ n ≤ hi := by
  rw [outE, whenE_zero _ _ (by decide)]; simp
theorem wishE_zero (nl : Nat) (ws : List Wish) (k : Nat) (x : Wish) : wishE nl ws k x = 0 ↔ (0 ≤ x.s ∧ x.s < nl) ∧ prevWish ws k x = false ∧ 1 ≤ x.w ∧ x.w ≤ 10000 := by
  rw [wishE, fst_zero]
  simp only [List.mem_cons, List.not_mem_nil, or_false, forall_eq_or_imp, forall_eq, whenE_zero _ _ (show (10 : Int) ≠ 0 by decide), whenE_zero _ _ (show (11 : Int) ≠ 0 by decide), outE_zero]
  simp
structure Okay (l : List Slot) (rs : List RQ) : Prop where
  slots : checkSlots l = 0
  nl : l.length ≤ 24
  nr : rs.length ≤ 24
  slot : ∀ s ∈ l, 0 ≤ s.m ∧ s.m ≤ 10000 ∧ 1 ≤ s.h ∧ s.h ≤ 36 ∧ 1 ≤ s.p ∧ s.p ≤ 8
  name : ∀ x ∈ rs, nameL x.name = true
  wish : ∀ x ∈ rs, ∀ y ∈ x.ws, (0 ≤ y.s ∧ y.s < l.length) ∧ 1 ≤ y.w ∧ y.w ≤ 10000
  asc : ∀ x ∈ rs, ∀ k y z, x.ws[k]? = some y → x.ws[k + 1]? = some z → y.s < z.s
theorem checkSlots_slot {l : List Slot} (h : checkSlots l = 0) : l.length ≤ 24 ∧ ∀ s ∈ l, 0 ≤ s.m ∧ s.m ≤ 10000 ∧ 1 ≤ s.h ∧ s.h ≤ 36 ∧ 1 ≤ s.p ∧ s.p ≤ 8 := by
  rw [checkSlots] at h
  by_cases h1 : 24 < l.length
  · rw [if_pos h1] at h; exact absurd h (by decide)
  · rw [if_neg h1, eachF_zero] at h
    refine ⟨by omega, fun s hs => ?_⟩
    obtain ⟨i, hi⟩ := List.getElem?_of_mem hs
    have h2 := h i s hi
    rw [slotE] at h2
    by_cases h3 : fst [outE s.m 0 10000, outE s.h 1 36, outE s.p 1 8] ≠ 0
    · rw [if_pos h3] at h2; exact absurd h2 h3
    · simp only [ne_eq, Classical.not_not] at h3
      rw [fst_zero] at h3
      simp only [List.mem_cons, List.not_mem_nil, or_false, forall_eq_or_imp, forall_eq, outE_zero] at h3
      omega
theorem okay_of {l : List Slot} {rs : List RQ} (h : checkRequests l rs = 0) : Okay l rs := by
  rw [checkRequests] at h
  by_cases h1 : fst [checkSlots l, whenE (decide (24 < rs.length)) 5] ≠ 0
  · rw [if_pos h1] at h; exact absurd h h1
  · rw [if_neg h1, eachF_zero] at h
    simp only [ne_eq, Classical.not_not] at h1
    rw [fst_zero] at h1
    simp only [List.mem_cons, List.not_mem_nil, or_false, forall_eq_or_imp, forall_eq, whenE_zero _ _ (show (5 : Int) ≠ 0 by decide)] at h1
    have hr : ∀ x ∈ rs, nameL x.name = true ∧ eachF (wishE l.length x.ws) 0 x.ws = 0 := by
      intro x hx
      obtain ⟨i, hi⟩ := List.getElem?_of_mem hx
      have h2 := h i x hi
      rw [reqE] at h2
      split at h2
      · rename_i h3; exact absurd h2 h3
      · rename_i h3
        simp only [ne_eq, Classical.not_not] at h3
        rw [fst_zero] at h3
        simp only [List.mem_cons, List.not_mem_nil, or_false, forall_eq_or_imp, forall_eq, whenE_zero _ _ (show (8 : Int) ≠ 0 by decide)] at h3
        exact ⟨by simpa using h3.1, h2⟩
    have hs := checkSlots_slot h1.1
    refine ⟨h1.1, hs.1, by simpa using h1.2, hs.2, fun x hx => (hr x hx).1, fun x hx y hy => ?_, fun x hx k y z hy hz => ?_⟩
    · obtain ⟨i, hi⟩ := List.getElem?_of_mem hy
      have h3 := (eachF_zero _ _ 0).1 (hr x hx).2 i y hi
      rw [wishE_zero] at h3
      exact ⟨h3.1, h3.2.2⟩
    · have h3 := (eachF_zero _ _ 0).1 (hr x hx).2 (k + 1) z hz
      rw [wishE_zero] at h3
      have h4 := h3.2.1
      rw [prevWish, show 0 + (k + 1) - 1 = k by omega, hy] at h4
      simpa using h4
theorem find_mem {ws : List Wish} {s : Int} {y : Wish} (h : ws.find? (fun y => y.s == s) = some y) : y ∈ ws ∧ y.s = s :=
  ⟨List.mem_of_find?_eq_some h, by simpa using List.find?_some h⟩
/-- the state behind k + 1 entries -/
theorem caSt_snoc (rs : List RQ) : ∀ (a : List Int) (k : Nat) (st : Int × List Int) (x : RQ) (s : Int), rs[k]? = some x → a[k]? = some s →
    caSt st (rs.take (k + 1)) (a.take (k + 1)) = if s = -1 then caSt st (rs.take k) (a.take k) else caUp x s (caSt st (rs.take k) (a.take k)) := by
  induction rs with
  | nil => intro a k st x s h; simp at h
  | cons r rs ih =>
    intro a k st x s h hs
    cases a with
    | nil => simp at hs
    | cons t a =>
      cases k with
      | zero => simp at h hs; subst h hs; simp [caSt]
      | succ k =>
        simp only [List.getElem?_cons_succ] at h hs
        simp only [List.take_succ_cons, caSt]
        exact ih a k _ x s h hs
end Go.Sheet
/- The pace of play: what a valid pace is, and bounds. -/
namespace Go.Sheet
structure POk (p : PC) : Prop where
  rd0 : 0 < p.rd.length
  rd24 : p.rd.length ≤ 24
  rdb : ∀ x ∈ p.rd, 0 ≤ x ∧ x ≤ 10000
  mil : p.mi.length = p.rd.length
  ho0 : 0 < p.ho.length
  ho36 : p.ho.length ≤ 36
  hob : ∀ x ∈ p.ho, 1 ≤ x ∧ x ≤ 8
  mib : ∀ r ∈ p.mi, r.length = p.ho.length ∧ ∀ x ∈ r, 1 ≤ x ∧ x ≤ 10000
theorem eachF_out {lo hi : Int} {l : List Int} (h : eachF (fun _ n => outE n lo hi) 0 l = 0) : ∀ x ∈ l, lo ≤ x ∧ x ≤ hi := by
  intro x hx
  obtain ⟨i, hi, rfl⟩ := List.mem_iff_getElem.1 hx
  exact (outE_zero _ _ _).1 ((eachF_zero _ _ _).1 h i _ (List.getElem?_eq_getElem hi))
theorem pok_of {p : PC} (h : checkPace p = 0) : POk p := by
  unfold checkPace at h
  by_cases h1 : paceE1 p = 0
  · by_cases h2 : paceE2 p = 0
    · simp only [h1, h2, ne_eq, not_true_eq_false, if_false] at h
      have e1 := (fst_zero _).1 h1
      have e2 := (fst_zero _).1 h2
      simp only [List.mem_cons, List.not_mem_nil, or_false, forall_eq_or_imp, forall_eq] at e1 e2
      obtain ⟨a1, a2, a3, a4⟩ := e1
      obtain ⟨b1, b2, b3⟩ := e2
      rw [whenE_zero _ _ (by decide)] at a1 a2 a4 b1 b2
      simp only [decide_eq_false_iff_not] at a1 a2 a4 b1 b2
      refine ⟨by omega, by omega, eachF_out a3, by omega, by omega, by omega, eachF_out b3, fun r hr => ?_⟩
      obtain ⟨i, hi, rfl⟩ := List.mem_iff_getElem.1 hr
      have hz := (eachF_zero _ _ _).1 h i _ (List.getElem?_eq_getElem hi)
      simp only [paceR] at hz
      split at hz
      · cases hz
      · rename_i hl; exact ⟨by omega, eachF_out hz⟩
    · simp [h1, h2] at h
  · simp [h1] at h
/-- the rows made so far: as many as groups, each as long as the holes, entries between 0 and m -/
structure TOk (n : Nat) (B : List (List Int)) (m : Int) : Prop where
  len : ∀ r ∈ B, r.length = n
  bd : ∀ r ∈ B, ∀ x ∈ r, 0 ≤ x ∧ x ≤ m
theorem TOk.nil (n : Nat) (m : Int) : TOk n [] m := ⟨(fun _ h => by cases h), (fun _ h => by cases h)⟩
theorem TOk.mono {n : Nat} {B : List (List Int)} {m m' : Int} (h : TOk n B m) (hm : m ≤ m') : TOk n B m' :=
  ⟨h.len, fun r hr x hx => ⟨(h.bd r hr x hx).1, Int.le_trans (h.bd r hr x hx).2 hm⟩⟩
theorem TOk.snoc {n : Nat} {B : List (List Int)} {m : Int} {r : List Int} (h : TOk n B m) (hl : r.length = n) (hr : ∀ x ∈ r, 0 ≤ x ∧ x ≤ m) : TOk n (B ++ [r]) m := by
  refine ⟨fun x hx => ?_, fun x hx => ?_⟩
  · rcases List.mem_append.1 hx with hx | hx
    · exact h.len x hx
    · obtain rfl := List.mem_singleton.1 hx; exact hl
  · rcases List.mem_append.1 hx with hx | hx
    · exact h.bd x hx
    · obtain rfl := List.mem_singleton.1 hx; exact hr
theorem TOk.at_ {n : Nat} {B : List (List Int)} {m : Int} (h : TOk n B m) (hm : 0 ≤ m) (g i : Nat) : 0 ≤ at2 B g i ∧ at2 B g i ≤ m := by
  unfold at2
  cases hb : B[g]? with
  | none => simp [hb, hm]
  | some r =>
    simp only [List.getD_eq_getElem?_getD, hb, Option.getD_some]
    cases hx : r[i]? with
    | none => simp [hm]
    | some x => exact h.bd r (List.mem_of_getElem? hb) x (List.mem_of_getElem? hx)
theorem beginF_bd {n g i : Nat} {B E : List (List Int)} {hd a m : Int} (hB : TOk n B m) (hE : TOk n E m) (h0 : 0 ≤ m) (ha : 0 ≤ a ∧ a ≤ m) : 0 ≤ beginF g B E hd i a ∧ beginF g B E hd i a ≤ m := by
  have h1 := hB.at_ h0 (g - 1) i
  have h2 := hE.at_ h0 (g - hd.toNat) i
  unfold beginF
  simp only
  split <;> split <;> omega
theorem endF_bd {n g i : Nat} {E : List (List Int)} {b x m : Int} (hE : TOk n E m) (h0 : 0 ≤ m) (hb : 0 ≤ b ∧ b ≤ m) (hx : 0 ≤ x ∧ x ≤ 10000) : 0 ≤ endF g E i b x ∧ endF g E i b x ≤ m + 10000 := by
  have h2 := hE.at_ h0 (g - 1) i
  unfold endF
  split <;> omega
/-- a row of play: its length and bounds -/
theorem playH_len (g : Nat) (B E : List (List Int)) (mi : List Int) : ∀ (ho : List Int) (h : Nat) (a : Int), (playH g B E mi h ho a).length = ho.length
  | [], _, _ => rfl
  | _ :: ho, h, a => by rw [playH, List.length_cons, playH_len g B E mi ho, List.length_cons]
theorem playH_bd {n g : Nat} {B E : List (List Int)} {mi : List Int} {m : Int} (hB : TOk n B m) (hE : TOk n E m) (h0 : 0 ≤ m) (hmi : ∀ x ∈ mi, 0 ≤ x ∧ x ≤ 10000) :
    ∀ (ho : List Int) (h : Nat) (a : Int), 0 ≤ a → a ≤ m + 10000 * h → ∀ y ∈ playH g B E mi h ho a,
      (0 ≤ y.1 ∧ y.1 ≤ m + 10000 * (h + ho.length)) ∧ (0 ≤ y.2.1 ∧ y.2.1 ≤ m + 10000 * (h + ho.length)) ∧ (0 ≤ y.2.2 ∧ y.2.2 ≤ m + 10000 * (h + ho.length))
  | [], _, _, _, _ => fun y hy => by cases hy
  | hd :: ho, h, a, ha0, ha => fun y hy => by
    have hx : 0 ≤ mi.getD h 0 ∧ mi.getD h 0 ≤ 10000 := by
      rw [List.getD_eq_getElem?_getD]
      cases hm : mi[h]? with
      | none => simp
      | some x => exact hmi x (List.mem_of_getElem? hm)
    have hb := beginF_bd (g := g) (i := h) (hd := hd) (hB.mono (m' := m + 10000 * h) (by omega)) (hE.mono (m' := m + 10000 * h) (by omega)) (by omega) ⟨ha0, ha⟩
    have he := endF_bd (g := g) (i := h) (hE.mono (m' := m + 10000 * h) (by omega)) (by omega) hb hx
    rw [playH] at hy
    rcases List.mem_cons.1 hy with rfl | hy
    · simp only [List.length_cons, Int.natCast_add, Int.natCast_one] at *
      refine ⟨⟨ha0, by omega⟩, ⟨hb.1, by omega⟩, ⟨he.1, by omega⟩⟩
    · have := playH_bd hB hE h0 hmi ho (h + 1) _ he.1 (by rw [Int.natCast_add]; omega) y hy
      simp only [List.length_cons, Int.natCast_add] at *
      omega
end Go.Sheet
/- Matrices of max-plus as plain functions. -/
namespace Go.Sheet
abbrev IMat := List (List Int)
def NONE : Int := -1000000000
def noth : Int := -1125899906842624
def entryE (n : Int) : Int := if n = NONE then 0 else outE n (-999999999) 999999999
def matRowE (n : Nat) (row : List Int) : Int := fst [whenE (decide (row.length ≠ n)) 2, eachF (fun _ x => entryE x) 0 row]
def matE (m : IMat) : Int := if 24 < m.length then 5 else eachF (fun _ row => matRowE m.length row) 0 m
def innerX (n : Int) : Int := if n = NONE then noth else n
def innerL (l : List Int) : List Int := l.map innerX
def outerBad (n : Int) : Bool := !(n == noth) && (decide (n < -999999999) || decide (999999999 < n))
def outerX (n : Int) : Int := if n = noth then NONE else n
def outerL (l : List Int) : List Int × Int := if l.any outerBad then ([], 4) else (l.map outerX, 0)
def insideM (m : IMat) : IMat := m.map innerL
def prodX (a b : Int) : Int := if a = noth ∨ b = noth then noth else a + b
def timesF : Int → List Int → List Int → Int
  | acc, r :: rs, x :: xs => timesF (max acc (prodX r x)) rs xs
  | acc, _, _ => acc
def timesR (r x : List Int) : Int := timesF noth r x
def col (b : IMat) (k : Nat) : List Int := b.map fun r => r.getD k 0
def matMul (a b : IMat) : IMat := a.map fun r => (List.range b.length).map fun k => timesR r (col b k)
def resultM (m : IMat) : IMat × Int := if m.any (fun r => r.any outerBad) then ([], 4) else (m.map fun r => r.map outerX, 0)
def product (a b : IMat) : IMat × Int :=
  if fst [matE a, matE b, whenE (decide (a.length ≠ b.length)) 2] ≠ 0 then ([], fst [matE a, matE b, whenE (decide (a.length ≠ b.length)) 2])
  else resultM (matMul (insideM a) (insideM b))
def unitM (n : Nat) : IMat := (List.range n).map fun i => (List.replicate n noth).set i 0
def powM (own : IMat) : Nat → IMat
  | 0 => unitM own.length
  | n + 1 => matMul (powM own n) own
def power (m : IMat) (n : Int) : IMat × Int :=
  if fst [matE m, outE n 0 64] ≠ 0 then ([], fst [matE m, outE n 0 64]) else resultM (powM (insideM m) n.toNat)
def applyE (m : IMat) (x : List Int) : Int := fst [matE m, whenE (decide (x.length ≠ m.length)) 2, eachF (fun _ n => entryE n) 0 x]
def applyM (m : IMat) (x : List Int) : List Int × Int :=
  if applyE m x ≠ 0 then ([], applyE m x) else outerL ((insideM m).map fun r => timesR r (innerL x))
def holesE (l : List Int) : Int := fst [whenE (decide (l.length = 0)) 12, whenE (decide (24 < l.length)) 5, eachF (fun _ n => outE n 1 10000) 0 l]
def holesRow (l : List Int) (i : Nat) : List Int := (List.range l.length).map fun k => if k ≤ i then sumF ((l.take (i + 1)).drop k) else NONE
def holes (l : List Int) : IMat × Int := if holesE l ≠ 0 then ([], holesE l) else ((List.range l.length).map (holesRow l), 0)
/-- a matrix of rows of n numbers, each nothing or between -b and b -/
def XB (b x : Int) : Prop := x = noth ∨ -b ≤ x ∧ x ≤ b
structure XOk (n : Nat) (b : Int) (m : IMat) : Prop where
  len : ∀ r ∈ m, r.length = n
  bd : ∀ r ∈ m, ∀ x ∈ r, XB b x
theorem prodX_bd {a b x y : Int} (hx : XB a x) (hy : XB b y) : XB (a + b) (prodX x y) := by
  unfold prodX XB at *
  split
  · exact .inl rfl
  · rename_i h
    rcases hx with hx | hx
    · exact absurd (.inl hx) h
    · rcases hy with hy | hy
      · exact absurd (.inr hy) h
      · right; omega
theorem max_bd {b x y : Int} (hb : b ≤ 1125899906842624) (hx : XB b x) (hy : XB b y) : XB b (max x y) := by
  unfold XB noth at *
  rcases hx with hx | hx <;> rcases hy with hy | hy
  · left; omega
  · right; omega
  · right; omega
  · right; omega
theorem timesF_bd {a b : Int} (hab : a + b ≤ 1125899906842624) : ∀ (r x : List Int) (acc : Int), XB (a + b) acc → (∀ y ∈ r, XB a y) → (∀ y ∈ x, XB b y) → XB (a + b) (timesF acc r x)
  | [], _, _, h, _, _ => by rw [timesF]; exact h; intros; contradiction
  | _ :: _, [], _, h, _, _ => by rw [timesF]; exact h; intros; contradiction
  | r :: rs, x :: xs, acc, h, hr, hx => by
    rw [timesF]
    exact timesF_bd hab rs xs _ (max_bd hab h (prodX_bd (hr _ (List.mem_cons_self ..)) (hx _ (List.mem_cons_self ..)))) (fun y hy => hr y (List.mem_cons_of_mem _ hy)) (fun y hy => hx y (List.mem_cons_of_mem _ hy))
theorem innerX_bd {x : Int} (h : entryE x = 0) : XB 999999999 (innerX x) := by
  unfold entryE at h
  unfold innerX XB
  split
  · exact .inl rfl
  · rename_i hn
    rw [if_neg hn] at h
    have := (outE_zero _ _ _).1 h
    exact .inr this
end Go.Sheet
/- Mean of a matrix as plain functions. -/
namespace Go.Sheet
def stepD (m : IMat) (x : List Int) : List Int := m.map fun r => timesR r x
def dRow (m : IMat) : Nat → List Int
  | 0 => List.replicate m.length 0
  | k + 1 => stepD m (dRow m k)
/-- the first k rows of walks -/
def walksT (m : IMat) (k : Nat) : IMat := (List.range k).map (dRow m)
theorem walksT_succ (m : IMat) (k : Nat) : walksT m (k + 1) = walksT m k ++ [dRow m k] := by
  rw [walksT, walksT, List.range_succ, List.map_append]; rfl
theorem walksT_len (m : IMat) (k : Nat) : (walksT m k).length = k := by simp [walksT]
theorem walksT_at {m : IMat} {k i : Nat} (h : i < k) : (walksT m k)[i]? = some (dRow m i) := by
  rw [walksT, List.getElem?_map, List.getElem?_range h]; rfl
theorem dRow_len (m : IMat) : ∀ k, (dRow m k).length = m.length
  | 0 => by simp [dRow]
  | k + 1 => by simp [dRow, stepD]
/-- a square matrix of n rows, entries nothing or between -b and b -/
structure SqOk (n : Nat) (b : Int) (m : IMat) : Prop where
  n_eq : m.length = n
  len : ∀ r ∈ m, r.length = n
  bd : ∀ r ∈ m, ∀ x ∈ r, XB b x
theorem dRow_bd {n : Nat} {b : Int} {m : IMat} (h : SqOk n b m) (hb : 0 ≤ b) (hb2 : b ≤ 30000000000) : ∀ k : Nat, k ≤ 30 → ∀ x ∈ dRow m k, XB (b * k) x
  | 0, _, x, hx => by
    have := (List.mem_replicate.1 hx).2
    subst this
    exact .inr (by omega)
  | k + 1, hk, x, hx => by
    obtain ⟨r, hr, rfl⟩ := List.mem_map.1 hx
    have ih := dRow_bd h hb hb2 k (by omega)
    have hbk : b * k ≤ 30000000000 * 30 := Int.mul_le_mul hb2 (by omega) (by omega) (by omega)
    have hbk0 : 0 ≤ b * k := Int.mul_nonneg hb (by omega)
    have e : b * ((k + 1 : Nat) : Int) = b + b * k := by rw [Int.natCast_add, Int.mul_add]; omega
    rw [e]
    exact timesF_bd (a := b) (b := b * k) (by omega) r _ _ (.inl rfl) (h.bd r hr) ih
/-- the least of the means behind one row, as a fraction -/
def karpIn (d : IMat) (n v : Nat) : List Nat → Int × Int → Int × Int
  | [], s => s
  | k :: ks, s => karpIn d n v ks (if at2 d k v ≠ noth ∧ (at2 d n v - at2 d k v) * s.2 < s.1 * ((n : Int) - k) then (at2 d n v - at2 d k v, (n : Int) - k) else s)
def karpV (d : IMat) (n v : Nat) : Int × Int := karpIn d n v (List.range' 1 (n - 1)) (at2 d n v - at2 d 0 v, n)
structure Best3 where
  num : Int
  den : Int
  found : Bool
  deriving DecidableEq
def karpUp (b : Best3) (pq : Int × Int) : Best3 := if b.found = false ∨ b.num * pq.2 < pq.1 * b.den then ⟨pq.1, pq.2, true⟩ else b
def karpF (d : IMat) (n : Nat) : List Nat → Best3 → Best3
  | [], b => b
  | v :: vs, b => karpF d n vs (if at2 d n v = noth then b else karpUp b (karpV d n v))
def greatestF (m : IMat) : Best3 := karpF (walksT m (m.length + 1)) m.length (List.range m.length) ⟨0, 1, false⟩
end Go.Sheet
/- A tight cycle (a search in depth) as plain functions. -/
namespace Go.Sheet
structure TS where
  st : List Int
  way : List Int
  out : List Int
def tLoop (rec : Nat → TS → TS × Bool) (top : List Int) (i : Nat) : Nat → List Int → TS → TS × Bool
  | _, [], s => (⟨s.st.set i 2, s.way.dropLast, s.out⟩, false)
  | k, x :: row, s =>
    if x = noth ∨ top.getD k 0 + x ≠ top.getD i 0 then tLoop rec top i (k + 1) row s
    else if s.st.getD k 0 = 1 then (⟨s.st, s.way, s.way.drop (idxF (fun y => (k : Int) == y) 0 s.way).toNat⟩, true)
    else if s.st.getD k 0 = 0 then (if (rec k s).2 then rec k s else tLoop rec top i (k + 1) row (rec k s).1)
    else tLoop rec top i (k + 1) row s
def tWalk (m : IMat) (top : List Int) : Nat → Nat → TS → TS × Bool
  | 0, _, s => (s, false)
  | f + 1, i, s => tLoop (tWalk m top f) top i 0 (m.getD i []) ⟨s.st.set i 1, s.way ++ [(i : Int)], s.out⟩
def tOuter (m : IMat) (top : List Int) : List Nat → TS → TS
  | [], s => s
  | i :: is, s => if s.st.getD i 0 = 0 then (if (tWalk m top 24 i s).2 then (tWalk m top 24 i s).1 else tOuter m top is (tWalk m top 24 i s).1) else tOuter m top is s
def tight0 : TS := ⟨List.replicate 24 0, [], []⟩
def tightF (m : IMat) (top : List Int) : List Int := (tOuter m top (List.range m.length) tight0).out.reverse
/-- how many rows nobody came to -/
def zeros (l : List Int) : Nat := (l.filter (· == 0)).length
theorem zeros_set {l : List Int} : ∀ {i : Nat} {x : Int}, i < l.length → l.getD i 0 = 0 → x ≠ 0 → zeros (l.set i x) + 1 = zeros l := by
  induction l with
  | nil => intro i x h; simp at h
  | cons y l ih =>
    intro i x h h0 hx
    cases i with
    | zero =>
      simp at h0
      subst h0
      simp [zeros, hx]
    | succ i =>
      have := ih (i := i) (x := x) (by simpa using h) (by simpa using h0) hx
      unfold zeros at this ⊢
      rw [List.set_cons_succ, List.filter_cons, List.filter_cons]
      split <;> (try simp only [List.length_cons]) <;> omega
theorem zeros_set_le {l : List Int} : ∀ {i : Nat} {x : Int}, x ≠ 0 → zeros (l.set i x) ≤ zeros l := by
  induction l with
  | nil => intro i x h; simp
  | cons y l ih =>
    intro i x hx
    cases i with
    | zero =>
      simp only [zeros, List.set_cons_zero, List.filter_cons]
      rw [if_neg (by simpa using hx)]
      split <;> simp
    | succ i =>
      have := ih (i := i) hx
      unfold zeros at this ⊢
      rw [List.set_cons_succ, List.filter_cons, List.filter_cons]
      split <;> (try simp only [List.length_cons]) <;> omega
/-- what holds between the steps -/
structure TInv (s : TS) : Prop where
  len : s.st.length = 24
  one : ∀ k : Nat, s.st.getD k 0 = 1 → (k : Int) ∈ s.way
  cnt : s.way.length + zeros s.st ≤ 24
theorem getD_setT {l : List Int} {i j : Nat} {x : Int} : (l.set i x).getD j 0 = if i = j ∧ i < l.length then x else l.getD j 0 := by
  rw [List.getD_eq_getElem?_getD, List.getD_eq_getElem?_getD, List.getElem?_set]
  by_cases e : i = j
  · subst e
    by_cases h : i < l.length
    · simp [h]
    · simp [h]
  · simp [e]
theorem TInv.push {s : TS} {i : Nat} (h : TInv s) (hi : i < 24) (h0 : s.st.getD i 0 = 0) : TInv ⟨s.st.set i 1, s.way ++ [(i : Int)], s.out⟩ := by
  refine ⟨by simp [h.len], fun k hk => ?_, ?_⟩
  · rw [getD_setT] at hk
    by_cases e : i = k
    · subst e; simp
    · rw [if_neg (fun h => e h.1)] at hk
      exact List.mem_append_left _ (h.one k hk)
  · have := zeros_set (l := s.st) (x := 1) (by rw [h.len]; exact hi) h0 (by decide)
    have := h.cnt
    simp only [List.length_append, List.length_cons, List.length_nil]
    omega
theorem TInv.pop {s : TS} {i : Nat} {w : List Int} (h : TInv s) (hi : i < 24) (hw : s.way = w ++ [(i : Int)]) : TInv ⟨s.st.set i 2, s.way.dropLast, s.out⟩ := by
  refine ⟨by simp [h.len], fun k hk => ?_, ?_⟩
  · rw [getD_setT] at hk
    by_cases e : i = k
    · subst e
      rw [if_pos ⟨rfl, by rw [h.len]; exact hi⟩] at hk
      cases hk
    · rw [if_neg (fun h => e h.1)] at hk
      have := h.one k hk
      rw [hw] at this ⊢
      simp only [List.dropLast_concat, List.mem_append, List.mem_singleton] at this ⊢
      rcases this with h | h
      · exact h
      · omega
  · have h1 := zeros_set_le (l := s.st) (i := i) (x := 2) (by decide)
    have h2 := h.cnt
    simp only [List.length_dropLast]
    omega
/-- what a search that finds nothing leaves -/
def Leaves (s s' : TS) : Prop := TInv s' ∧ s'.way = s.way ∧ zeros s'.st ≤ zeros s.st ∧ ∀ k : Nat, s.st.getD k 0 ≠ 0 → s'.st.getD k 0 ≠ 0
theorem tLoop_inv {rec : Nat → TS → TS × Bool} {top : List Int} {i f : Nat} {w : List Int} (hi : i < 24)
    (hrec : ∀ (k : Nat) (s : TS), k < 24 → TInv s → zeros s.st ≤ f → s.st.getD k 0 = 0 → (rec k s).2 = false → Leaves s (rec k s).1) :
    ∀ (row : List Int) (k : Nat) (s : TS), k + row.length ≤ 24 → TInv s → zeros s.st ≤ f → s.way = w ++ [(i : Int)] → (tLoop rec top i k row s).2 = false →
      TInv (tLoop rec top i k row s).1 ∧ (tLoop rec top i k row s).1.way = w ∧ zeros (tLoop rec top i k row s).1.st ≤ zeros s.st ∧ ∀ k' : Nat, s.st.getD k' 0 ≠ 0 → (tLoop rec top i k row s).1.st.getD k' 0 ≠ 0
  | [], k, s, _, h, hz, hw, hf => by
    simp only [tLoop]
    refine ⟨h.pop hi hw, by rw [hw, List.dropLast_concat], zeros_set_le (by decide), fun k' hk' => ?_⟩
    rw [getD_setT]
    split
    · decide
    · exact hk'
  | x :: row, k, s, hk, h, hz, hw, hf => by
    simp only [List.length_cons] at hk
    rw [tLoop] at hf ⊢
    split
    · rename_i hc
      rw [if_pos hc] at hf
      exact tLoop_inv hi hrec row (k + 1) s (by omega) h hz hw hf
    · rename_i hc
      rw [if_neg hc] at hf
      split
      · rename_i h1
        rw [if_pos h1] at hf
        cases hf
      · rename_i h1
        rw [if_neg h1] at hf
        split
        · rename_i h0
          rw [if_pos h0] at hf
          split
          · rename_i hr
            rw [if_pos hr] at hf
            rw [hr] at hf; cases hf
          · rename_i hr
            rw [if_neg hr] at hf
            obtain ⟨g1, g2, g3, g4⟩ := hrec k s (by omega) h hz h0 (by simpa using hr)
            obtain ⟨e1, e2, e3, e4⟩ := tLoop_inv hi hrec row (k + 1) _ (by omega) g1 (by omega) (g2.trans hw) hf
            exact ⟨e1, e2, by omega, fun k' hk' => e4 k' (g4 k' hk')⟩
        · rename_i h0
          rw [if_neg h0] at hf
          exact tLoop_inv hi hrec row (k + 1) s (by omega) h hz hw hf
theorem tWalk_inv {m : IMat} {top : List Int} (hm : ∀ r ∈ m, r.length ≤ 24) : ∀ (f i : Nat) (s : TS), i < 24 → TInv s → zeros s.st ≤ f → s.st.getD i 0 = 0 → (tWalk m top f i s).2 = false → Leaves s (tWalk m top f i s).1
  | 0, i, s, hi, h, hz, h0, _ => by
    have := zeros_set (l := s.st) (x := 1) (by rw [h.len]; exact hi) h0 (by decide)
    omega
  | f + 1, i, s, hi, h, hz, h0, hf => by
    have hz1 := zeros_set (l := s.st) (x := 1) (by rw [h.len]; exact hi) h0 (by decide)
    have hl : (m.getD i []).length ≤ 24 := by
      rw [List.getD_eq_getElem?_getD]
      cases hr : m[i]? with
      | none => simp
      | some r => exact hm r (List.mem_of_getElem? hr)
    rw [tWalk] at hf ⊢
    obtain ⟨e1, e2, e3, e4⟩ := tLoop_inv (w := s.way) hi (fun k s hk => tWalk_inv hm f k s hk) (m.getD i []) 0 _ (by omega) (h.push hi h0) (by show zeros (s.st.set i 1) ≤ f; omega) rfl hf
    refine ⟨e1, e2, ?_, fun k hk => e4 k ?_⟩
    · have : zeros (s.st.set i 1) ≤ zeros s.st := by omega
      exact Nat.le_trans e3 this
    · show (s.st.set i 1).getD k 0 ≠ 0
      rw [getD_setT]
      split
      · decide
      · exact hk
theorem tight0_inv : TInv tight0 := by
  refine ⟨rfl, fun k hk => ?_, by decide⟩
  rw [tight0, List.getD_eq_getElem?_getD, List.getElem?_replicate] at hk
  by_cases h : k < 24
  · rw [if_pos h] at hk; cases hk
  · rw [if_neg h] at hk; cases hk
end Go.Sheet
/- Mean of a matrix: less the mean, and the greatest sums of walks. -/
namespace Go.Sheet
def lessX (b : Best3) (x : Int) : Int := if x = noth then x else x * b.den - b.num
def lessM (m : IMat) (b : Best3) : IMat := (insideM m).map fun r => r.map (lessX b)
def topSweep : Nat → IMat → List Int → List Int
  | _, [], t => t
  | i, r :: rs, t => topSweep (i + 1) rs (t.set i (max (t.getD i 0) (timesR r t)))
def topIt (L : IMat) : Nat → List Int → List Int
  | 0, t => t
  | k + 1, t => topIt L k (topSweep 0 L t)
def topF (L : IMat) (n : Nat) : List Int := topIt L n (List.replicate n 0)
/-- sums of walks behind c changes -/
structure TopB (n c : Nat) (t : List Int) : Prop where
  len : t.length = n
  bd : ∀ x ∈ t, 0 ≤ x ∧ x ≤ 100000000000 * (c : Int)
theorem TopB.zero (n : Nat) : TopB n 0 (List.replicate n 0) := ⟨by simp, fun x hx => by rw [(List.mem_replicate.1 hx).2]; omega⟩
theorem TopB.mono {n c c' : Nat} {t : List Int} (h : TopB n c t) (hc : c ≤ c') : TopB n c' t := ⟨h.len, fun x hx => ⟨(h.bd x hx).1, by have := (h.bd x hx).2; omega⟩⟩
theorem times_le {n c : Nat} {t r : List Int} (h : TopB n c t) (hc : c ≤ 1000) (hr : ∀ x ∈ r, XB 100000000000 x) : timesR r t ≤ 100000000000 * ((c + 1 : Nat) : Int) := by
  have := timesF_bd (a := 100000000000) (b := 100000000000 * (c : Int)) (by omega) r t noth (.inl rfl) hr (fun y hy => .inr ⟨by have := h.bd y hy; omega, (h.bd y hy).2⟩)
  unfold timesR
  rcases this with h | h
  · rw [h]; unfold noth; omega
  · omega
theorem TopB.step {n c i : Nat} {t r : List Int} (h : TopB n c t) (hc : c ≤ 1000) (hr : ∀ x ∈ r, XB 100000000000 x) : TopB n (c + 1) (t.set i (max (t.getD i 0) (timesR r t))) := by
  refine ⟨by simp [h.len], fun x hx => ?_⟩
  rcases List.mem_or_eq_of_mem_set hx with hx | rfl
  · have := h.bd x hx; omega
  · have h1 := times_le h hc hr
    have h2 : 0 ≤ t.getD i 0 ∧ t.getD i 0 ≤ 100000000000 * (c : Int) := by
      rw [List.getD_eq_getElem?_getD]
      cases hi : t[i]? with
      | none => exact ⟨Int.le_refl _, by simp only [Option.getD_none]; omega⟩
      | some y => exact h.bd y (List.mem_of_getElem? hi)
    omega
theorem lessX_bd {b : Best3} {x : Int} (h : XB 999999999 x) (hn : -50000000000 ≤ b.num ∧ b.num ≤ 50000000000) (hd : 1 ≤ b.den ∧ b.den ≤ 24) : XB 100000000000 (lessX b x) := by
  unfold lessX
  split
  · rename_i h0; exact .inl h0
  · rename_i h0
    rcases h with h | h
    · exact absurd h h0
    · right
      obtain ⟨h1, h2⟩ := h
      rcases Int.le_total 0 x with hx | hx
      · have e1 := Int.mul_le_mul h2 hd.2 (by omega) (by omega)
        have e2 := Int.mul_nonneg hx (show 0 ≤ b.den by omega)
        omega
      · have e1 := Int.mul_le_mul (show -x ≤ 999999999 by omega) hd.2 (by omega) (by omega)
        have e2 := Int.mul_nonneg (show 0 ≤ -x by omega) (show 0 ≤ b.den by omega)
        rw [Int.neg_mul] at e1 e2
        omega
/-- the best mean has moderate parts -/
def B3Ok (b : Best3) : Prop := (-50000000000 ≤ b.num ∧ b.num ≤ 50000000000) ∧ 1 ≤ b.den ∧ b.den ≤ 24
theorem lessM_sq {n : Nat} {m : IMat} {b : Best3} (h : SqOk n 999999999 (insideM m)) (hb : B3Ok b) : SqOk n 100000000000 (lessM m b) := by
  refine ⟨by rw [lessM, List.length_map]; exact h.n_eq, fun r hr => ?_, fun r hr x hx => ?_⟩
  · obtain ⟨s, hs, rfl⟩ := List.mem_map.1 hr
    rw [List.length_map]; exact h.len s hs
  · obtain ⟨s, hs, rfl⟩ := List.mem_map.1 hr
    obtain ⟨y, hy, rfl⟩ := List.mem_map.1 hx
    exact lessX_bd (h.bd s hs y hy) hb.1 hb.2
theorem insideM_sq {m : IMat} (h1 : m.length ≤ 24) (h : ∀ r ∈ insideM m, r.length = m.length ∧ ∀ x ∈ r, XB 999999999 x) : SqOk m.length 999999999 (insideM m) :=
  ⟨by simp [insideM], fun r hr => (h r hr).1, fun r hr => (h r hr).2⟩
/-- bounds of the parts of the best mean -/
theorem karpIn_bd {d : IMat} {n v : Nat} {s : Int × Int} (hd : ∀ i, i < n + 1 → XB 23999999976 (at2 d i v)) (h0 : at2 d n v ≠ noth) (hn : n ≤ 24) (hs : (-50000000000 ≤ s.1 ∧ s.1 ≤ 50000000000) ∧ 1 ≤ s.2 ∧ s.2 ≤ 24) :
    ∀ ks : List Nat, (∀ k ∈ ks, k < n) → (-50000000000 ≤ (karpIn d n v ks s).1 ∧ (karpIn d n v ks s).1 ≤ 50000000000) ∧ 1 ≤ (karpIn d n v ks s).2 ∧ (karpIn d n v ks s).2 ≤ 24 := by
  intro ks
  induction ks generalizing s with
  | nil => intro _; exact hs
  | cons k ks ih =>
    intro hk
    have hkn := hk k (List.mem_cons_self ..)
    rw [karpIn]
    refine ih ?_ fun j hj => hk j (List.mem_cons_of_mem _ hj)
    split
    · rename_i hc
      have h1 := hd n (by omega)
      have h2 := hd k (by omega)
      rcases h1 with h1 | h1
      · exact absurd h1 h0
      · rcases h2 with h2 | h2
        · exact absurd h2 hc.1
        · dsimp only; omega
    · exact hs
theorem karpF_bd {d : IMat} {n : Nat} (hd : ∀ i v, i < n + 1 → v < n → XB 23999999976 (at2 d i v)) (hz : ∀ v, v < n → at2 d 0 v = 0) (hn : n ≤ 24) :
    ∀ (vs : List Nat) (b : Best3), (∀ v ∈ vs, v < n) → B3Ok b → B3Ok (karpF d n vs b)
  | [], b, _, h => h
  | v :: vs, b, hv, h => by
    have hvn := hv v (List.mem_cons_self ..)
    rw [karpF]
    refine karpF_bd hd hz hn vs _ (fun j hj => hv j (List.mem_cons_of_mem _ hj)) ?_
    split
    · exact h
    · rename_i h0
      have hb := hd n v (by omega) hvn
      have hk := karpIn_bd (s := (at2 d n v - at2 d 0 v, n)) (fun i hi => hd i v hi hvn) h0 hn (by
        rw [hz v hvn]
        rcases hb with hb | hb
        · exact absurd hb h0
        · dsimp only; omega) (List.range' 1 (n - 1)) (fun k hk => by have := List.mem_range'_1.1 hk; omega)
      rw [karpUp]
      split
      · exact hk
      · exact h
theorem greatestF_bd {n : Nat} {m : IMat} (h : SqOk n 999999999 m) (hn : n ≤ 24) : B3Ok (greatestF m) := by
  rw [greatestF, h.n_eq]
  refine karpF_bd (fun i v hi hv => ?_) (fun v hv => ?_) hn _ _ (fun v hv => List.mem_range.1 hv) ⟨by dsimp only; omega, by dsimp only; omega, by dsimp only; omega⟩
  · have hl : v < (dRow m i).length := by rw [dRow_len, h.n_eq]; exact hv
    have h1 : at2 (walksT m (n + 1)) i v = (dRow m i).getD v 0 := by
      rw [at2, show (walksT m (n + 1)).getD i [] = dRow m i by rw [List.getD_eq_getElem?_getD, walksT_at hi, Option.getD_some]]
    rw [h1, List.getD_eq_getElem?_getD, List.getElem?_eq_getElem hl, Option.getD_some]
    have := dRow_bd h (by omega) (by omega) i (by omega) _ (List.getElem_mem hl)
    rcases this with h | h
    · exact .inl h
    · right
      have : 999999999 * (i : Int) ≤ 23999999976 := by omega
      omega
  · rw [at2, show (walksT m (n + 1)).getD 0 [] = dRow m 0 by rw [List.getD_eq_getElem?_getD, walksT_at (by omega), Option.getD_some], dRow, List.getD_eq_getElem?_getD, List.getElem?_replicate, h.n_eq, if_pos hv]; rfl
/-- a row whose first j numbers are less the mean -/
def lessP (b : Best3) (r : List Int) (j : Nat) : List Int := (r.take j).map (lessX b) ++ r.drop j
theorem lessP_len (b : Best3) (r : List Int) (j : Nat) : (lessP b r j).length = r.length := by
  simp only [lessP, List.length_append, List.length_map, List.length_take, List.length_drop]; omega
theorem lessP_at {b : Best3} {r : List Int} {j : Nat} {x : Int} (h : r[j]? = some x) : (lessP b r j)[j]? = some x := by
  have hj := (List.getElem?_eq_some_iff.1 h).1
  have hl : ((r.take j).map (lessX b)).length = j := by rw [List.length_map, List.length_take]; omega
  rw [lessP, List.getElem?_append_right (by omega), hl, Nat.sub_self, List.getElem?_drop, Nat.add_zero, h]
theorem lessP_set {b : Best3} {r : List Int} {j : Nat} {x : Int} (h : r[j]? = some x) : (lessP b r j).set j (lessX b x) = lessP b r (j + 1) := by
  have hj := (List.getElem?_eq_some_iff.1 h).1
  have e : r.drop j = x :: r.drop (j + 1) := drop_at h
  have hl : ((r.take j).map (lessX b)).length = j := by rw [List.length_map, List.length_take]; omega
  rw [lessP, List.set_append_right _ _ (by omega), hl, Nat.sub_self, e, List.set_cons_zero, lessP, take_at h, List.map_append, List.append_assoc]; rfl
theorem lessP_keep {b : Best3} {r : List Int} {j : Nat} (h : r[j]? = some noth) : lessP b r (j + 1) = lessP b r j := by
  have h1 := lessP_set (b := b) h
  rw [show lessX b noth = noth by simp [lessX]] at h1
  have h2 := lessP_at (b := b) h
  rw [← h1]
  refine List.ext_getElem? fun i => ?_
  by_cases e : j = i
  · subst e; rw [List.getElem?_set_self (List.getElem?_eq_some_iff.1 h2).1, h2]
  · rw [List.getElem?_set_ne e]
theorem lessP_end (b : Best3) (r : List Int) : lessP b r r.length = r.map (lessX b) := by simp [lessP]
theorem lessP_zero (b : Best3) (r : List Int) : lessP b r 0 = r := by simp [lessP]
/-- the matrix whose first k rows are less the mean -/
def lessT (b : Best3) (I : IMat) (k : Nat) : IMat := (I.take k).map (fun r => r.map (lessX b)) ++ I.drop k
theorem lessT_len (b : Best3) (I : IMat) (k : Nat) : (lessT b I k).length = I.length := by
  simp only [lessT, List.length_append, List.length_map, List.length_take, List.length_drop]; omega
theorem lessT_at {b : Best3} {I : IMat} {k : Nat} {r : List Int} (h : I[k]? = some r) : (lessT b I k)[k]? = some r := by
  have hj := (List.getElem?_eq_some_iff.1 h).1
  have hl : ((I.take k).map (fun r => r.map (lessX b))).length = k := by rw [List.length_map, List.length_take]; omega
  rw [lessT, List.getElem?_append_right (by omega), hl, Nat.sub_self, List.getElem?_drop, Nat.add_zero, h]
theorem lessT_set {b : Best3} {I : IMat} {k : Nat} {r : List Int} (h : I[k]? = some r) : (lessT b I k).set k (r.map (lessX b)) = lessT b I (k + 1) := by
  have hj := (List.getElem?_eq_some_iff.1 h).1
  have e : I.drop k = r :: I.drop (k + 1) := drop_at h
  have hl : ((I.take k).map (fun r => r.map (lessX b))).length = k := by rw [List.length_map, List.length_take]; omega
  rw [lessT, List.set_append_right _ _ (by omega), hl, Nat.sub_self, e, List.set_cons_zero, lessT, take_at h, List.map_append, List.append_assoc]; rfl
theorem lessT_zero (b : Best3) (I : IMat) : lessT b I 0 = I := by simp [lessT]
theorem lessT_end (b : Best3) (m : IMat) : lessT b (insideM m) (insideM m).length = lessM m b := by simp [lessT, lessM]
end Go.Sheet
