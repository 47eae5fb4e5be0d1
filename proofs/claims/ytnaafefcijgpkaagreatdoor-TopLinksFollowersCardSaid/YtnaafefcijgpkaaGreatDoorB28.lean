/- Part 28 of the walks of the golf union's program: UF31, UF30, UF29, UF35, UF36, UF38. -/
import Derived.Test.YtnaafefcijgpkaaGreatDoorB12
import Derived.Test.YtnaafefcijgpkaaGreatDoorB22
import Derived.Test.YtnaafefcijgpkaaGreatDoorB20
import Derived.Test.YtnaafefcijgpkaaGreatDoorB27
set_option linter.unusedVariables false
set_option linter.unusedSimpArgs false
set_option linter.unusedSectionVars false
set_option linter.constructorNameAsVariable false
/- Holes that are not shown make a board no greater: plain. -/
namespace Go.Adj
open Go.RowKit Go.Mem
theorem sumTo_leU {f g : Nat → Int} : ∀ n, (∀ i, i < n → f i ≤ g i) → sumTo f n ≤ sumTo g n
  | 0, _ => Int.le_refl _
  | n + 1, h => by
    have h1 := sumTo_leU n fun i hi => h i (by omega)
    have h2 := h n (by omega)
    show sumTo f n + f n ≤ sumTo g n + g n
    omega
theorem thr_le {es es' : List EI} {n : Nat} (h : ∀ i, i < n → (eAt es' i).m = bd ∨ eAt es' i = eAt es i) : sumTo (thrE es') n ≤ sumTo (thrE es) n :=
  sumTo_leU n fun i hi => by
    unfold thrE
    rcases h i hi with e | e
    · rw [if_pos e]; split <;> omega
    · rw [e]; exact Int.le_refl _
end Go.Adj
/- A follower that lacks no message is whole: plain. -/
namespace Go.Adj
open Go.RowKit Go.Mem
theorem sorted_lt {Y : Nat → MsI} {n : Nat} (ho : ∀ i j, i < j → j < n → ltM (Y i) (Y j)) {i j : Nat} (hi : i < n) (_hj : j < n) (h : ltM (Y i) (Y j)) : i < j := by
  rcases Nat.lt_trichotomy i j with g | g | g
  · exact g
  · subst g; exact absurd h (ltM_irr _)
  · exact absurd (ltM_trans h (ho j i g hi)) (ltM_irr _)
theorem cmp_of {Y : Nat → MsI} {n : Nat} (ho : ∀ i j, i < j → j < n → ltM (Y i) (Y j)) (h1 : ∀ i, i < n → 1 ≤ (Y i).num)
    (hc : ∀ i, i < n → 2 ≤ (Y i).num → ∃ j, j < n ∧ (Y j).dev = (Y i).dev ∧ (Y j).num = (Y i).num - 1) : Cmp Y n := by
  intro i hi
  by_cases h0 : i = 0
  · subst h0
    rw [if_pos rfl]
    rcases Int.lt_or_le (Y 0).num 2 with h | h
    · have := h1 0 hi; omega
    · obtain ⟨j, hj, e1, e2⟩ := hc 0 hi h
      have := sorted_lt ho hj hi (.inr ⟨e1, by omega⟩)
      omega
  · rw [if_neg h0]
    have hp : i - 1 < n := by omega
    have hlt := ho (i - 1) i (by omega) hi
    split
    · rename_i hd
      have hn : (Y (i - 1)).num < (Y i).num := by
        rcases hlt with h | ⟨_, h⟩
        · rw [hd, bl_irr] at h; cases h
        · exact h
      rcases Int.lt_or_le ((Y (i - 1)).num + 1) (Y i).num with h | h
      · have := h1 (i - 1) hp
        obtain ⟨j, hj, e1, e2⟩ := hc i hi (by omega)
        have a1 := sorted_lt ho hj hi (.inr ⟨e1, by omega⟩)
        have a2 := sorted_lt ho hp hj (.inr ⟨by rw [hd, e1], by omega⟩)
        omega
      · omega
    · rename_i hd
      rcases Int.lt_or_le (Y i).num 2 with h | h
      · have := h1 i hi; omega
      · obtain ⟨j, hj, e1, e2⟩ := hc i hi h
        have a1 := sorted_lt ho hj hi (.inr ⟨e1, by omega⟩)
        have hne : j ≠ i - 1 := fun e => hd (by rw [← e]; exact e1)
        have a2 := ho j (i - 1) (by omega) hp
        have b1 : bl (Y (i - 1)).dev (Y i).dev = true := by
          rcases hlt with h | ⟨h, _⟩
          · exact h
          · exact absurd h hd
        rcases a2 with h | ⟨h, _⟩
        · have := bl_trans h b1
          rw [e1, bl_irr] at this
          cases this
        · exact absurd (h.symm.trans e1) hd
end Go.Adj
/- The messages of a union's marks: plain. -/
namespace Go.Adj
open Go.RowKit Go.Mem
def isMsg (x : MkI) : Bool := decide (x.by_ ≠ x.pl)
def cntN (ks : List MkI) (d : ByteArray) : Nat → Nat
  | 0 => 0
  | k + 1 => cntN ks d k + if isMsg (mkAt ks k) = true ∧ (mkAt ks k).by_ = d then 1 else 0
def msOf (x : MkI) (n : Nat) : MsI := ⟨x.by_, n, x.pl, x.h, x.s, x.m⟩
def msgN (ks : List MkI) : Nat → List MsI
  | 0 => []
  | k + 1 => if isMsg (mkAt ks k) = true then msgN ks k ++ [msOf (mkAt ks k) (cntN ks (mkAt ks k).by_ (k + 1))] else msgN ks k
theorem cntN_mono (ks : List MkI) (d : ByteArray) (k : Nat) : cntN ks d k ≤ cntN ks d (k + 1) := Nat.le_add_right _ _
theorem cntN_succ {ks : List MkI} {k : Nat} (h : isMsg (mkAt ks k) = true) : cntN ks (mkAt ks k).by_ (k + 1) = cntN ks (mkAt ks k).by_ k + 1 := by
  rw [cntN, if_pos ⟨h, rfl⟩]
theorem msg_num (ks : List MkI) : ∀ k, ∀ x ∈ msgN ks k, 1 ≤ x.num ∧ x.num ≤ cntN ks x.dev k
  | 0, x, h => by cases h
  | k + 1, x, h => by
    rw [msgN] at h
    split at h
    · rename_i hm
      rcases List.mem_append.1 h with h | h
      · obtain ⟨h1, h2⟩ := msg_num ks k x h
        exact ⟨h1, Int.le_trans h2 (by exact_mod_cast cntN_mono ks x.dev k)⟩
      · obtain rfl := List.mem_singleton.1 h
        refine ⟨?_, Int.le_refl _⟩
        show (1 : Int) ≤ (cntN ks (mkAt ks k).by_ (k + 1) : Nat)
        rw [cntN_succ hm]; omega
    · obtain ⟨h1, h2⟩ := msg_num ks k x h
      exact ⟨h1, Int.le_trans h2 (by exact_mod_cast cntN_mono ks x.dev k)⟩
/-- no two messages of one device have one number -/
theorem msg_apart (ks : List MkI) : ∀ k, (msgN ks k).Pairwise fun x y => ¬ (x.dev = y.dev ∧ x.num = y.num)
  | 0 => List.Pairwise.nil
  | k + 1 => by
    rw [msgN]
    split
    · rename_i hm
      refine List.pairwise_append.2 ⟨msg_apart ks k, List.pairwise_singleton _ _, fun x hx y hy => ?_⟩
      obtain rfl := List.mem_singleton.1 hy
      rintro ⟨e1, e2⟩
      have h2 := (msg_num ks k x hx).2
      have e1' : x.dev = (mkAt ks k).by_ := e1
      have e2' : x.num = ((cntN ks (mkAt ks k).by_ (k + 1) : Nat) : Int) := e2
      rw [e1', e2', cntN_succ hm] at h2
      omega
    · exact msg_apart ks k
/-- every number up to a device's count is some message's -/
theorem msg_all (ks : List MkI) (d : ByteArray) : ∀ k j, 1 ≤ j → j ≤ cntN ks d k → ∃ x ∈ msgN ks k, x.dev = d ∧ x.num = (j : Int)
  | 0, j, h1, h2 => by rw [cntN] at h2; omega
  | k + 1, j, h1, h2 => by
    by_cases hj : j ≤ cntN ks d k
    · obtain ⟨x, hx, e⟩ := msg_all ks d k j h1 hj
      refine ⟨x, ?_, e⟩
      rw [msgN]
      split
      · exact List.mem_append_left _ hx
      · exact hx
    · rw [cntN] at h2
      split at h2
      · rename_i hm
        obtain ⟨hm1, hm2⟩ := hm
        refine ⟨msOf (mkAt ks k) (cntN ks (mkAt ks k).by_ (k + 1)), ?_, hm2, ?_⟩
        · rw [msgN, if_pos hm1]
          exact List.mem_append_right _ (List.mem_singleton.2 rfl)
        · show ((cntN ks (mkAt ks k).by_ (k + 1) : Nat) : Int) = (j : Int)
          rw [cntN_succ hm1, hm2]
          omega
      · omega
end Go.Adj
/- The messages of a union without an error, and what a follower holds: plain. -/
namespace Go.Adj
open Go.RowKit Go.Mem
instance : Inhabited MsI := ⟨⟨be, 0, be, 0, 0, be⟩⟩
def msF (M : List MsI) (i : Nat) : MsI := M.getD i default
theorem msF_at {M : List MsI} {i : Nat} (h : i < M.length) : msF M i ∈ M := by
  unfold msF
  rw [List.getD_eq_getElem?_getD, List.getElem?_eq_getElem h]
  exact List.getElem_mem _
theorem msF_of {M : List MsI} {x : MsI} (h : x ∈ M) : ∃ i, i < M.length ∧ msF M i = x := by
  obtain ⟨i, hi, e⟩ := List.getElem_of_mem h
  refine ⟨i, hi, ?_⟩
  unfold msF
  rw [List.getD_eq_getElem?_getD, List.getElem?_eq_getElem hi, e]
  rfl
theorem flatMap_msF (f : MsI → List Value) : ∀ l : List MsI, l.flatMap f = (List.range l.length).flatMap fun i => f (msF l i)
  | [] => rfl
  | x :: l => by
    rw [List.length_cons, List.range_succ_eq_map, List.flatMap_cons, List.flatMap_cons, List.flatMap_map, flatMap_msF f l]
    rfl
theorem pc_msF (M : List MsI) : M.flatMap MsI.cells = pcM (msF M) M.length := flatMap_msF MsI.cells M
theorem nodup_len {α : Type} : ∀ {l m : List α}, l.Nodup → l ⊆ m → l.length ≤ m.length
  | [], m, _, _ => Nat.zero_le _
  | x :: l, m, hn, hs => by
    have hx : x ∈ m := hs (by simp)
    obtain ⟨s, t, rfl⟩ := List.append_of_mem hx
    have := nodup_len (l := l) (m := s ++ t) (List.nodup_cons.1 hn).2 fun y hy => by
      have hy2 : y ∈ s ++ x :: t := hs (by simp [hy])
      have hne : y ≠ x := fun e => (List.nodup_cons.1 hn).1 (e ▸ hy)
      simp only [List.mem_append, List.mem_cons] at hy2 ⊢
      rcases hy2 with h | h | h
      · exact .inl h
      · exact absurd h hne
      · exact .inr h
    simp only [List.length_append, List.length_cons] at this ⊢
    omega
theorem msg_len (ks : List MkI) : ∀ k, (msgN ks k).length ≤ k
  | 0 => Nat.le_refl _
  | k + 1 => by
    have := msg_len ks k
    rw [msgN]
    split
    · rw [List.length_append, List.length_singleton]; omega
    · omega
theorem msg_uniq {ks : List MkI} {k : Nat} {x y : MsI} (hx : x ∈ msgN ks k) (hy : y ∈ msgN ks k) (h1 : x.dev = y.dev) (h2 : x.num = y.num) : x = y := by
  have hp := msg_apart ks k
  obtain ⟨i, hi, ei⟩ := List.getElem_of_mem hx
  obtain ⟨j, hj, ej⟩ := List.getElem_of_mem hy
  rcases Nat.lt_trichotomy i j with h | h | h
  · have := (List.pairwise_iff_getElem.1 hp) i j hi hj h
    rw [ei, ej] at this
    exact absurd ⟨h1, h2⟩ this
  · subst h
    rw [← ei, ← ej]
  · have := (List.pairwise_iff_getElem.1 hp) j i hj hi h
    rw [ei, ej] at this
    exact absurd ⟨h1.symm, h2.symm⟩ this
theorem msg_nodup (ks : List MkI) (k : Nat) : (msgN ks k).Nodup := (msg_apart ks k).imp fun h e => h ⟨by rw [e], by rw [e]⟩
theorem msg_of (ks : List MkI) : ∀ k, ∀ x ∈ msgN ks k, ∃ i n, i < k ∧ isMsg (mkAt ks i) = true ∧ x = msOf (mkAt ks i) n
  | 0, x, h => by cases h
  | k + 1, x, h => by
    rw [msgN] at h
    split at h
    · rename_i hm
      rcases List.mem_append.1 h with h | h
      · obtain ⟨i, n, h1, h2⟩ := msg_of ks k x h
        exact ⟨i, n, by omega, h2⟩
      · exact ⟨k, _, by omega, hm, List.mem_singleton.1 h⟩
    · obtain ⟨i, n, h1, h2⟩ := msg_of ks k x h
      exact ⟨i, n, by omega, h2⟩
theorem msg_in (ks : List MkI) : ∀ k i, i < k → isMsg (mkAt ks i) = true → ∃ n, msOf (mkAt ks i) n ∈ msgN ks k
  | k + 1, i, h, hm => by
    by_cases e : i = k
    · subst e
      refine ⟨cntN ks (mkAt ks i).by_ (i + 1), ?_⟩
      rw [msgN, if_pos hm]
      exact List.mem_append_right _ (List.mem_singleton.2 rfl)
    · obtain ⟨n, h1⟩ := msg_in ks k i (by omega) hm
      refine ⟨n, ?_⟩
      rw [msgN]
      split
      · exact List.mem_append_left _ h1
      · exact h1
theorem isMsg_own {x : MkI} (h : isMsg x = true) : ownK x = false := by
  unfold isMsg at h
  unfold ownK
  exact decide_eq_false (of_decide_eq_true h)
/-- what is sent: a follower's list -/
structure FolOk (M : List MsI) (n : Nat) (Y : Nat → MsI) : Prop where
  srt : ∀ i j, i < j → j < n → ltM (Y i) (Y j)
  inn : ∀ i, i < n → Y i ∈ M
theorem FolOk.inj {M : List MsI} {n : Nat} {Y : Nat → MsI} (h : FolOk M n Y) {i j : Nat} (hi : i < n) (hj : j < n) (e : Y i = Y j) : i = j := by
  rcases Nat.lt_trichotomy i j with g | g | g
  · exact absurd (e ▸ h.srt i j g hj) (ltM_irr _)
  · exact g
  · exact absurd (e ▸ h.srt j i g hi) (ltM_irr _)
theorem FolOk.nil (M : List MsI) (Y : Nat → MsI) : FolOk M 0 Y := ⟨fun i j _ h => absurd h (by omega), fun i h => absurd h (by omega)⟩
theorem FolOk.len {M : List MsI} {n : Nat} {Y : Nat → MsI} (h : FolOk M n Y) : n ≤ M.length := by
  have := nodup_len (l := (List.range n).map Y) (m := M) (List.pairwise_map.2 ((List.nodup_range (n := n)).imp_of_mem fun ha hb hne e => hne (h.inj (List.mem_range.1 ha) (List.mem_range.1 hb) e))) (fun x hx => by
    obtain ⟨i, hi, rfl⟩ := List.mem_map.1 hx
    exact h.inn i (List.mem_range.1 hi))
  simpa using this
theorem FolOk.full {M : List MsI} {n : Nat} {Y : Nat → MsI} (h : FolOk M n Y) (hM : M.Nodup) (ha : ∀ x ∈ M, ∃ i, i < n ∧ Y i = x) : n = M.length := by
  have h1 := h.len
  have := nodup_len (l := M) (m := (List.range n).map Y) hM (fun x hx => by
    obtain ⟨i, hi, e⟩ := ha x hx
    exact List.mem_map.2 ⟨i, List.mem_range.2 hi, e⟩)
  simp at this
  omega
end Go.Adj
namespace Go.Proofs.YtnaafefcijgpkaaGreatDoor
open Go.RowKit Go.Mem Go.Sheet Go.Adj
theorem JnOk.fol {M : List MsI} {n n' : Nat} {Y Y' : Nat → MsI} {x : MsI} (h : JnOk n Y x n' Y') (hf : FolOk M n Y) (hx : x ∈ M) : FolOk M n' Y' ∧ (∀ i, i < n → ∃ j, j < n' ∧ Y' j = Y i) ∧ ∃ j, j < n' ∧ Y' j = x := by
  rcases h with ⟨⟨i, hi, e⟩, rfl, rfl⟩ | ⟨a, ha, rfl, rfl, h1, h2⟩
  · exact ⟨hf, fun i hi => ⟨i, hi, rfl⟩, i, hi, e⟩
  · refine ⟨⟨fun i j hij hj => ?_, fun i hi => ?_⟩, fun i hi => ?_, a, by omega, by unfold insY; rw [if_neg (by omega), if_pos rfl]⟩
    · unfold insY
      by_cases c1 : i < a
      · rw [if_pos c1]
        by_cases d1 : j < a
        · rw [if_pos d1]; exact hf.srt i j hij (by omega)
        · rw [if_neg d1]
          by_cases d2 : j = a
          · rw [if_pos d2]; exact h1 i c1
          · rw [if_neg d2]; exact hf.srt i (j - 1) (by omega) (by omega)
      · rw [if_neg c1, if_neg (by omega : ¬ j < a), if_neg (by omega : ¬ j = a)]
        by_cases c2 : i = a
        · rw [if_pos c2]; exact h2 (j - 1) (by omega) (by omega)
        · rw [if_neg c2]; exact hf.srt (i - 1) (j - 1) (by omega) (by omega)
    · unfold insY
      split
      · exact hf.inn i (by omega)
      · split
        · exact hx
        · exact hf.inn (i - 1) (by omega)
    · by_cases c1 : i < a
      · exact ⟨i, by omega, by unfold insY; rw [if_pos c1]⟩
      · exact ⟨i + 1, by omega, by unfold insY; rw [if_neg (by omega), if_neg (by omega)]; rfl⟩
/-- names of members are names -/
theorem msg_mem {u : UI} {a b : Nat} (h : GoodU u a b) {x : MsI} (hx : x ∈ msgN u.ks u.nk) : (∃ k, k < u.nm ∧ (mbAt u.ms k).name = x.plr) ∧ (∃ k, k < u.nm ∧ (mbAt u.ms k).name = x.dev) ∧ (1 ≤ x.hole ∧ x.hole ≤ (u.nh : Int)) ∧ GoodE ⟨x.s, x.m⟩ := by
  obtain ⟨i, n, hi, hm, rfl⟩ := msg_of u.ks u.nk x hx
  obtain ⟨h1, h2, h3, h4, h5⟩ := h.kk i hi
  exact ⟨h1, h2, ⟨h3, h4⟩, h5⟩
/-- a message is the marker's mark -/
theorem msg_ent {u : UI} {a b : Nat} (h : GoodU u a b) (hl : u.nk = u.ks.length) {x : MsI} (hx : x ∈ msgN u.ks u.nk) : entK u.ks x.plr x.hole false = ⟨x.s, x.m⟩ := by
  obtain ⟨i, n, hi, hm, rfl⟩ := msg_of u.ks u.nk x hx
  have ho := isMsg_own hm
  have e : mkI u.ks (mkAt u.ks i).pl (mkAt u.ks i).h false = (i : Int) := by
    unfold mkI
    refine fstI_at (P := fun j => keyK (mkAt u.ks j) (mkAt u.ks i).pl (mkAt u.ks i).h false) ?_ (fun j hj => ?_) (by omega)
    · show keyK _ _ _ _ = true
      unfold keyK
      rw [ho]
      simp
    · have := h.kk2 i j hi hj
      rw [ho] at this
      exact this
  show entK u.ks (mkAt u.ks i).pl (mkAt u.ks i).h false = ⟨(mkAt u.ks i).s, (mkAt u.ks i).m⟩
  unfold entK
  rw [e, if_pos (by omega), Int.toNat_natCast]
  rfl
/-- a marker's entry is sent -/
theorem ent_msg {u : UI} (hl : u.nk = u.ks.length) (p : ByteArray) (hh : Int) : entK u.ks p hh false = ⟨0, bd⟩ ∨ ∃ x ∈ msgN u.ks u.nk, x.plr = p ∧ x.hole = hh := by
  unfold entK
  split
  · rename_i h0
    unfold mkI at h0
    rcases fstI_inv (fun j => keyK (mkAt u.ks j) p hh false) u.ks.length with ⟨e1, _⟩ | ⟨k, hk, e1, hp, _⟩
    · rw [e1] at h0; exact absurd h0 (by decide)
    · right
      have hp' : keyK (mkAt u.ks k) p hh false = true := hp
      unfold keyK at hp'
      simp only [Bool.and_eq_true, decide_eq_true_eq, beq_iff_eq] at hp'
      obtain ⟨⟨p1, p2⟩, p3⟩ := hp'
      have hm : isMsg (mkAt u.ks k) = true := by
        unfold ownK at p3
        unfold isMsg
        exact decide_eq_true (of_decide_eq_false p3)
      obtain ⟨n, hn⟩ := msg_in u.ks u.nk k (by omega) hm
      exact ⟨_, hn, p1, p2⟩
  · exact .inl rfl
theorem memI_name {u : UI} {a b : Nat} (h : GoodU u a b) (hl : u.nm = u.ms.length) {x : MsI} (hx : x ∈ msgN u.ks u.nk) {k : Nat} (hk : k < u.nm) : (memI u.ms x.plr).toNat = k ↔ x.plr = (mbAt u.ms k).name := by
  obtain ⟨⟨j, hj, e⟩, _⟩ := msg_mem h hx
  rw [← e, mem_self h hl hj, Int.toNat_natCast]
  constructor
  · rintro rfl; rfl
  · intro e2
    rcases Nat.lt_trichotomy j k with g | g | g
    · exact absurd e2 (h.mb2 k j hk g)
    · exact g
    · exact absurd e2.symm (h.mb2 j k hj g)
/-- what a follower shows of a hole: nothing, or the board's entry -/
theorem wr_part {u : UI} {a b : Nat} (h : GoodU u a b) (hlm : u.nm = u.ms.length) (hlk : u.nk = u.ks.length) {m : Nat} {Y : Nat → MsI} (hY : ∀ i, i < m → Y i ∈ msgN u.ks u.nk) {k i : Nat} (hk : k < u.nm) (hi : i < u.nh) :
    (eAt (wrE u.ms u.nh Y m k) i).m = bd ∨ eAt (wrE u.ms u.nh Y m k) i = eAt (EU u k) i := by
  rcases wr_cases u.ms u.nh Y (k := k) hi m (fun c hc => (msg_mem h (hY c hc)).2.2.1.1) with ⟨e, _⟩ | ⟨c, hc, e1, e2, e3⟩
  · left; rw [e]
  · right
    rw [e3]
    unfold EU
    rw [eAt_esU hi, ← (memI_name h hlm (hY c hc) hk).1 e1, ← e2]
    exact (msg_ent h hlk (hY c hc)).symm
theorem wr_full {u : UI} {a b : Nat} (h : GoodU u a b) (hlm : u.nm = u.ms.length) (hlk : u.nk = u.ks.length) {m : Nat} {Y : Nat → MsI} (hY : ∀ i, i < m → Y i ∈ msgN u.ks u.nk) (ha : ∀ x ∈ msgN u.ks u.nk, ∃ i, i < m ∧ Y i = x) {k : Nat} (hk : k < u.nm) :
    wrE u.ms u.nh Y m k = EU u k := by
  have hw := wr_len u.ms u.nh Y m k
  have he : (EU u k).length = u.nh := by unfold EU; exact esU_len _ _ _
  have hx : ∀ i, i < u.nh → eAt (wrE u.ms u.nh Y m k) i = eAt (EU u k) i := fun i hi => by
    rcases wr_cases u.ms u.nh Y (k := k) hi m (fun c hc => (msg_mem h (hY c hc)).2.2.1.1) with ⟨e, hn⟩ | ⟨c, hc, e1, e2, e3⟩
    · rw [e]
      unfold EU
      rw [eAt_esU hi]
      rcases ent_msg hlk (mbAt u.ms k).name ((i : Int) + 1) with h1 | ⟨x, h1, h2, h3⟩
      · exact h1.symm
      · obtain ⟨c, hc, ec⟩ := ha x h1
        refine absurd ⟨?_, ?_⟩ (hn c hc)
        · rw [ec]; exact (memI_name h hlm h1 hk).2 h2
        · rw [ec]; exact h3
    · rw [e3]
      unfold EU
      rw [eAt_esU hi, ← (memI_name h hlm (hY c hc) hk).1 e1, ← e2]
      exact (msg_ent h hlk (hY c hc)).symm
  apply List.ext_getElem?
  intro i
  rcases Nat.lt_or_ge i u.nh with hi | hi
  · have h1 := hx i hi
    unfold eAt at h1
    rw [List.getD_eq_getElem?_getD, List.getD_eq_getElem?_getD, List.getElem?_eq_getElem (by omega), List.getElem?_eq_getElem (by omega)] at h1
    rw [List.getElem?_eq_getElem (by omega), List.getElem?_eq_getElem (by omega)]
    exact congrArg some h1
  · rw [List.getElem?_eq_none (by omega), List.getElem?_eq_none (by omega)]
/-- the Through of a follower's board is at most the board's -/
theorem sd_part {u : UI} {a b : Nat} (h : GoodU u a b) (hlm : u.nm = u.ms.length) (hlk : u.nk = u.ks.length) {m : Nat} {Y : Nat → MsI} (hY : ∀ i, i < m → Y i ∈ msgN u.ks u.nk) {k : Nat} (hk : k < u.nm) :
    (sdE u (wrE u.ms u.nh Y m) k).th ≤ (sdE u (EU u) k).th :=
  thr_le fun _ hi => wr_part h hlm hlk hY hk hi
/-- the map of the board's Through -/
def thM (B : Nat → SdI) : Nat → ByteArray → Int
  | 0, _ => 0
  | k + 1, x => if x = (B k).name then (B k).th else thM B k x
theorem thM_no {B : Nat → SdI} {x : ByteArray} : ∀ {k : Nat}, (∀ a, a < k → (B a).name ≠ x) → thM B k x = 0
  | 0, _ => rfl
  | k + 1, h => by
    rw [thM, if_neg fun e => h k (by omega) e.symm]
    exact thM_no fun a ha => h a (by omega)
theorem thM_at {B : Nat → SdI} {a : Nat} : ∀ {k : Nat}, (∀ i j, i < k → j < k → i ≠ j → (B i).name ≠ (B j).name) → a < k → thM B k (B a).name = (B a).th
  | k + 1, h, ha => by
    rw [thM]
    by_cases e : a = k
    · subst e; rw [if_pos rfl]
    · rw [if_neg (h a k (by omega) (by omega) e)]
      exact thM_at (fun i j hi hj hij => h i j (by omega) (by omega) hij) (by omega)
theorem thM_bd {B : Nat → SdI} {n : Nat} : ∀ {k : Nat}, k ≤ n → (∀ a, a < n → 0 ≤ (B a).th ∧ (B a).th ≤ 36) → ∀ x, 0 ≤ thM B k x ∧ thM B k x ≤ 36
  | 0, _, _, _ => ⟨Int.le_refl _, by show (0 : Int) ≤ 36; omega⟩
  | k + 1, hk, h, x => by
    rw [thM]
    split
    · exact h k (by omega)
    · exact thM_bd (n := n) (by omega) h x
/-- the map tells each member's Through -/
theorem thM_mem {u : UI} {a b : Nat} (h : GoodU u a b) {k : Nat} (hk : k < u.nm) : thM (brdF u (EU u)) (brdN u (EU u)) (mbAt u.ms k).name = (sdE u (EU u) k).th := by
  have h2 := fun i j (hi : i < brdN u (EU u)) (hj : j < brdN u (EU u)) (hij : i ≠ j) => brd_two (E := EU u) h.mb2 hi hj hij
  by_cases h0 : 0 < (sdE u (EU u) k).th
  · obtain ⟨c, hc, e⟩ := brd_on hk h0
    have := thM_at h2 hc
    rw [e] at this
    exact this
  · have hz : (sdE u (EU u) k).th = 0 := by have := (sd_th u (EU u) k).1; omega
    rw [hz]
    refine thM_no fun c hc e => ?_
    obtain ⟨j, hj, e2, h3⟩ := brd_of hc
    rw [e2, sd_name] at e
    rcases Nat.lt_trichotomy j k with g | g | g
    · exact h.mb2 k j hk g e
    · subst g; exact h0 h3
    · exact h.mb2 j k hj g e.symm
theorem part_ok {u : UI} {a b : Nat} (h : GoodU u a b) (hlm : u.nm = u.ms.length) (hlk : u.nk = u.ks.length) {m : Nat} {Y : Nat → MsI} (hY : ∀ i, i < m → Y i ∈ msgN u.ks u.nk) {c : Nat} (hc : c < brdN u (wrE u.ms u.nh Y m)) :
    (brdF u (wrE u.ms u.nh Y m) c).th ≤ thM (brdF u (EU u)) (brdN u (EU u)) (brdF u (wrE u.ms u.nh Y m) c).name := by
  obtain ⟨k, hk, e, _⟩ := brd_of hc
  rw [e, sd_name, thM_mem h hk]
  exact sd_part h hlm hlk hY hk
/-- the list of one who has received all is complete -/
theorem fol_cmp {u : UI} {n : Nat} {Y : Nat → MsI} (hf : FolOk (msgN u.ks u.nk) n Y) (ha : ∀ x ∈ msgN u.ks u.nk, ∃ i, i < n ∧ Y i = x) : Cmp Y n := by
  refine cmp_of hf.srt (fun i hi => (msg_num u.ks u.nk _ (hf.inn i hi)).1) fun i hi h2 => ?_
  have h1 := (msg_num u.ks u.nk _ (hf.inn i hi)).2
  obtain ⟨j, hj⟩ : ∃ j : Nat, (Y i).num - 1 = (j : Int) := ⟨((Y i).num - 1).toNat, by omega⟩
  obtain ⟨x, hx, e1, e2⟩ := msg_all u.ks (Y i).dev u.nk j (by omega) (by omega)
  obtain ⟨c, hc, ec⟩ := ha x hx
  exact ⟨c, hc, by rw [ec]; exact e1, by rw [ec, e2]; omega⟩
end Go.Proofs.YtnaafefcijgpkaaGreatDoor
/- What the law's calls do with lists of a union's messages. -/
namespace Go.Proofs.YtnaafefcijgpkaaGreatDoor
open Go.RowKit Go.Mem Go.Sheet Go.Adj
def Has (n : Nat) (Y : Nat → MsI) (x : MsI) : Prop := ∃ i, i < n ∧ Y i = x
theorem cnt_le (ks : List MkI) (d : ByteArray) : ∀ k, cntN ks d k ≤ k
  | 0 => Nat.le_refl _
  | k + 1 => by
    have := cnt_le ks d k
    rw [cntN]
    split <;> omega
theorem mb_str {W : World} {S : Nat → Prop} {u : UI} (hu : RdU W S u) (hlm : u.nm = u.ms.length) {k : Nat} (hk : k < u.nm) : (mbAt u.ms k).name.size ≤ 9223372036854775807 := by
  refine (hu.so.2.1 (mbAt u.ms k) ?_).1
  have h2 : k < u.ms.length := by omega
  unfold mbAt
  rw [List.getD_eq_getElem?_getD, List.getElem?_eq_getElem h2]
  exact List.getElem_mem _
theorem msg_good {W : World} {S : Nat → Prop} {u : UI} (h : GoodU u 256 200) (hu : RdU W S u) (hlm : u.nm = u.ms.length) (hnh : u.nh ≤ 36) {x : MsI} (hx : x ∈ msgN u.ks u.nk) : GoodM x := by
  obtain ⟨⟨k1, hk1, e1⟩, ⟨k2, hk2, e2⟩, h3, h4⟩ := msg_mem h hx
  have hnm : ∀ k, k < u.nm → NmOk (mbAt u.ms k).name := fun k hk w => by
    have := cardIsName_any (mbAt u.ms k).name w (mb_str hu hlm hk)
    rw [(h.mb k hk).1] at this
    exact this
  have hn := msg_num u.ks u.nk x hx
  have hc := cnt_le u.ks x.dev u.nk
  have hl := h.len.2.2.1
  exact ⟨e2 ▸ hnm k2 hk2, hn.1, by omega, e1 ▸ hnm k1 hk1, h3.1, by omega, h4⟩
def RvPost (M : List MsI) (W : World) (n : Nat) (Y : Nat → MsI) (x : MsI) (e : Ending) (w' : World) : Prop :=
  ∃ (v' : Value) (n' : Nat) (Y' : Nat → MsI), e = .returned (.tuple #[.agg #[v'], .int .i64 0]) ∧ St W w' [row 69 6 v' n' (pcM Y' n')] ∧ Hid (FolOk M n' Y' ∧ (∀ y, Has n Y y → Has n' Y' y) ∧ Has n' Y' x)
theorem receiveU (W : World) (u : UI) (v : Value) (n : Nat) (Y : Nat → MsI) (x : MsI) (hg : GoodU u 256 200) (hnk : u.nk ≤ 30) (hu : RdU W (· < W.heap.size) u) (hf : FolOk (msgN u.ks u.nk) n Y) (hx : x ∈ msgN u.ks u.nk) (h : Rd W (· < W.heap.size) 6 v n (pcM Y n)) :
    Calls Tryz.prog 13 #[.agg #[v], x.val] W fun e w' => RvPost (msgN u.ks u.nk) W n Y x e w' := by
  have hlm : u.nm = u.ms.length := hu.m.count (f := MbI.cells) (size := 3) (fun _ => rfl) (by decide)
  have hnh : u.nh ≤ 36 := goodU_nh hg (hu.h.count (f := HI.cells) (size := 2) (fun _ => rfl) (by decide))
  have h1 := hf.len
  have h2 := msg_len u.ks u.nk
  refine (receive_any W v n Y x (by omega) h hf.srt (fun i hi => msg_good hg hu hlm hnh (hf.inn i hi)) (msg_good hg hu hlm hnh hx) (fun i hi e1 e2 => msg_uniq (hf.inn i hi) hx e1 e2)).mono ?_
  rintro e w' ⟨v', n', Y', rfl, S, hj⟩
  obtain ⟨a, b, c⟩ := hj.fol hf hx
  refine ⟨v', n', Y', rfl, S, Lib.hid ⟨a, ?_, c⟩⟩
  rintro y ⟨i, hi, rfl⟩
  exact b i hi
theorem brd_sur {π : Nat → Nat} {q : Nat} (h1 : ∀ a, a < q → π a < q) (h2 : ∀ a b, a < q → b < q → π a = π b → a = b) : ∀ b, b < q → ∃ a, a < q ∧ π a = b := by
  intro b hb
  have hsub : (List.range q).map π ⊆ List.range q := fun x hx => by
    obtain ⟨y, hy, rfl⟩ := List.mem_map.1 hx
    exact List.mem_range.2 (h1 y (List.mem_range.1 hy))
  have hnd : ((List.range q).map π).Nodup := List.pairwise_map.2 ((List.nodup_range (n := q)).imp_of_mem fun ha hb hne e => hne (h2 _ _ (List.mem_range.1 ha) (List.mem_range.1 hb) e))
  have hp := perm_of_sub hnd hsub (by simp)
  obtain ⟨a, ha, e⟩ := List.mem_map.1 (hp.mem_iff.2 (List.mem_range.2 hb))
  exact ⟨a, List.mem_range.1 ha, e⟩
theorem pcS_congr {Y Y' : Nat → SdI} : ∀ {n : Nat}, (∀ a, a < n → Y a = Y' a) → pcS Y n = pcS Y' n := fun {n} h => by
  unfold pcS
  refine congrArg List.flatten (List.map_congr_left fun a ha => ?_)
  rw [h a (List.mem_range.1 ha)]
def FlPost (M : List MsI) (TH : ByteArray → Int) (BF : Nat → SdI) (BN : Nat) (W : World) (n : Nat) (Y : Nat → MsI) (e : Ending) (w' : World) : Prop :=
  ∃ (v : Value) (q : Nat) (B : Nat → SdI), e = .returned (.tuple #[v, .int .i64 0]) ∧ St W w' [row 44 3 v q (pcS B q)] ∧ Hid (q ≤ 6 ∧ ∀ a, a < q → (B a).th ≤ TH (B a).name ∧ (B a).name.size ≤ 9223372036854775807) ∧ Hid ((∀ x ∈ M, Has n Y x) → q = BN ∧ pcS B q = pcS BF BN)
theorem followU (W : World) (u : UI) (v : Value) (n : Nat) (Y : Nat → MsI) (hg : GoodU u 256 200) (hnm : u.nm ≤ 6) (hnk : u.nk ≤ 30) (hu : RdU W (· < W.heap.size) u) (hf : FolOk (msgN u.ks u.nk) n Y) (h : Rd W (· < W.heap.size) 6 v n (pcM Y n)) :
    Calls Tryz.prog 14 #[u.val, .agg #[v]] W fun e w' => FlPost (msgN u.ks u.nk) (thM (brdF u (EU u)) (brdN u (EU u))) (brdF u (EU u)) (brdN u (EU u)) W n Y e w' := by
  have hlm : u.nm = u.ms.length := hu.m.count (f := MbI.cells) (size := 3) (fun _ => rfl) (by decide)
  have hlk : u.nk = u.ks.length := hu.k.count (f := MkI.cells) (size := 5) (fun _ => rfl) (by decide)
  have hnh : u.nh ≤ 36 := goodU_nh hg (hu.h.count (f := HI.cells) (size := 2) (fun _ => rfl) (by decide))
  have h1 := hf.len
  have h2 := msg_len u.ks u.nk
  refine (uFollow_any W u v n Y hg (by omega) hu (by omega) h hf.srt (fun i hi => msg_good hg hu hlm hnh (hf.inn i hi)) (fun i hi => by
    obtain ⟨a, _, b, c⟩ := msg_mem hg (hf.inn i hi)
    exact ⟨a, b, c⟩)).mono ?_
  rintro e w' ⟨m, τ, YP, v', rfl, hsh, hcm, hpm, S⟩
  obtain ⟨π, p1, p2, p3⟩ := hpm
  have hY : ∀ i, i < m → YP i ∈ msgN u.ks u.nk := fun i hi => by rw [p3 i]; exact hf.inn _ (hsh.lt _ (p1 i hi))
  refine ⟨v', _, _, rfl, S, Lib.hid ⟨?_, fun a ha => ⟨part_ok hg hlm hlk hY ha, ?_⟩⟩, Lib.hid fun hall => ?_⟩
  · have := onE_len u (wrE u.ms u.nh YP m) u.nm
    unfold brdN
    omega
  · obtain ⟨k, hk, e, _⟩ := brd_of ha
    rw [e]
    exact mb_str hu hlm hk
  · obtain ⟨hmn, hid⟩ := hcm (fol_cmp hf hall)
    have hfull : ∀ x ∈ msgN u.ks u.nk, ∃ i, i < m ∧ YP i = x := fun x hx => by
      obtain ⟨i, hi, e⟩ := hall x hx
      have hsur := brd_sur (π := π) (q := m) p1 p2
      obtain ⟨j, hj, ej⟩ := hsur i (by omega)
      refine ⟨j, hj, ?_⟩
      rw [p3 j]
      show Y (τ (π j)) = x
      rw [ej, hid i hi, e]
    obtain ⟨c1, c2⟩ := brd_congr (u := u) (E := wrE u.ms u.nh YP m) (E' := EU u) (fun k hk => wr_full hg hlm hlk hY hfull hk)
    exact ⟨c1, by rw [pcS_congr c2, c1]⟩
theorem gapsU (W : World) (u : UI) (v : Value) (n : Nat) (Y : Nat → MsI) (hg : GoodU u 256 200) (hnk : u.nk ≤ 30) (hu : RdU W (· < W.heap.size) u) (hf : FolOk (msgN u.ks u.nk) n Y) (hall : ∀ x ∈ msgN u.ks u.nk, Has n Y x) (h : Rd W (· < W.heap.size) 6 v n (pcM Y n)) :
    Calls Tryz.prog 15 #[.agg #[v]] W fun e w' => ∃ A c, e = .returned (.tuple #[.slice A 0 c, .int .i64 0]) ∧ Below W.heap.size W w' := by
  have hlm : u.nm = u.ms.length := hu.m.count (f := MbI.cells) (size := 3) (fun _ => rfl) (by decide)
  have hnh : u.nh ≤ 36 := goodU_nh hg (hu.h.count (f := HI.cells) (size := 2) (fun _ => rfl) (by decide))
  have h1 := hf.len
  have h2 := msg_len u.ks u.nk
  refine (uGaps_any W v n Y (by omega) h hf.srt (fun i hi => msg_good hg hu hlm hnh (hf.inn i hi))).mono ?_
  rintro e w' ⟨A, m, c, rfl, hb, hm⟩
  rw [hm (fol_cmp hf hall)]
  exact ⟨A, c, rfl, hb⟩
theorem shownU (W : World) (u : UI) (v : Value) (n : Nat) (Y : Nat → MsI) (hg : GoodU u 256 200) (hnk : u.nk ≤ 30) (hu : RdU W (· < W.heap.size) u) (hf : FolOk (msgN u.ks u.nk) n Y) (hall : ∀ x ∈ msgN u.ks u.nk, Has n Y x) (h : Rd W (· < W.heap.size) 6 v n (pcM Y n)) :
    Calls Tryz.prog 16 #[.agg #[v]] W fun e w' => ∃ A c, e = .returned (.tuple #[.slice A (msgN u.ks u.nk).length c, .int .i64 0]) ∧ Below W.heap.size W w' := by
  have hlm : u.nm = u.ms.length := hu.m.count (f := MbI.cells) (size := 3) (fun _ => rfl) (by decide)
  have hnh : u.nh ≤ 36 := goodU_nh hg (hu.h.count (f := HI.cells) (size := 2) (fun _ => rfl) (by decide))
  have h1 := hf.len
  have h2 := msg_len u.ks u.nk
  refine (uShown_any W v n Y (by omega) h hf.srt (fun i hi => msg_good hg hu hlm hnh (hf.inn i hi))).mono ?_
  rintro e w' ⟨A, m, c, rfl, hb, hm⟩
  rw [hm (fol_cmp hf hall), hf.full (msg_nodup _ _) hall]
  exact ⟨A, c, rfl, hb⟩
end Go.Proofs.YtnaafefcijgpkaaGreatDoor
/- Parts of a list of messages, read; two lists joined. -/
namespace Go.Adj
open Go.RowKit Go.Mem
theorem Rd.takeM {w : World} {S : Nat → Prop} {A : Option Addr} {n m c k : Nat} {L : Nat → MsI} (h : Rd w S 6 (.slice A m c) n (pcM L n)) (hk : k ≤ n) : Rd w S 6 (.slice A k c) k (pcM L k) := by
  obtain ⟨A', c', hv, h1, h2, h3, h4, h5⟩ := h
  injection hv with e1 e2 e3
  subst e1 e2 e3
  refine ⟨A, c, rfl, by omega, h2, pcM_len L k, h4, fun hn => ?_⟩
  obtain ⟨b, o, hA, hS, hb, hc⟩ := h5 (by omega)
  refine ⟨b, o, hA, hS, hb, fun j u hu => hc j u ?_⟩
  have hj : j < k * 6 := by have := (List.getElem?_eq_some_iff.1 hu).1; rwa [pcM_len] at this
  rw [← pcM_take L hk, List.getElem?_take, if_pos hj] at hu
  exact hu
theorem Rd.dropM {w : World} {S : Nat → Prop} {b n c k : Nat} {L : Nat → MsI} (h : Rd w S 6 (.slice (some ⟨b, 0, none⟩) n c) n (pcM L n)) (hk : k ≤ n) : Rd w S 6 (.slice (some ⟨b, k * 6, none⟩) (n - k) (c - k)) (n - k) (pcM (fun i => L (k + i)) (n - k)) := by
  obtain ⟨A', c', hv, h1, h2, h3, h4, h5⟩ := h
  injection hv with e1 e2 e3
  subst e1 e3
  refine ⟨_, _, rfl, by omega, by omega, pcM_len _ _, (fun h => by cases h), fun hn => ?_⟩
  obtain ⟨b', o, hA, hS, hb, hc⟩ := h5 (by omega)
  cases hA
  refine ⟨b, k * 6, rfl, hS, hb, fun j u hu => ?_⟩
  have hj : j < (n - k) * 6 := by have := (List.getElem?_eq_some_iff.1 hu).1; rwa [pcM_len] at this
  have := hc (k * 6 + j) u ?_
  · rwa [Nat.zero_add] at this
  · obtain ⟨a, d, hd, rfl⟩ : ∃ a d, d < 6 ∧ j = a * 6 + d := ⟨j / 6, j % 6, Nat.mod_lt _ (by decide), by omega⟩
    rw [show k * 6 + (a * 6 + d) = (k + a) * 6 + d by omega, pcM_at L (by omega) hd]
    rwa [pcM_at _ (by omega) hd] at hu
def joinY (Y : Nat → MsI) (a : Nat) (Z : Nat → MsI) (i : Nat) : MsI := if i < a then Y i else Z (i - a)
theorem pcM_join (Y Z : Nat → MsI) (a b : Nat) : pcM Y a ++ pcM Z b = pcM (joinY Y a Z) (a + b) := by
  apply List.ext_getElem?
  intro i
  rcases Nat.lt_or_ge i ((a + b) * 6) with hi | hi
  · obtain ⟨k, d, hd, rfl⟩ : ∃ k d, d < 6 ∧ i = k * 6 + d := ⟨i / 6, i % 6, Nat.mod_lt _ (by decide), by omega⟩
    rw [pcM_at _ (by omega) hd]
    unfold joinY
    by_cases h : k < a
    · rw [if_pos h, List.getElem?_append_left (by rw [pcM_len]; omega), pcM_at Y h hd]
    · rw [if_neg h, List.getElem?_append_right (by rw [pcM_len]; omega), pcM_len, show k * 6 + d - a * 6 = (k - a) * 6 + d by omega, pcM_at Z (by omega) hd]
  · rw [List.getElem?_eq_none, List.getElem?_eq_none]
    · rw [pcM_len]; omega
    · rw [List.length_append, pcM_len, pcM_len]; omega
end Go.Adj
