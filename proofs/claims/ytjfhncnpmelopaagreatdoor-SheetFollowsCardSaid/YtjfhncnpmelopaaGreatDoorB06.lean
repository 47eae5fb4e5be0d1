/- Part 6 of the walks of the golf union's program: WW, SM, Enc. -/
import Derived.RangeFuncNested
import Derived.RangeFuncBound
import Derived.RangeFuncCalls
import Derived.RangeFuncLeaves
import Derived.Shelf.Abstract
import Derived.WalkKit
import Derived.OwnWalkIn
import Derived.TacticsInMore
import Derived.LoopNIn
import Derived.LoopIn
import Derived.Test.YtjfhncnpmelopaaGreatDoorB04
import Derived.Test.YtjfhncnpmelopaaGreatDoorB05
import Derived.Test.YtjfhncnpmelopaaGreatDoorB01
import Derived.RangeFuncOwn
set_option linter.unusedVariables false
set_option linter.unusedSimpArgs false
set_option linter.unusedSectionVars false
set_option linter.constructorNameAsVariable false
/- Walks: the iterator over wishes. -/
namespace Go.Sheet
/-- all wishes with the numbers of their requests -/
def wl : Nat → List Req → List (Nat × Wish)
  | _, [] => []
  | k, x :: rs => x.ws.map (fun w => (k, w)) ++ wl (k + 1) rs
theorem wl_append (a b : List Req) : ∀ k, wl k (a ++ b) = wl k a ++ wl (k + a.length) b := by
  induction a with
  | nil => intro k; rfl
  | cons x a ih => intro k; rw [List.cons_append, wl, wl, ih, List.append_assoc, List.length_cons, show k + 1 + a.length = k + (a.length + 1) by omega]
theorem wl_succ {rs : List Req} {k : Nat} {x : Req} (h : rs[k]? = some x) : wl 0 (rs.take (k + 1)) = wl 0 (rs.take k) ++ x.ws.map (fun w => (k, w)) := by
  have hk := (List.getElem?_eq_some_iff.1 h).1
  rw [take_at h, wl_append, wl, wl, List.append_nil, List.length_take, Nat.zero_add, Nat.min_eq_left (by omega)]
theorem wl_split {rs : List Req} {k j : Nat} {x : Req} {y : Wish} (h : rs[k]? = some x) (hj : x.ws[j]? = some y) :
    (wl 0 (rs.take k) ++ (x.ws.take j).map (fun w => (k, w))).length < (wl 0 rs).length := by
  have hk := (List.getElem?_eq_some_iff.1 h).1
  have hj' := (List.getElem?_eq_some_iff.1 hj).1
  have e : wl 0 rs = wl 0 (rs.take (k + 1)) ++ wl (0 + (rs.take (k + 1)).length) (rs.drop (k + 1)) := by rw [← wl_append, List.take_append_drop]
  rw [e, wl_succ h]
  simp only [List.length_append, List.length_map, List.length_take]
  omega
/-- a wish of one of the requests -/
def IsW (rs : List Req) (p : Nat × Wish) : Prop := ∃ x, rs[p.1]? = some x ∧ p.2 ∈ x.ws
end Go.Sheet
namespace Go.Proofs.YtjfhncnpmelopaaGreatDoor
open Go.RowKit Go.Mem Go.Sheet Go.Shelf
attribute [local go_sem] Oper.semAt_some
set_option maxRecDepth 100000 in
set_option maxHeartbeats 2000000 in
theorem wishes1_stops (m : Nat) (hm : 1 ≤ m) (w : World) (Bs n₀ n c : Nat) (A : Option Addr) (rs : List Req) (hBs : w.cell? ⟨Bs, 0, none⟩ = some (.slice A n c)) (h : RdReqs w (· < n₀) (.slice A n c) n rs) (hn₀ : n₀ ≤ w.heap.size) :
    SeqStopsK Fence.wide m Tryz.prog 152 #[.pointer (some ⟨Bs, 0, none⟩)] (fun p : { p : Nat × Wish // IsW rs p } => #[.int .i64 p.1.1, p.1.2.val]) (Below n₀)
      (fun xs => xs.map (·.1) = wl 0 rs) (fun _ => True) (wl 0 rs).length w := by
  intro l J Jx W hW hJ hJx hY h0
  have HN := Lib.hid (h.1.count (f := Req.cells) (size := 3) (fun _ => rfl) (by decide))
  have bn := h.1.le
  have hBs' : Bs < w.heap.size := World.block_lt_of_cell? w _ hBs
  have hc := (hW.cell (p := ⟨Bs, 0, none⟩) hBs').trans hBs
  have hb0 : Below n₀ w W := hW.mono hn₀
  have hr : RdReqs W (· < n₀) (.slice A n c) n rs := ⟨h.1.below hb0, fun r hr => ⟨(h.2 r hr).1.below hb0, (h.2 r hr).2⟩⟩
  have hnW : n₀ ≤ W.heap.size := by have := hW.size; omega
  clear h hBs hW hb0 hBs'
  refine callsIn_of_wp Tryz.func152 rfl trivial ?_ rfl
  simp only [Tryz.ntmps152, List.size_toArray, List.length_cons, List.length_nil, Nat.reduceAdd, Nat.reduceSub, Array.replicate_succ, Array.replicate_zero, List.push_toArray, List.append_toArray, List.nil_append, List.cons_append]
  gi_wp2
  gi_loopw [9] (fun i wr => ∃ (k : Nat) (pre : List { p : Nat × Wish // IsW rs p }), k ≤ n ∧ i = .int .i64 k ∧ pre.map (·.1) = wl 0 (rs.take k) ∧ J pre wr ∧ Below n₀ W wr) (fun i _ => n - (intOf i).toNat)
  case atStart => exact ⟨0, [], Nat.zero_le _, rfl, rfl, h0, Below.refl _ _⟩
  case round =>
    obtain ⟨k, pre, hk, rfl, hpre, hJs, hnx⟩ := hrel
    have HP := Lib.hid hpre
    clear hpre hc
    by_cases hlt : k < n
    · obtain ⟨b, o, x, rfl, hx, c0, c1, c2⟩ := (hr.1.below hnx).elem3 (k := k) (fun s : Req => .string s.name) (fun s : Req => .bool s.g) (fun s : Req => .slice s.wa s.wn s.wc) (fun _ => rfl) hlt
      have hrx := (hr.2 x (List.mem_of_getElem? hx)).1
      have HX := Lib.hid hx
      have HNW := Lib.hid (hrx.count (f := Wish.cells) (size := 2) (fun _ => rfl) (by decide))
      have bw := hrx.le
      have hJ1 : J pre (wr.alloc (.cells #[.string x.name, .bool x.g, .slice x.wa x.wn x.wc] 49)) := hJ _ _ _ none hJs (World.grownBy_alloc _ _ _) (fun r e => by cases e)
      have hnr : n₀ ≤ wr.heap.size := by have := hnx.size; omega
      have hn1 := hnx.alloc hnr (.cells #[.string x.name, .bool x.g, .slice x.wa x.wn x.wc] 49)
      have hn2 : n₀ ≤ (wr.alloc (.cells #[.string x.name, .bool x.g, .slice x.wa x.wn x.wc] 49)).heap.size := by simp; omega
      clear hx
      gi_wp2
      obtain ⟨wo, rfl⟩ : ∃ wo : World, wo = wr := ⟨_, rfl⟩
      generalize wo.alloc (.cells #[.string x.name, .bool x.g, .slice x.wa x.wn x.wc] 49) = w1 at *
      clear c0 c1 c2 hJs hnx
      gi_loopw [17] (fun i wr => ∃ (j : Nat) (pre : List { p : Nat × Wish // IsW rs p }), j ≤ x.wn ∧ i = .int .i64 j ∧ pre.map (·.1) = wl 0 (rs.take k) ++ (x.ws.take j).map (fun w => (k, w)) ∧ J pre wr ∧ Below n₀ W wr) (fun i _ => x.wn - (intOf i).toNat)
      case atStart => exact ⟨0, pre, Nat.zero_le _, rfl, by rw [HP.out]; simp, hJ1, hn1⟩
      case round =>
        obtain ⟨j, pre2, hj, rfl, hpre2, hJ2, hnx⟩ := hrel
        have HP2 := Lib.hid hpre2
        clear hpre2 hJ1 hn1 hn2
        by_cases hlt2 : j < x.wn
        · obtain ⟨b2, o2, y, hA2, hy, d0, d1⟩ := (hrx.below hnx).elem2 (k := j) (fun s : Wish => .int .i64 s.s) (fun s : Wish => .int .i64 s.w) (fun _ => rfl) hlt2
          have HY := Lib.hid hy
          have HA2 := Lib.hid hA2
          have hJ3 : J pre2 (wr.alloc (.cells #[.int .i64 y.s, .int .i64 y.w] 51)) := hJ _ _ _ none hJ2 (World.grownBy_alloc _ _ _) (fun r e => by cases e)
          have hnr2 : n₀ ≤ wr.heap.size := by have := hnx.size; omega
          have HB := Lib.hid (hnx.alloc hnr2 (.cells #[.int .i64 y.s, .int .i64 y.w] 51))
          have hlen : pre2.length < (wl 0 rs).length := by
            have e := congrArg List.length HP2.out
            rw [List.length_map] at e
            rw [e]
            exact wl_split HX.out hy
          obtain ⟨p, hp⟩ : ∃ p : { p : Nat × Wish // IsW rs p }, p.1 = (k, y) := ⟨⟨(k, y), x, HX.out, List.mem_of_getElem? hy⟩, rfl⟩
          obtain ⟨fn, tmps, assign, body, hyy, hR⟩ := hY pre2 p _ hJ3 hlen
          rw [hp] at hyy
          have HPV := Lib.hid hp
          dsimp only at hyy
          rw [hA2]
          clear hy hA2 hJ3 hnx hlen hp
          gi_wp2
          refine hR.mono ?_
          rintro e W3 (⟨rfl, hJ4, hk3⟩ | ⟨rfl, hJx4⟩)
          · gi_wp2
            go_roundw
            case rel => exact ⟨j + 1, pre2 ++ [p], by omega, by go_num, by rw [List.map_append, HP2.out, take_at HY.out]; simp [HPV.out], hJ4, HB.out.trans hk3⟩
            case measure => simp [intOf]; omega
          · gi_wp2
            refine bodyPost_ret (results_none rfl _ _ _) rfl ?_
            exact ⟨⟨_, rfl⟩, .inr ⟨_, trivial, hJx4⟩⟩
        · obtain rfl : j = x.wn := by omega
          have HE : Hid (pre2.map (·.1) = wl 0 (rs.take (k + 1))) := by
            show _ = _
            rw [HP2.out, wl_succ HX.out, List.take_of_length_le (Nat.le_of_eq HNW.out.symm)]
          gi_wp2
          go_roundw
          case rel => exact ⟨k + 1, pre2, by omega, by go_num, HE.out, hJ2, hnx⟩
          case measure => simp [intOf]; omega
    · obtain rfl : k = n := by omega
      gi_wp2
      go_end0
      exact ⟨⟨_, rfl⟩, .inl ⟨pre, by rw [HP.out, List.take_of_length_le (Nat.le_of_eq HN.out.symm)], hJs⟩⟩
end Go.Proofs.YtjfhncnpmelopaaGreatDoor
/- What match computes, as plain functions. -/
namespace Go.Sheet
theorem ifc {c d : Prop} [Decidable c] [Decidable d] {α : Type} {x y : α} (h : c ↔ d) : (if c then x else y) = if d then x else y := by
  by_cases hc : c
  · rw [if_pos hc, if_pos (h.1 hc)]
  · rw [if_neg hc, if_neg (fun hd => hc (h.2 hd))]
/-- the slot of each column -/
def slotOf (cs : List Int) : Nat → Int
  | 0 => 0
  | k + 1 => cs.getD k 0
theorem slotOf_snoc (cs : List Int) (s : Int) : (fun j => if j = cs.length + 1 then s else slotOf cs j) = slotOf (cs ++ [s]) := by
  funext j
  cases j with
  | zero => rfl
  | succ j =>
    rw [slotOf, slotOf, List.getD_eq_getElem?_getD, List.getD_eq_getElem?_getD]
    by_cases e : j = cs.length
    · subst e; simp
    · rw [if_neg (by omega)]
      by_cases h : j < cs.length
      · rw [List.getElem?_append_left h]
      · rw [List.getElem?_eq_none (by omega), List.getElem?_eq_none (by simp; omega)]
/-- the places of slots, from the number k on -/
def plc : Nat → List Slot → List Int
  | _, [] => []
  | k, s :: l => List.replicate s.p.toNat (k : Int) ++ plc (k + 1) l
theorem plc_append (a b : List Slot) : ∀ k, plc k (a ++ b) = plc k a ++ plc (k + a.length) b := by
  induction a with
  | nil => intro k; rfl
  | cons x a ih => intro k; rw [List.cons_append, plc, plc, ih, List.append_assoc, List.length_cons, show k + 1 + a.length = k + (a.length + 1) by omega]
theorem plc_succ {l : List Slot} {k : Nat} {s : Slot} (h : l[k]? = some s) : plc 0 (l.take (k + 1)) = plc 0 (l.take k) ++ List.replicate s.p.toNat (k : Int) := by
  have hk := (List.getElem?_eq_some_iff.1 h).1
  rw [take_at h, plc_append, plc, plc, List.append_nil, List.length_take, Nat.zero_add, Nat.min_eq_left (by omega)]
theorem plc_len {l : List Slot} (h : ∀ s ∈ l, s.p ≤ 8) : ∀ k, (plc k l).length ≤ 8 * l.length := by
  induction l with
  | nil => intro k; exact Nat.zero_le _
  | cons s l ih =>
    intro k
    have h1 := h s (by simp)
    have h2 := ih (fun x hx => h x (by simp [hx])) (k + 1)
    rw [plc, List.length_append, List.length_replicate, List.length_cons]
    omega
def mkM (worth : Nat → Nat → Int) (cs : List Int) (R : Nat) : Mt := ⟨worth, slotOf cs, R, cs.length, List.replicate 25 0, List.replicate 218 0, List.replicate 218 0⟩
def fillF (cs : List Int) (i kk j k : Nat) : Int :=
  if (1 ≤ k ∧ k ≤ cs.length) ∧ 1 ≤ j ∧ (j ≤ i ∨ (j = i + 1 ∧ k < kk)) then (if slotOf cs k < 0 then 0 else -Far) else 0
theorem fillF_start (cs : List Int) : fillF cs 0 1 = fun _ _ => 0 := by
  funext j k
  rw [fillF, if_neg (by omega)]
theorem fillF_next (cs : List Int) (i : Nat) : fillF cs i (cs.length + 1) = fillF cs (i + 1) 1 := by
  funext j k
  simp only [fillF]
  exact ifc (by omega)
theorem fillF_step (cs : List Int) (i kk : Nat) (h1 : 1 ≤ kk) (h2 : kk ≤ cs.length) (v : Int) (hv : v = if slotOf cs kk < 0 then 0 else -Far) : (fun a b => if a = i + 1 ∧ b = kk then v else fillF cs i kk a b) = fillF cs i (kk + 1) := by
  funext j k
  simp only [fillF]
  by_cases h : j = i + 1 ∧ k = kk
  · obtain ⟨rfl, rfl⟩ := h
    rw [if_pos ⟨rfl, rfl⟩, if_pos (by omega), hv]
  · rw [if_neg h]
    exact ifc (by omega)
/-- a wish: its request's row, in the columns of its slot below kk -/
def wishF (cs : List Int) (v : Int) (i : Nat) (s : Int) (kk : Nat) (f : Nat → Nat → Int) (a b : Nat) : Int :=
  if (a = i + 1 ∧ 1 ≤ b ∧ b < kk) ∧ slotOf cs b = s then v else f a b
theorem wishF_start (cs : List Int) (v : Int) (i : Nat) (s : Int) (f : Nat → Nat → Int) : wishF cs v i s 1 f = f := by
  funext a b
  rw [wishF, if_neg (by omega)]
theorem wishF_hit (cs : List Int) (v : Int) (i : Nat) (s : Int) (kk : Nat) (f : Nat → Nat → Int) (h1 : 1 ≤ kk) (h : slotOf cs kk = s) : (fun a b => if a = i + 1 ∧ b = kk then v else wishF cs v i s kk f a b) = wishF cs v i s (kk + 1) f := by
  funext a b
  simp only [wishF]
  by_cases h2 : a = i + 1 ∧ b = kk
  · obtain ⟨rfl, rfl⟩ := h2
    rw [if_pos ⟨rfl, rfl⟩, if_pos ⟨by omega, h⟩]
  · rw [if_neg h2]
    by_cases h3 : (a = i + 1 ∧ 1 ≤ b ∧ b < kk) ∧ slotOf cs b = s
    · rw [if_pos h3, if_pos ⟨by omega, h3.2⟩]
    · rw [if_neg h3, if_neg (fun h4 => h3 ⟨by omega, h4.2⟩)]
theorem wishF_miss (cs : List Int) (v : Int) (i : Nat) (s : Int) (kk : Nat) (f : Nat → Nat → Int) (h : slotOf cs kk ≠ s) : wishF cs v i s kk f = wishF cs v i s (kk + 1) f := by
  funext a b
  simp only [wishF]
  by_cases h3 : (a = i + 1 ∧ 1 ≤ b ∧ b < kk) ∧ slotOf cs b = s
  · rw [if_pos h3, if_pos ⟨by omega, h3.2⟩]
  · rw [if_neg h3, if_neg (fun h4 => h3 ⟨by
      have : b ≠ kk := fun e => by subst e; exact h h4.2
      omega, h4.2⟩)]
/-- what serving a wish of the request i is worth -/
def svI (sv : RQ → Wish → Int) (rs : List RQ) (p : Nat × Wish) : Int := match rs[p.1]? with | some x => sv x p.2 | none => 0
def wishAll (cs : List Int) (sv : RQ → Wish → Int) (rs : List RQ) (f : Nat → Nat → Int) (ps : List (Nat × Wish)) : Nat → Nat → Int :=
  ps.foldl (fun f p => wishF cs (svI sv rs p) p.1 p.2.s (cs.length + 1) f) f
theorem wishAll_snoc (cs : List Int) (sv : RQ → Wish → Int) (rs : List RQ) (f : Nat → Nat → Int) (ps : List (Nat × Wish)) (p : Nat × Wish) :
    wishAll cs sv rs f (ps ++ [p]) = wishF cs (svI sv rs p) p.1 p.2.s (cs.length + 1) (wishAll cs sv rs f ps) := by
  rw [wishAll, List.foldl_append]; rfl
/-- all wishes, of plain requests -/
def wlQ : Nat → List RQ → List (Nat × Wish)
  | _, [] => []
  | k, x :: rs => x.ws.map (fun w => (k, w)) ++ wlQ (k + 1) rs
theorem wl_eq (rs : List Req) : ∀ k, wl k rs = wlQ k (rs.map Req.rq) := by
  induction rs with
  | nil => intro k; rfl
  | cons x rs ih => intro k; rw [List.map_cons, wl, wlQ, ih]; rfl
def colsL (l : List Slot) (R : Nat) : List Int := plc 0 l ++ List.replicate (R + 1) (-1)
def m0 (l : List Slot) (rs : List RQ) (sv : RQ → Wish → Int) : Mt :=
  mkM (wishAll (colsL l rs.length) sv rs (fillF (colsL l rs.length) rs.length 1) (wlQ 0 rs)) (colsL l rs.length) rs.length
def addAll : Nat → Nat → Mt → Option Mt
  | 0, _, M => some M
  | m + 1, i, M => match add M i with
    | none => none
    | some M' => addAll m (i + 1) M'
def matchF (l : List Slot) (rs : List RQ) (sv : RQ → Wish → Int) : Option Mt := addAll rs.length 1 (m0 l rs sv)
/-- what is known of the matching -/
structure Matched (l : List Slot) (rs : List RQ) (sv : RQ → Wish → Int) (M : Mt) : Prop where
  eq : matchF l rs sv = some M
  hm : HM M rs.length
  len : MLens M
  worth : M.worth = (m0 l rs sv).worth
  slot : M.slot = (m0 l rs sv).slot
  rows : M.rows = rs.length
  n : M.n = (plc 0 l).length + rs.length + 1
/- bounds -/
structure SvOk (rs : List RQ) (sv : RQ → Wish → Int) : Prop where
  hi : ∀ x ∈ rs, ∀ y ∈ x.ws, sv x y ≤ Wm
  lo : ∀ x ∈ rs, ∀ y ∈ x.ws, -Far ≤ sv x y
  slot : ∀ x ∈ rs, ∀ y ∈ x.ws, 0 ≤ y.s
theorem wlQ_mem {rs : List RQ} {p : Nat × Wish} : ∀ {k}, p ∈ wlQ k rs → ∃ x, rs[p.1 - k]? = some x ∧ k ≤ p.1 ∧ p.2 ∈ x.ws := by
  induction rs with
  | nil => intro k h; cases h
  | cons x rs ih =>
    intro k h
    rw [wlQ, List.mem_append] at h
    rcases h with h | h
    · obtain ⟨w, hw, rfl⟩ := List.mem_map.1 h
      exact ⟨x, by simp, Nat.le_refl _, hw⟩
    · obtain ⟨y, h1, h2, h3⟩ := ih h
      exact ⟨y, by rw [show p.1 - k = (p.1 - (k + 1)) + 1 by omega]; simpa using h1, by omega, h3⟩
theorem slotOf_home (l : List Slot) (R k : Nat) (h1 : (plc 0 l).length < k) (h2 : k ≤ (plc 0 l).length + R + 1) : slotOf (colsL l R) k = -1 := by
  obtain ⟨j, rfl⟩ : ∃ j, k = j + 1 := ⟨k - 1, by omega⟩
  rw [slotOf, colsL, List.getD_eq_getElem?_getD, List.getElem?_append_right (by omega), List.getElem?_replicate, if_pos (by omega)]
  rfl
theorem colsL_len (l : List Slot) (R : Nat) : (colsL l R).length = (plc 0 l).length + R + 1 := by rw [colsL, List.length_append, List.length_replicate]; omega
theorem wishAll_base (l : List Slot) (rs : List RQ) (sv : RQ → Wish → Int) (h : SvOk rs sv) : Base (m0 l rs sv).worth rs.length (plc 0 l).length := by
  show Base (wishAll (colsL l rs.length) sv rs (fillF (colsL l rs.length) rs.length 1) (wlQ 0 rs)) _ _
  have key : ∀ ps : List (Nat × Wish), (∀ p ∈ ps, p ∈ wlQ 0 rs) → ∀ f : Nat → Nat → Int, Base f rs.length (plc 0 l).length → Base (wishAll (colsL l rs.length) sv rs f ps) rs.length (plc 0 l).length := by
    intro ps
    induction ps with
    | nil => intro _ f hf; exact hf
    | cons p ps ih =>
      intro hp f hf
      obtain ⟨x, hx, _, hw⟩ := wlQ_mem (hp p (by simp))
      rw [Nat.sub_zero] at hx
      have hxm := List.mem_of_getElem? hx
      have e : svI sv rs p = sv x p.2 := by rw [svI, hx]
      refine ih (fun q hq => hp q (by simp [hq])) _ ⟨fun j k a b c d => ?_, fun j k => ?_, fun j k => ?_⟩
      · show wishF (colsL l rs.length) (svI sv rs p) p.1 p.2.s ((colsL l rs.length).length + 1) f j k = 0
        rw [wishF, if_neg, hf.home j k a b c d]
        rintro ⟨_, h2⟩
        rw [slotOf_home l rs.length k c d] at h2
        have := h.slot x hxm p.2 hw
        omega
      · show wishF (colsL l rs.length) (svI sv rs p) p.1 p.2.s ((colsL l rs.length).length + 1) f j k ≤ Wm
        rw [wishF, e]
        split
        · exact h.hi x hxm _ hw
        · exact hf.hi j k
      · show -Far ≤ wishF (colsL l rs.length) (svI sv rs p) p.1 p.2.s ((colsL l rs.length).length + 1) f j k
        rw [wishF, e]
        split
        · exact h.lo x hxm _ hw
        · exact hf.lo j k
  refine key _ (fun p hp => hp) _ ⟨fun j k a b c d => ?_, fun j k => ?_, fun j k => ?_⟩
  · rw [fillF]
    split
    · rw [if_pos (by rw [slotOf_home l rs.length k c d]; decide)]
    · rfl
  · rw [fillF]
    simp only [Wm, Far]
    split
    · split <;> decide
    · decide
  · rw [fillF]
    simp only [Far]
    split
    · split <;> decide
    · decide
theorem m0_lens (l : List Slot) (rs : List RQ) (sv : RQ → Wish → Int) : MLens (m0 l rs sv) := ⟨List.length_replicate, List.length_replicate, List.length_replicate⟩
theorem rep0i (n k : Nat) : (List.replicate n 0).getD k 0 = (0 : Int) := by rw [replicate_getD]; split <;> rfl
theorem m0_hm (l : List Slot) (rs : List RQ) (sv : RQ → Wish → Int) : HM (m0 l rs sv) 0 := by
  have ht : ∀ k, (m0 l rs sv).taken.getD k 0 = 0 := fun k => rep0 218 k
  have hr : ∀ k, (m0 l rs sv).row.getD k 0 = 0 := fun k => rep0i 25 k
  have hc : ∀ k, (m0 l rs sv).col.getD k 0 = 0 := fun k => rep0i 218 k
  refine ⟨fun k _ _ => Nat.le_of_eq (ht k), fun k k' _ _ _ _ _ n => absurd (ht k) n, fun j a b => by omega, fun j k a b => by omega, fun k _ _ n => absurd (ht k) n, fun k _ _ => Int.le_of_eq (hc k).symm, fun k _ _ _ => hc k, fun j _ => hr j⟩
theorem addAll_ok {R P : Nat} (wo : Nat → Nat → Int) (b : Base wo R P) (hR : R ≤ 24) : ∀ (m i : Nat) (M : Mt), i + m = R → M.worth = wo → M.n = P + R + 1 → M.n ≤ 217 → HM M i → MLens M →
    ∃ M', addAll m (i + 1) M = some M' ∧ HM M' R ∧ MLens M' ∧ M'.worth = wo ∧ M'.slot = M.slot ∧ M'.rows = M.rows ∧ M'.n = M.n := by
  intro m
  induction m with
  | zero =>
    intro i M hi hw _ _ h L
    obtain rfl : i = R := by omega
    exact ⟨M, rfl, h, L, hw, rfl, rfl, rfl⟩
  | succ m ih =>
    intro i M hi hw hn hn' h L
    subst hw
    obtain ⟨M1, e1, h1, L1, w1, s1, r1, n1⟩ := add_ok h L b hn hn' hR (by omega)
    obtain ⟨M2, e2, h2, L2, w2, s2, r2, n2⟩ := ih (i + 1) M1 (by omega) w1 (by rw [n1]; exact hn) (by rw [n1]; exact hn') h1 L1
    exact ⟨M2, by rw [addAll, e1]; exact e2, h2, L2, w2, s2.trans s1, r2.trans r1, n2.trans n1⟩
end Go.Sheet
/- The matching as it lies in memory; a measure that is the least fuel; blocks in another order. -/
namespace Go.Mem
open Go.RowKit
theorem Sep.perm {L L' : List Asr} (h : L.Perm L') : ∀ {w : World} {F : Nat → Prop}, Sep L w F → Sep L' w F := by
  induction h with
  | nil => intros; trivial
  | cons A _ ih => rintro w F ⟨F1, h1, h2, h3⟩; exact ⟨F1, h1, h2, ih h3⟩
  | swap A B L =>
    rintro w F ⟨F1, h1, h2, F2, g1, g2, g3⟩
    exact ⟨F2, fun b hb => (g1 b hb).1, g2, F1, fun b hb => ⟨h1 b hb, fun h => (g1 b h).2 hb⟩, h2, g3.mono fun b ⟨⟨a, c⟩, d⟩ => ⟨⟨a, d⟩, c⟩⟩
  | trans _ _ ih1 ih2 => intro w F h; exact ih2 (ih1 h)
theorem St.perm {W w : World} {L L' : List Asr} (h : St W w L) (hp : L.Perm L') : St W w L' := ⟨h.1, Sep.perm hp h.2⟩
/-- a new block, laid second: behind the head -/
theorem St.blk_new2 {W w : World} {A : Asr} {L : List Asr} (h : St W w (A :: L)) (cs : Array Value) (t : TypeId) : St W (w.alloc (.cells cs t)) (A :: blk w.heap.size t cs :: L) :=
  (h.blk_new cs t).perm (.cons _ List.perm_append_comm)
theorem St.blk_new1 {W w : World} {L : List Asr} (h : St W w L) (cs : Array Value) (t : TypeId) : St W (w.alloc (.cells cs t)) (blk w.heap.size t cs :: L) :=
  (h.blk_new cs t).perm List.perm_append_comm
theorem mu_ex {R : Nat → Prop} (h : ∃ n, R n) : ∃ n, R n ∧ ∀ m, R m → n ≤ m := by
  obtain ⟨n, hn⟩ := h
  induction n using Nat.strongRecOn with
  | ind n ih =>
    by_cases hc : ∃ m, R m ∧ m < n
    · obtain ⟨m, h1, h2⟩ := hc
      exact ih m h2 h1
    · exact ⟨n, hn, fun m hm => by
        rcases Nat.lt_or_ge m n with h | h
        · exact absurd ⟨m, hm, h⟩ hc
        · exact h⟩
/-- a choice of the least number of which R holds -/
def Least (mu : (Nat → Prop) → Nat) : Prop := ∀ R : Nat → Prop, (∃ n, R n) → R (mu R) ∧ ∀ m, R m → mu R ≤ m
theorem least : ∃ mu, Least mu := ⟨fun R => Classical.epsilon fun n => R n ∧ ∀ m, R m → n ≤ m, fun _ h => Classical.epsilon_spec (mu_ex h)⟩
theorem Least.lt {mu : (Nat → Prop) → Nat} (hm : Least mu) {R R' : Nat → Prop} {m : Nat} (h : R' m) (hlt : m < mu R) : mu R' < mu R := Nat.lt_of_le_of_lt ((hm R' ⟨m, h⟩).2 m h) hlt
end Go.Mem
namespace Go.Sheet
def intsV (l : List Int) : List Value := l.map (Value.int .i64)
def natsV (l : List Nat) : List Value := l.map fun k : Nat => Value.int .i64 k
def boolsV (l : List Bool) : List Value := l.map Value.bool
theorem intsV_at (l : List Int) (k : Nat) (h : k < l.length) : (intsV l)[k]? = some (.int .i64 (l.getD k 0)) := by
  rw [intsV, List.getElem?_map, List.getD_eq_getElem?_getD, List.getElem?_eq_getElem h]; rfl
theorem natsV_at (l : List Nat) (k : Nat) (h : k < l.length) : (natsV l)[k]? = some (.int .i64 (l.getD k 0 : Nat)) := by
  rw [natsV, List.getElem?_map, List.getD_eq_getElem?_getD, List.getElem?_eq_getElem h]; rfl
theorem boolsV_at (l : List Bool) (k : Nat) (h : k < l.length) : (boolsV l)[k]? = some (.bool (l.getD k false)) := by
  rw [boolsV, List.getElem?_map, List.getD_eq_getElem?_getD, List.getElem?_eq_getElem h]; rfl
theorem intsV_set (l : List Int) (k : Nat) (x : Int) : (intsV l).set k (.int .i64 x) = intsV (l.set k x) := by rw [intsV, intsV, List.map_set]
theorem natsV_set (l : List Nat) (k : Nat) (x : Nat) : (natsV l).set k (.int .i64 (x : Int)) = natsV (l.set k x) := by rw [natsV, natsV, List.map_set]
theorem boolsV_set (l : List Bool) (k : Nat) (x : Bool) : (boolsV l).set k (.bool x) = boolsV (l.set k x) := by rw [boolsV, boolsV, List.map_set]
def wL (f : Nat → Nat → Int) : List Value := (List.range 5450).map (fun x => Value.int .i64 (f (x / 218) (x % 218)))
def sL (f : Nat → Int) : List Value := (List.range 218).map (fun k => Value.int .i64 (f k))
theorem wL_len (f : Nat → Nat → Int) : (wL f).length = 5450 := by rw [wL, List.length_map, List.length_range]
theorem sL_len (f : Nat → Int) : (sL f).length = 218 := by rw [sL, List.length_map, List.length_range]
def cellsM (M : Mt) : List Value := wL M.worth ++ (sL M.slot ++ ([Value.int .i64 M.rows, Value.int .i64 M.n] ++ (intsV M.row ++ (intsV M.col ++ natsV M.taken))))
theorem app_at {α : Type} {a b : List α} {n : Nat} (h : a.length = n) (k : Nat) : (a ++ b)[n + k]? = b[k]? := by
  rw [List.getElem?_append_right (by omega), h, Nat.add_sub_cancel_left]
theorem app_set {α : Type} {a b : List α} {n : Nat} (h : a.length = n) (k : Nat) (x : α) : (a ++ b).set (n + k) x = a ++ b.set k x := by
  rw [List.set_append_right _ _ (by omega), h, Nat.add_sub_cancel_left]
section
variable (M : Mt)
theorem cM_worth {r k : Nat} (hr : r < 25) (hk : k < 218) : (cellsM M)[r * 218 + k]? = some (.int .i64 (M.worth r k)) := by
  rw [cellsM, List.getElem?_append_left (by rw [wL_len]; omega), wL, List.getElem?_map, List.getElem?_range (by omega)]
  have e1 : (r * 218 + k) / 218 = r := by omega
  have e2 : (r * 218 + k) % 218 = k := by omega
  simp only [Option.map_some, e1, e2]
theorem cM_slot {k : Nat} (hk : k < 218) : (cellsM M)[5450 + k]? = some (.int .i64 (M.slot k)) := by
  rw [cellsM, app_at (wL_len _), List.getElem?_append_left (by rw [sL_len]; exact hk), sL, List.getElem?_map, List.getElem?_range hk]
  rfl
theorem cM_tail (k : Nat) : (cellsM M)[5668 + k]? = ([Value.int .i64 M.rows, Value.int .i64 M.n] ++ (intsV M.row ++ (intsV M.col ++ natsV M.taken)))[k]? := by
  rw [cellsM, show 5668 + k = 5450 + (218 + k) by omega, app_at (wL_len _), app_at (sL_len _)]
theorem cM_rows : (cellsM M)[5668]? = some (.int .i64 M.rows) := by rw [show 5668 = 5668 + 0 by rfl, cM_tail]; rfl
theorem cM_n : (cellsM M)[5669]? = some (.int .i64 M.n) := by rw [show 5669 = 5668 + 1 by rfl, cM_tail]; rfl
variable {M} (L : MLens M)
include L
theorem cM_row {j : Nat} (h : j < 25) : (cellsM M)[5670 + j]? = some (.int .i64 (M.row.getD j 0)) := by
  rw [show 5670 + j = 5668 + (2 + j) by omega, cM_tail, app_at (n := 2) rfl, List.getElem?_append_left (by rw [intsV, List.length_map, L.row]; exact h), intsV_at _ _ (by rw [L.row]; exact h)]
theorem cM_col {k : Nat} (h : k < 218) : (cellsM M)[5695 + k]? = some (.int .i64 (M.col.getD k 0)) := by
  rw [show 5695 + k = 5668 + (2 + (25 + k)) by omega, cM_tail, app_at (n := 2) rfl, app_at (by rw [intsV, List.length_map, L.row]), List.getElem?_append_left (by rw [intsV, List.length_map, L.col]; exact h), intsV_at _ _ (by rw [L.col]; exact h)]
theorem cM_taken {k : Nat} (h : k < 218) : (cellsM M)[5913 + k]? = some (.int .i64 (M.taken.getD k 0 : Nat)) := by
  rw [show 5913 + k = 5668 + (2 + (25 + (218 + k))) by omega, cM_tail, app_at (n := 2) rfl, app_at (by rw [intsV, List.length_map, L.row]), app_at (by rw [intsV, List.length_map, L.col]), natsV_at _ _ (by rw [L.taken]; exact h)]
omit L in
theorem cM_tailset (k : Nat) (x : Value) : (cellsM M).set (5668 + k) x = wL M.worth ++ (sL M.slot ++ ([Value.int .i64 M.rows, Value.int .i64 M.n] ++ (intsV M.row ++ (intsV M.col ++ natsV M.taken))).set k x) := by
  rw [cellsM, show 5668 + k = 5450 + (218 + k) by omega, app_set (wL_len _), app_set (sL_len _)]
theorem sM_row {j : Nat} (h : j < 25) (x : Int) : (cellsM M).set (5670 + j) (.int .i64 x) = cellsM { M with row := M.row.set j x } := by
  rw [show 5670 + j = 5668 + (2 + j) by omega, cM_tailset, app_set (n := 2) rfl, List.set_append_left _ _ (by rw [intsV, List.length_map, L.row]; exact h), intsV_set]
  rfl
theorem sM_col {k : Nat} (h : k < 218) (x : Int) : (cellsM M).set (5695 + k) (.int .i64 x) = cellsM { M with col := M.col.set k x } := by
  rw [show 5695 + k = 5668 + (2 + (25 + k)) by omega, cM_tailset, app_set (n := 2) rfl, app_set (by rw [intsV, List.length_map, L.row]), List.set_append_left _ _ (by rw [intsV, List.length_map, L.col]; exact h), intsV_set]
  rfl
theorem sM_taken (k : Nat) (x : Nat) : (cellsM M).set (5913 + k) (.int .i64 (x : Int)) = cellsM { M with taken := M.taken.set k x } := by
  rw [show 5913 + k = 5668 + (2 + (25 + (218 + k))) by omega, cM_tailset, app_set (n := 2) rfl, app_set (by rw [intsV, List.length_map, L.row]), app_set (by rw [intsV, List.length_map, L.col]), natsV_set]
  rfl
omit L in
theorem sM_n (x : Nat) : (cellsM M).set 5669 (.int .i64 (x : Int)) = cellsM { M with n := x } := by
  rw [show 5669 = 5668 + 1 by rfl, cM_tailset]
  rfl
omit L in
theorem map_range_set {α : Type} (f : Nat → α) (n k : Nat) (x : α) : ((List.range n).map f).set k x = (List.range n).map (fun j => if j = k then x else f j) := by
  apply List.ext_getElem?
  intro j
  rw [List.getElem?_set]
  by_cases e : k = j
  · subst e
    by_cases h : k < n
    · simp [h]
    · simp [h]
  · rw [if_neg e, List.getElem?_map, List.getElem?_map]
    by_cases h : j < n
    · rw [List.getElem?_range h]; simp [Ne.symm e]
    · rw [List.getElem?_eq_none (by simpa using h)]; rfl
omit L in
theorem sL_set (f : Nat → Int) (k : Nat) (x : Int) : (sL f).set k (.int .i64 x) = sL (fun j => if j = k then x else f j) := by
  rw [sL, map_range_set, sL]
  congr 1
  funext j
  split <;> rfl
omit L in
theorem wL_set (f : Nat → Nat → Int) {r k : Nat} (hk : k < 218) (x : Int) : (wL f).set (r * 218 + k) (.int .i64 x) = wL (fun a b => if a = r ∧ b = k then x else f a b) := by
  rw [wL, map_range_set, wL]
  congr 1
  funext j
  have e : (j = r * 218 + k) ↔ (j / 218 = r ∧ j % 218 = k) := by omega
  by_cases h : j = r * 218 + k
  · rw [if_pos h, if_pos (e.1 h)]
  · rw [if_neg h, if_neg (fun h' => h (e.2 h'))]
omit L in
theorem sM_slot {k : Nat} (h : k < 218) (x : Int) : (cellsM M).set (5450 + k) (.int .i64 x) = cellsM { M with slot := fun j => if j = k then x else M.slot j } := by
  rw [cellsM, app_set (wL_len _), List.set_append_left _ _ (by rw [sL_len]; exact h), sL_set]
  rfl
omit L in
theorem sM_worth {r k : Nat} (hr : r < 25) (hk : k < 218) (x : Int) : (cellsM M).set (r * 218 + k) (.int .i64 x) = cellsM { M with worth := fun a b => if a = r ∧ b = k then x else M.worth a b } := by
  rw [cellsM, List.set_append_left _ _ (by rw [wL_len]; omega), wL_set _ hk]
  rfl
end
end Go.Sheet
namespace Go.Mem
open Go.RowKit
/-- St, the blocks all ahead of B -/
structure StB (W : World) (B : Nat) (w : World) (L : List Asr) : Prop where
  bel : Below W.heap.size W w
  lo : W.heap.size ≤ B
  hi : B ≤ w.heap.size
  sep : Sep L w (fun b => W.heap.size ≤ b ∧ b < B)
section
variable {W w w' : World} {B : Nat} {L : List Asr}
theorem St.toB (h : St W w L) : StB W w.heap.size w L := ⟨h.1, h.size, Nat.le_refl _, h.2⟩
theorem StB.st (h : StB W B w L) : St W w L := ⟨h.bel, h.sep.mono fun b hb => ⟨hb.1, by have := h.hi; omega⟩⟩
theorem StB.ext (h : StB W B w L) (e : Below w.heap.size w w') : StB W B w' L :=
  ⟨h.bel.trans (e.mono h.bel.size), h.lo, Nat.le_trans h.hi e.size, Sep.loc h.sep e.size fun b hb => e.block b (by have := h.hi; omega)⟩
theorem StB.drew (h : StB W B w L) : StB W B w.drew L := ⟨h.bel.drew, h.lo, h.hi, Sep.loc (w' := w.drew) h.sep (Nat.le_refl _) fun _ _ => rfl⟩
theorem StB.turn {row : Option Nat} (h : StB W B w L) (hg : w.grownBy w' row) (hr : ∀ r, row = some r → B ≤ r) : StB W B w' L :=
  ⟨h.bel.grown hg h.bel.size (fun k e => by have := hr k e; have := h.lo; omega), h.lo, Nat.le_trans h.hi hg.size,
    Sep.loc h.sep hg.size fun b hb => hg.block b (by have := h.hi; omega) fun e => by have := hr b e.symm; omega⟩
theorem StB.blk_set {i g : Nat} {t : TypeId} {cs : Array Value} (h : StB W B w L) (hi : L[i]? = some (blk g t cs)) (j : Nat) (u : Value) :
    StB W B (w.setCell ⟨g, j, none⟩ u) (L.set i (blk g t (cs.setIfInBounds j u))) := by
  obtain ⟨F1, h1, ⟨h2, hF⟩, h3⟩ := Sep.upd h.sep hi
  have hg := h1 g hF
  refine ⟨h.bel.setCell (p := ⟨g, j, none⟩) hg.1 u, h.lo, by simpa [World.setCell] using h.hi, ?_⟩
  refine (h3 (w.setCell ⟨g, j, none⟩ u) (blk g t (cs.setIfInBounds j u)) F1 ⟨heap_setCell_same w g j cs t u h2, hF⟩ (by simp [World.setCell]) (fun b hb => .inl hb) (fun b _ hn => Below.heap_setCell _ _ _ _ (fun e => hn (by subst e; exact hF)))).mono ?_
  rintro b (hb | hb)
  · exact hb
  · exact h1 b hb
/-- a block that is no cells -/
def obj (g : Nat) (o : Obj) : Asr where
  holds w F := w.heap[g]? = some o ∧ F g
  loc := fun ⟨h, hF⟩ _ hk => ⟨(hk g hF).trans h, hF⟩
  mono := fun ⟨h, hF⟩ hh => ⟨h, hh _ hF⟩
theorem StB.push_obj {D : Nat} {o : Obj} (h : StB W B w L) (hD : B ≤ D) (hK : w.heap[D]? = some o) : St W w (L ++ [obj D o]) := by
  have hlt : D < w.heap.size := (Array.getElem?_eq_some_iff.1 hK).1
  refine ⟨h.bel, (h.sep.append (L' := [obj D o]) (F' := fun b => b = D) ⟨fun b => b = D, fun _ h => h, ⟨hK, rfl⟩, trivial⟩ fun b hb hb' => by omega).mono ?_⟩
  have := h.lo
  rintro b (hb | hb) <;> omega
theorem St.obj_at {D i : Nat} {o : Obj} (h : St W w L) (hi : L[i]? = some (obj D o)) : w.heap[D]? = some o := let ⟨_, _, h2, _⟩ := h.get hi; h2
theorem St.obj_set {D i : Nat} {o : Obj} (h : St W w L) (hi : L[i]? = some (obj D o)) (o' : Obj) : St W (w.putObj D o') (L.set i (obj D o')) := by
  obtain ⟨F1, h1, ⟨h2, hF⟩, h3⟩ := h.upd hi
  have hlt : D < w.heap.size := (Array.getElem?_eq_some_iff.1 h2).1
  exact h3 _ _ F1 (some D) ⟨World.putObj_heap_same hlt, hF⟩ (grownBy_putObj' w D o') (fun k hk => by cases hk; exact hF) (fun b hb => .inl hb)
end
end Go.Mem
