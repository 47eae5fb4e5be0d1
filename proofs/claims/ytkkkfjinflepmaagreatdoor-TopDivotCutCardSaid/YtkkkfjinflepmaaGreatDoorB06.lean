/- Part 6 of the walks of the golf union's program: LF1. -/
import Derived.Test.YtkkkfjinflepmaaGreatDoorB03
set_option linter.unusedVariables false
set_option linter.unusedSimpArgs false
set_option linter.unusedSectionVars false
set_option linter.constructorNameAsVariable false
/- Chapter 5: the reference's check of a field. -/
namespace Go.Adj
open Go.RowKit Go.Mem
structure PI where
  name : ByteArray
  a : Option Addr
  m : Nat
  c : Nat
  es : List EI
  co : Int
instance : Inhabited PI := ⟨⟨⟨#[]⟩, none, 0, 0, [], 0⟩⟩
def PI.cells (p : PI) : List Value := [.string p.name, .slice p.a p.m p.c, .int .i64 p.co]
def pAt (ps : List PI) (i : Nat) : PI := ps.getD i default
theorem pAt_eq {ps : List PI} {i : Nat} {x : PI} (h : ps[i]? = some x) : pAt ps i = x := by unfold pAt; simp [List.getD, h]
/-- players, as they lie in memory -/
def RdPl (w : World) (S : Nat → Prop) (v : Value) (n : Nat) (ps : List PI) : Prop :=
  Go.Mem.Rd w S 3 v n (ps.flatMap PI.cells) ∧ ∀ p ∈ ps, Go.Mem.Rd w S 2 (.slice p.a p.m p.c) p.m (p.es.flatMap EI.cells) ∧ p.name.size ≤ 9223372036854775807
theorem RdPl.below {w w' : World} {B : Nat} {v : Value} {n : Nat} {ps : List PI} (h : RdPl w (· < B) v n ps) (hb : Below B w w') : RdPl w' (· < B) v n ps :=
  ⟨h.1.below hb, fun p hp => ⟨(h.2 p hp).1.below hb, (h.2 p hp).2⟩⟩
theorem RdPl.later {w w' : World} {v : Value} {n : Nat} {ps : List PI} (h : RdPl w (· < w.heap.size) v n ps) (hb : Below w.heap.size w w') : RdPl w' (· < w'.heap.size) v n ps :=
  ⟨h.1.later hb, fun p hp => ⟨(h.2 p hp).1.later hb, (h.2 p hp).2⟩⟩
theorem RdPl.count {w : World} {S : Nat → Prop} {v : Value} {n : Nat} {ps : List PI} (h : RdPl w S v n ps) : n = ps.length := h.1.count (f := PI.cells) (size := 3) (fun _ => rfl) (by decide)
theorem RdPl.elem {w : World} {S : Nat → Prop} {A : Option Addr} {m c n k : Nat} {ps : List PI} (h : RdPl w S (.slice A m c) n ps) (hk : k < n) :
    ∃ g o x, A = some ⟨g, o, none⟩ ∧ ps[k]? = some x ∧ w.cell? ⟨g, o + k * 3, none⟩ = some (.string x.name) ∧ w.cell? ⟨g, o + k * 3 + 1, none⟩ = some (.slice x.a x.m x.c) ∧ w.cell? ⟨g, o + k * 3 + 2, none⟩ = some (.int .i64 x.co) :=
  h.1.elem3 (k := k) (fun s : PI => .string s.name) (fun s : PI => .slice s.a s.m s.c) (fun s : PI => .int .i64 s.co) (fun _ => rfl) hk
end Go.Adj
namespace Go.Proofs.YtkkkfjinflepmaaGreatDoor
open Go.RowKit Go.Mem Go.Sheet Go.Adj
def IsBo (P : Prop) (e : Ending) : Prop := ∃ b : Bool, e = .returned (.bool b) ∧ (b = true → P)
theorem isBo_no {P : Prop} : IsBo P (.returned (.bool false)) := ⟨false, rfl, fun h => by cases h⟩
theorem isBo_yes {P : Prop} (h : P) : IsBo P (.returned (.bool true)) := ⟨true, rfl, fun _ => h⟩
theorem isBo_of {P : Prop} {b : Bool} (h : b = true → P) : IsBo P (.returned (.bool b)) := ⟨b, rfl, h⟩
set_option maxRecDepth 100000 in
set_option maxHeartbeats 4000000 in
theorem shortPlayer_any (W : World) (name : ByteArray) (A : Option Addr) (m c : Nat) (es : List EI) (co : Int) (h : Rd W (· < W.heap.size) 2 (.slice A m c) m (es.flatMap EI.cells)) :
    Calls Tryz.prog 77 #[.agg #[.string name, .slice A m c, .int .i64 co]] W fun e w' => IsBo True e ∧ Below W.heap.size W w' := by
  have hn := h.le
  have hb := (Below.refl W.heap.size W).alloc (Nat.le_refl _) (.cells #[.string name, .slice A m c, .int .i64 co] 82)
  have HB := Lib.hid hb
  have c0 : (W.alloc (.cells #[.string name, .slice A m c, .int .i64 co] 82)).cell? ⟨W.heap.size, 0, none⟩ = some (.string name) := by simp
  have c1 : (W.alloc (.cells #[.string name, .slice A m c, .int .i64 co] 82)).cell? ⟨W.heap.size, 1, none⟩ = some (.slice A m c) := by simp
  have H := Lib.hid (h.later hb)
  clear h hb
  generalize hW1 : W.alloc (.cells #[.string name, .slice A m c, .int .i64 co] 82) = W1 at *
  go_enter Tryz.func77, Tryz.ntmps77
  by_cases h1 : 60 < (name.size : Int)
  · have t1 : decide (60 < (name.size : Int)) = true := by simpa using h1
    subst hW1
    clear h1
    go_wp2
    go_ret
    exact ⟨isBo_no, HB.out⟩
  have t1 : decide (60 < (name.size : Int)) = false := by simpa using h1
  by_cases h2 : 39 < (m : Int)
  · have t2 : decide (39 < (m : Int)) = true := by simpa using h2
    subst hW1
    clear h1 h2
    go_wp2
    go_ret
    exact ⟨isBo_no, HB.out⟩
  have t2 : decide (39 < (m : Int)) = false := by simpa using h2
  clear h1 h2
  subst hW1
  go_wp2
  generalize W.alloc (.cells #[.string name, .slice A m c, .int .i64 co] 82) = W1 at *
  go_loopw [3] (fun i w' => ∃ k : Nat, k ≤ m ∧ i = .int .i64 k ∧ w' = W1) (fun i _ => m - (intOf i).toNat)
  case atStart => exact ⟨0, Nat.zero_le _, rfl, rfl⟩
  case round =>
    obtain ⟨k, hk, rfl, rfl⟩ := hrel
    by_cases hlt : k < m
    · obtain ⟨b, o, x, rfl, hx, d0, d1⟩ := H.out.elem2 (k := k) (fun s : EI => .int .i64 s.s) (fun s : EI => .string s.m) (fun _ => rfl) hlt
      clear hx
      obtain ⟨xs, xm⟩ := x
      simp only at d0 d1
      by_cases h3 : 60 < (xm.size : Int)
      · have t3 : decide (60 < (xm.size : Int)) = true := by simpa using h3
        go_wp2
        go_ret
        exact ⟨isBo_no, HB.out⟩
      · have t3 : decide (60 < (xm.size : Int)) = false := by simpa using h3
        clear h3
        go_wp2
        go_roundw
        case rel => exact ⟨k + 1, by omega, by go_num, by first | rfl | trivial⟩
        case measure => simp [intOf]; omega
    · go_wp2
      go_ret
      exact ⟨isBo_yes trivial, HB.out⟩
set_option maxRecDepth 100000 in
set_option maxHeartbeats 4000000 in
theorem shortPlayers_any (W : World) (v : Value) (n : Nat) (ps : List PI) (h : RdPl W (· < W.heap.size) v n ps) :
    Calls Tryz.prog 30 #[v, .int .i64 5] W fun e w' => IsBo (n ≤ 5 ∨ 200 < n) e ∧ Below W.heap.size W w' := by
  have hn := h.1.le
  obtain ⟨A, c, rfl, _, _, _⟩ := h.1.open_
  have H := Lib.hid h
  clear h
  go_enter Tryz.func30, Tryz.ntmps30
  by_cases h1 : 5 < (n : Int)
  · have t1 : decide (5 < (n : Int)) = true := by simpa using h1
    by_cases h2 : (n : Int) ≤ 200
    · have t2 : decide ((n : Int) ≤ 200) = true := by simpa using h2
      go_wp2
      go_ret
      exact ⟨isBo_no, Below.refl _ _⟩
    · have t2 : decide ((n : Int) ≤ 200) = false := by simpa using h2
      have HN : Hid (n ≤ 5 ∨ 200 < n) := .inr (by omega)
      by_cases h3 : 203 < (n : Int)
      · have t3 : decide (203 < (n : Int)) = true := by simpa using h3
        go_wp2
        go_ret
        exact ⟨isBo_no, Below.refl _ _⟩
      have t3 : decide (203 < (n : Int)) = false := by simpa using h3
      clear h1 h2 h3
      go_wp2
      go_loopw [5] (fun i w' => ∃ k : Nat, k ≤ n ∧ i = .int .i64 k ∧ Below W.heap.size W w') (fun i _ => n - (intOf i).toNat)
      case atStart => exact ⟨0, Nat.zero_le _, rfl, Below.refl _ _⟩
      case round =>
        obtain ⟨k, hk, rfl, hbw⟩ := hrel
        have HB := Lib.hid hbw
        by_cases hlt : k < n
        · obtain ⟨b, o, x, rfl, hx, d0, d1, d2⟩ := (H.out.later hbw).elem hlt
          have HS := Lib.hid (shortPlayer_any wr x.name x.a x.m x.c x.es x.co ((H.out.later hbw).2 x (List.mem_of_getElem? hx)).1)
          clear hx hbw
          go_wp2_with (go_at_call 77; refine HS.out.mono ?_; rintro e w' ⟨⟨bo, rfl, _⟩, hb2⟩; have HB2 := Lib.hid hb2; clear hb2)
          · go_ret
            exact ⟨isBo_no, HB.out.trans (HB2.out.mono HB.out.size)⟩
          · go_roundw
            case rel => exact ⟨k + 1, by omega, by go_num, HB.out.trans (HB2.out.mono HB.out.size)⟩
            case measure => simp [intOf]; omega
        · clear hbw
          go_wp2
          go_ret
          exact ⟨isBo_yes HN.out, HB.out⟩
  · have t1 : decide (5 < (n : Int)) = false := by simpa using h1
    have HN : Hid (n ≤ 5 ∨ 200 < n) := .inl (by omega)
    have t3 : decide (203 < (n : Int)) = false := by simp; omega
    clear h1
    go_wp2
    go_loopw [5] (fun i w' => ∃ k : Nat, k ≤ n ∧ i = .int .i64 k ∧ Below W.heap.size W w') (fun i _ => n - (intOf i).toNat)
    case atStart => exact ⟨0, Nat.zero_le _, rfl, Below.refl _ _⟩
    case round =>
      obtain ⟨k, hk, rfl, hbw⟩ := hrel
      have HB := Lib.hid hbw
      by_cases hlt : k < n
      · obtain ⟨b, o, x, rfl, hx, d0, d1, d2⟩ := (H.out.later hbw).elem hlt
        have HS := Lib.hid (shortPlayer_any wr x.name x.a x.m x.c x.es x.co ((H.out.later hbw).2 x (List.mem_of_getElem? hx)).1)
        clear hx hbw
        go_wp2_with (go_at_call 77; refine HS.out.mono ?_; rintro e w' ⟨⟨bo, rfl, _⟩, hb2⟩; have HB2 := Lib.hid hb2; clear hb2)
        · go_ret
          exact ⟨isBo_no, HB.out.trans (HB2.out.mono HB.out.size)⟩
        · go_roundw
          case rel => exact ⟨k + 1, by omega, by go_num, HB.out.trans (HB2.out.mono HB.out.size)⟩
          case measure => simp [intOf]; omega
      · clear hbw
        go_wp2
        go_ret
        exact ⟨isBo_yes HN.out, HB.out⟩
end Go.Proofs.YtkkkfjinflepmaaGreatDoor
