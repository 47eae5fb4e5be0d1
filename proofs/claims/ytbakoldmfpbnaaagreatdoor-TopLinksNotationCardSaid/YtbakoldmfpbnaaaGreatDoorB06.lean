/- Part 6 of the walks of the golf union's program: LN1, CopyS, TailP, LN2. -/
import Derived.Test.YtbakoldmfpbnaaaGreatDoorB01
import Derived.Test.YtbakoldmfpbnaaaGreatDoorB05
import Derived.Lib.Split
import Derived.Lib.Join
import Derived.Lib.AtoiErrMem
import Derived.Test.YtbakoldmfpbnaaaGreatDoorB02
import Derived.Laws.CopyOwn
import Derived.Test.YtbakoldmfpbnaaaGreatDoorB03
set_option linter.unusedVariables false
set_option linter.unusedSimpArgs false
set_option linter.unusedSectionVars false
set_option linter.constructorNameAsVariable false
/- Chapter 1: words of the notation, numbers of up to two digits. -/
namespace Go.Adj
open Go.RowKit Go.Mem
/-- the digits of a number below 100 -/
def dgL (k : Nat) : List UInt8 := if k < 10 then [UInt8.ofNat (48 + k)] else [UInt8.ofNat (48 + k / 10), UInt8.ofNat (48 + k % 10)]
theorem dg_eq {k : Nat} (h : k < 100) : Lib.decDigits k = dgL k := by
  unfold dgL
  by_cases h1 : k < 10
  · rw [Lib.decDigits, dif_pos h1, if_pos h1]
  · rw [Lib.decDigits, dif_neg h1, if_neg h1, Lib.decDigits, dif_pos (show k / 10 < 10 by omega)]
    rfl
def cutD : List UInt8 := [48, 49, 50, 51, 52, 53, 54, 55, 56, 57]
/-- what is so of all numbers from 1 to 99 -/
def numOk (k : Nat) : Bool := k == 0 || (Lib.trimS (dgL k) cutD == [] && Lib.atoi (dgL k) == some (k : Int) && (dgL k).head? != some 48 && (dgL k).length ≤ 2 && decide (1 ≤ (dgL k).length))
theorem num_all : ∀ k : Fin 100, numOk k.val = true := by decide +kernel
/-- the word of an entry -/
def wE (x : EI) : List UInt8 := if x.m = bx then [120] else if x.m = bd then [45] else if x.m = bc then dgL x.s.toNat ++ [99] else dgL x.s.toNat
def wB (l : List UInt8) : ByteArray := ⟨l.toArray⟩
theorem wB_size (l : List UInt8) : (wB l).size = l.length := by simp [wB, ByteArray.size]
theorem wB_list (l : List UInt8) : (wB l).data.toList = l := rfl
end Go.Adj
namespace Go.Proofs.YtbakoldmfpbnaaaGreatDoor
open Go.RowKit Go.Mem Go.Sheet Go.Adj Go.Shelf
theorem digits_const : (⟨#[48, 49, 50, 51, 52, 53, 54, 55, 56, 57]⟩ : ByteArray).data.toList = cutD := rfl
set_option maxRecDepth 100000 in
set_option maxHeartbeats 1000000 in
theorem isDecimal_one (a : UInt8) (W : World) (h : Lib.trimS [a] cutD = []) (h0 : (a.toNat : Int) ≠ 48) :
    Calls Tryz.prog 94 #[.string ⟨#[a]⟩] W fun e w' => e = .returned (.bool true) ∧ Below W.heap.size W w' := by
  have HT : Hid (∀ w, Calls Tryz.prog 115 #[.string ⟨#[a]⟩, .string ⟨#[48, 49, 50, 51, 52, 53, 54, 55, 56, 57]⟩] w fun e w' => e = .returned (.string ⟨#[]⟩) ∧ Below w.heap.size w w') := fun w => by
    have := Tryz.strings_Trim ⟨#[a]⟩ ⟨#[48, 49, 50, 51, 52, 53, 54, 55, 56, 57]⟩ w (by show 1 ≤ _; omega) (by decide) (ascii_of_all (by decide))
    rw [show (⟨#[a]⟩ : ByteArray).data.toList = [a] from rfl, digits_const, h] at this
    exact this
  go_enter Tryz.func94, Tryz.ntmps94
  go_wp2_with (go_at_call 115; refine (HT.out _).mono ?_; rintro e w' ⟨rfl, hb⟩)
  go_ret
  exact ⟨rfl, hb⟩
set_option maxRecDepth 100000 in
set_option maxHeartbeats 1000000 in
theorem isDecimal_two (a b : UInt8) (W : World) (h : Lib.trimS [a, b] cutD = []) (h0 : (a.toNat : Int) ≠ 48) :
    Calls Tryz.prog 94 #[.string ⟨#[a, b]⟩] W fun e w' => e = .returned (.bool true) ∧ Below W.heap.size W w' := by
  have HT : Hid (∀ w, Calls Tryz.prog 115 #[.string ⟨#[a, b]⟩, .string ⟨#[48, 49, 50, 51, 52, 53, 54, 55, 56, 57]⟩] w fun e w' => e = .returned (.string ⟨#[]⟩) ∧ Below w.heap.size w w') := fun w => by
    have := Tryz.strings_Trim ⟨#[a, b]⟩ ⟨#[48, 49, 50, 51, 52, 53, 54, 55, 56, 57]⟩ w (by show 2 ≤ _; omega) (by decide) (ascii_of_all (by decide))
    rw [show (⟨#[a, b]⟩ : ByteArray).data.toList = [a, b] from rfl, digits_const, h] at this
    exact this
  go_enter Tryz.func94, Tryz.ntmps94
  go_wp2_with (go_at_call 115; refine (HT.out _).mono ?_; rintro e w' ⟨rfl, hb⟩)
  go_ret
  exact ⟨rfl, hb⟩
theorem head48 {a : UInt8} {l : List UInt8} (h : (a.toNat : Int) = 48) : (a :: l).head? = some 48 := by
  have e : a.toNat = (48 : UInt8).toNat := by
    have : a.toNat = 48 := by omega
    rw [this]; rfl
  rw [List.head?_cons, UInt8.toNat_inj.1 e]
theorem isDecimal_dg {k : Nat} (hk : 1 ≤ k ∧ k < 100) (W : World) : Calls Tryz.prog 94 #[.string ⟨(dgL k).toArray⟩] W fun e w' => e = .returned (.bool true) ∧ Below W.heap.size W w' := by
  have h := num_all ⟨k, hk.2⟩
  simp only [numOk, Bool.or_eq_true, Bool.and_eq_true, beq_iff_eq, decide_eq_true_eq, bne_iff_ne] at h
  rcases h with h | ⟨⟨⟨⟨h1, _⟩, h3⟩, _⟩, _⟩
  · omega
  by_cases h10 : k < 10
  · have e : dgL k = [UInt8.ofNat (48 + k)] := if_pos h10
    rw [e] at h1 h3 ⊢
    generalize UInt8.ofNat (48 + k) = a at *
    exact isDecimal_one a W h1 fun e => h3 (head48 e)
  · have e : dgL k = [UInt8.ofNat (48 + k / 10), UInt8.ofNat (48 + k % 10)] := if_neg h10
    rw [e] at h1 h3 ⊢
    generalize UInt8.ofNat (48 + k / 10) = a at *
    exact isDecimal_two a _ W h1 fun e => h3 (head48 e)
set_option maxRecDepth 100000 in
set_option maxHeartbeats 1000000 in
theorem integer_dg {k : Nat} (hk : 1 ≤ k ∧ k < 100) (W : World) : Calls Tryz.prog 72 #[.string ⟨(dgL k).toArray⟩] W fun e w' => e = .returned (.tuple #[.int .i64 k, .bool true]) ∧ Below W.heap.size W w' := by
  have h := num_all ⟨k, hk.2⟩
  simp only [numOk, Bool.or_eq_true, Bool.and_eq_true, beq_iff_eq, decide_eq_true_eq, bne_iff_ne] at h
  rcases h with h | ⟨⟨⟨⟨_, h2⟩, _⟩, h4⟩, h5⟩
  · omega
  have hsz : (⟨(dgL k).toArray⟩ : ByteArray).size = (dgL k).length := by simp [ByteArray.size]
  have HD := Lib.hid (fun w => isDecimal_dg hk w)
  have HA : Hid (∀ w, Calls Tryz.prog 95 #[.string ⟨(dgL k).toArray⟩] w fun e w' => e = .returned (.tuple #[.int .i64 k, .nilIface]) ∧ Below w.heap.size w w') := fun w =>
    (Tryz.strconv_Atoi ⟨(dgL k).toArray⟩ k (by rw [hsz]; omega) (by simpa using h2) w).mono fun e w' ⟨he, t, ht⟩ => ⟨he, ht ▸ Lib.bytesWorld_below _ _ _⟩
  have t1 : decide (9 < ((⟨(dgL k).toArray⟩ : ByteArray).size : Int)) = false := by rw [hsz]; simp; omega
  generalize (⟨(dgL k).toArray⟩ : ByteArray) = s at *
  clear hsz h2 h4 h5
  go_enter Tryz.func72, Tryz.ntmps72
  go_wp2_with (first
    | (go_at_call 94; refine (HD.out _).mono ?_; rintro e w' ⟨rfl, hb⟩; have HB := Lib.hid hb; clear hb)
    | (go_at_call 95; refine (HA.out _).mono ?_; rintro e w2 ⟨rfl, hb2⟩; have HB2 := Lib.hid hb2; clear hb2))
  go_quiet (fail)
  go_wp2
  go_ret2
  exact ⟨rfl, below_drewN (HB.out.trans (HB2.out.mono HB.out.size)) _⟩
/-- what is so of the word of an entry with strokes -/
def playOk (k : Nat) : Bool := k == 0 || (Lib.trimSuffix (dgL k) [99] == dgL k && !Lib.hasSuffix (dgL k) [99] && Lib.trimSuffix (dgL k ++ [99]) [99] == dgL k && Lib.hasSuffix (dgL k ++ [99]) [99] && dgL k != [120] && dgL k != [45] && dgL k ++ [99] != [120] && dgL k ++ [99] != [45])
theorem play_all : ∀ k : Fin 100, playOk k.val = true := by decide +kernel
theorem wB_ne {l r : List UInt8} (h : l ≠ r) : ((wB l).toList == r) = false := by
  refine bytes_ne fun e => h ?_
  have : (wB l).data.toList = r := by rw [e]
  exact this
theorem res_entry (tmps : Array Value) (w : World) (g : Nat) (a b v : Value) (hp : tmps.getD 2 undef = .pointer (some ⟨g, 0, none⟩)) (hv : tmps.getD 3 undef = v) (h0 : w.cell? ⟨g, 0, none⟩ = some a) (h1 : w.cell? ⟨g, 1, none⟩ = some b) :
    (results Tryz.f73 tmps).run Tryz.prog w = .ok (.tuple #[.agg #[a, b], v]) w := by
  have hp' : tmps[2]?.getD undef = .pointer (some ⟨g, 0, none⟩) := by simpa using hp
  have hv' : tmps[3]?.getD undef = v := by simpa using hv
  simp [results, Tryz.results73, hp', hv', h0, h1, go_sem]
set_option maxRecDepth 100000 in
set_option maxHeartbeats 2000000 in
theorem entry_x (W : World) : Calls Tryz.prog 73 #[.string ⟨#[120]⟩] W fun e w' => e = .returned (.tuple #[.agg #[.int .i64 0, .string ⟨#[120]⟩], .bool true]) ∧ Below W.heap.size W w' := by
  have hb := (Below.refl W.heap.size W).alloc (Nat.le_refl _) (.cells #[.int .i64 0, .string ⟨#[120]⟩] 54)
  go_enter Tryz.func73, Tryz.ntmps73
  go_wp2_with fail
  exact bodyPost_ret (res_entry _ _ W.heap.size _ _ _ rfl rfl (by simp) (by simp)) rfl ⟨rfl, hb⟩
set_option maxRecDepth 100000 in
set_option maxHeartbeats 2000000 in
theorem entry_d (W : World) : Calls Tryz.prog 73 #[.string ⟨#[45]⟩] W fun e w' => e = .returned (.tuple #[.agg #[.int .i64 0, .string ⟨#[45]⟩], .bool true]) ∧ Below W.heap.size W w' := by
  have hb := (Below.refl W.heap.size W).alloc (Nat.le_refl _) (.cells #[.int .i64 0, .string ⟨#[45]⟩] 54)
  go_enter Tryz.func73, Tryz.ntmps73
  go_wp2_with fail
  exact bodyPost_ret (res_entry _ _ W.heap.size _ _ _ rfl rfl (by simp) (by simp)) rfl ⟨rfl, hb⟩
set_option maxRecDepth 100000 in
set_option maxHeartbeats 2000000 in
theorem entry_o {k : Nat} (hk : 1 ≤ k ∧ k < 100) (W : World) : Calls Tryz.prog 73 #[.string (wB (dgL k))] W fun e w' => e = .returned (.tuple #[.agg #[.int .i64 k, .string ⟨#[]⟩], .bool true]) ∧ Below W.heap.size W w' := by
  have h := play_all ⟨k, hk.2⟩
  simp only [playOk, Bool.or_eq_true, Bool.and_eq_true, beq_iff_eq, bne_iff_ne, Bool.not_eq_true'] at h
  rcases h with h | ⟨⟨⟨⟨⟨⟨⟨h1, h2⟩, _⟩, _⟩, h5⟩, h6⟩, _⟩, _⟩
  · omega
  have t1 := wB_ne h5
  have t2 := wB_ne h6
  have hd := (num_all ⟨k, hk.2⟩)
  have HS : Hid (∀ w, Calls Tryz.prog 96 #[.string (wB (dgL k)), .string ⟨#[99]⟩] w fun e w' => e = .returned (.tuple #[.string (wB (dgL k)), .bool false]) ∧ w = w') := fun w => by
    have := Tryz.strings_CutSuffix (wB (dgL k)) ⟨#[99]⟩ w (by rw [wB_size]; unfold dgL; split <;> simp)
    rw [wB_list, show (⟨#[99]⟩ : ByteArray).data.toList = [99] from rfl, h1, h2] at this
    exact this.mono fun e w' ⟨a, b⟩ => ⟨a, b.symm⟩
  have HI : Hid (∀ w, Calls Tryz.prog 72 #[.string (wB (dgL k))] w fun e w' => e = .returned (.tuple #[.int .i64 k, .bool true]) ∧ Below w.heap.size w w') := fun w => integer_dg hk w
  generalize wB (dgL k) = s at *
  have hb := (Below.refl W.heap.size W).alloc (Nat.le_refl _) (.cells #[.int .i64 0, .string ⟨#[]⟩] 54)
  have HB := Lib.hid hb
  clear hb hd h1 h2 h5 h6
  go_enter Tryz.func73, Tryz.ntmps73
  go_wp2_with fail
  go_at_call 96
  refine (HS.out _).mono ?_
  rintro e w1 ⟨rfl, rfl⟩
  go_wp2_with fail
  go_at_call 72
  refine (HI.out _).mono ?_
  rintro e w2 ⟨rfl, hb2⟩
  have S0 := ((St.refl W).blk_new #[.int .i64 0, .string ⟨#[]⟩] 54).ext hb2
  simp only [List.nil_append] at S0
  have c0 := S0.blk_cell (i := 0) rfl 0
  have c1 := S0.blk_cell (i := 0) rfl 1
  have f0 := S0.blk_frozen (i := 0) rfl 0
  have f1 := S0.blk_frozen (i := 0) rfl 1
  have hlt := World.block_lt_of_cell? _ _ c0
  have HS0 := Lib.hid S0
  clear hb2 S0
  go_wp2_with fail
  have SE := ((HS0.out.blk_set (i := 0) rfl 0 (.int .i64 k)).blk_set (i := 0) rfl 1 (.string ⟨#[]⟩)).alloc (.cells #[.int .i64 k, .string ⟨#[]⟩] 54)
  exact bodyPost_ret (res_entry _ _ W.heap.size _ _ _ rfl rfl (SE.blk_cell (i := 0) rfl 0) (SE.blk_cell (i := 0) rfl 1)) rfl ⟨rfl, SE.bel⟩
set_option maxRecDepth 100000 in
set_option maxHeartbeats 2000000 in
theorem entry_c {k : Nat} (hk : 1 ≤ k ∧ k < 100) (W : World) : Calls Tryz.prog 73 #[.string (wB (dgL k ++ [99]))] W fun e w' => e = .returned (.tuple #[.agg #[.int .i64 k, .string ⟨#[99]⟩], .bool true]) ∧ Below W.heap.size W w' := by
  have h := play_all ⟨k, hk.2⟩
  simp only [playOk, Bool.or_eq_true, Bool.and_eq_true, beq_iff_eq, bne_iff_ne, Bool.not_eq_true'] at h
  rcases h with h | ⟨⟨⟨⟨⟨⟨⟨_, _⟩, h1⟩, h2⟩, _⟩, _⟩, h5⟩, h6⟩
  · omega
  have t1 := wB_ne h5
  have t2 := wB_ne h6
  have hd := (num_all ⟨k, hk.2⟩)
  have HS : Hid (∀ w, Calls Tryz.prog 96 #[.string (wB (dgL k ++ [99])), .string ⟨#[99]⟩] w fun e w' => e = .returned (.tuple #[.string (wB (dgL k)), .bool true]) ∧ w = w') := fun w => by
    have := Tryz.strings_CutSuffix (wB (dgL k ++ [99])) ⟨#[99]⟩ w (by rw [wB_size]; unfold dgL; split <;> simp)
    rw [wB_list, show (⟨#[99]⟩ : ByteArray).data.toList = [99] from rfl, h1, h2] at this
    exact this.mono fun e w' ⟨a, b⟩ => ⟨a, b.symm⟩
  have HI : Hid (∀ w, Calls Tryz.prog 72 #[.string (wB (dgL k))] w fun e w' => e = .returned (.tuple #[.int .i64 k, .bool true]) ∧ Below w.heap.size w w') := fun w => integer_dg hk w
  generalize wB (dgL k ++ [99]) = s at *
  generalize wB (dgL k) = s0 at *
  have hb := (Below.refl W.heap.size W).alloc (Nat.le_refl _) (.cells #[.int .i64 0, .string ⟨#[]⟩] 54)
  have HB := Lib.hid hb
  clear hb hd h1 h2 h5 h6
  go_enter Tryz.func73, Tryz.ntmps73
  go_wp2_with fail
  go_at_call 96
  refine (HS.out _).mono ?_
  rintro e w1 ⟨rfl, rfl⟩
  go_wp2_with fail
  go_at_call 72
  refine (HI.out _).mono ?_
  rintro e w2 ⟨rfl, hb2⟩
  have S0 := ((St.refl W).blk_new #[.int .i64 0, .string ⟨#[]⟩] 54).ext hb2
  simp only [List.nil_append] at S0
  have c0 := S0.blk_cell (i := 0) rfl 0
  have c1 := S0.blk_cell (i := 0) rfl 1
  have f0 := S0.blk_frozen (i := 0) rfl 0
  have f1 := S0.blk_frozen (i := 0) rfl 1
  have hlt := World.block_lt_of_cell? _ _ c0
  have HS0 := Lib.hid S0
  clear hb2 S0
  go_wp2_with fail
  have SE := ((HS0.out.blk_set (i := 0) rfl 0 (.int .i64 k)).blk_set (i := 0) rfl 1 (.string ⟨#[99]⟩)).alloc (.cells #[.int .i64 k, .string ⟨#[99]⟩] 54)
  exact bodyPost_ret (res_entry _ _ W.heap.size _ _ _ rfl rfl (SE.blk_cell (i := 0) rfl 0) (SE.blk_cell (i := 0) rfl 1)) rfl ⟨rfl, SE.bel⟩
theorem entry_ok (x : EI) (h : GoodE x) (W : World) : Calls Tryz.prog 73 #[.string (wB (wE x))] W fun e w' => e = .returned (.tuple #[.agg #[.int .i64 x.s, .string x.m], .bool true]) ∧ Below W.heap.size W w' := by
  obtain ⟨s, m⟩ := x
  rcases h with ⟨hm | hm, h1, h2⟩ | ⟨hm | hm, hs⟩
  · change m = be at hm
    subst hm
    obtain ⟨k, rfl⟩ : ∃ k : Nat, s = k := ⟨s.toNat, by dsimp only at h1; omega⟩
    have e : wE ⟨(k : Int), be⟩ = dgL k := by unfold wE; rw [if_neg (by show be ≠ bx; decide), if_neg (by show be ≠ bd; decide), if_neg (by show be ≠ bc; decide)]; rfl
    rw [e]
    exact entry_o (by dsimp only at h1 h2; omega) W
  · change m = bc at hm
    subst hm
    obtain ⟨k, rfl⟩ : ∃ k : Nat, s = k := ⟨s.toNat, by dsimp only at h1; omega⟩
    have e : wE ⟨(k : Int), bc⟩ = dgL k ++ [99] := by unfold wE; rw [if_neg (by show bc ≠ bx; decide), if_neg (by show bc ≠ bd; decide), if_pos rfl]; rfl
    rw [e]
    exact entry_c (by dsimp only at h1 h2; omega) W
  · change m = bx at hm
    change s = 0 at hs
    subst hm hs
    exact entry_x W
  · change m = bd at hm
    change s = 0 at hs
    subst hm hs
    exact entry_d W
end Go.Proofs.YtbakoldmfpbnaaaGreatDoor
/- copy of elements of several cells; a slice filled with copies of one element. -/
namespace Go.Mem
open Go Go.RowKit
theorem run_copy_sz {P : Program} (w : World) (dT sT ty elem : TypeId) (g o dLen dCap : Nat) (a : Addr) (sLen sCap size : Nat) (cur : Array Value) (t : TypeId) (cs : List Value)
    (hu : P.underlying dT = some (.slice elem)) (hs : (P.info? elem).map (·.size) = some size)
    (hg : w.heap[g]? = some (.cells cur t (0, 0))) (hn : cs.length = Nat.min sLen dLen * size)
    (hsrc : ∀ j v, cs[j]? = some v → w.cell? (a.add j) = some v) (hfit : o + cs.length ≤ cur.size) (h1 : ∀ v ∈ cs, v.oneCell' = true) :
    (Builtin.copy_ #[dT, sT] ty #[.slice (some ⟨g, o, none⟩) dLen dCap, .slice (some a) sLen sCap]).run P w =
      .ok (goInt (Nat.min sLen dLen)) (w.setRow g (cur.toList.take o ++ cs ++ cur.toList.drop (o + cs.length)).toArray) := by
  have hl := run_loadCells_list (P := P) w a cs hsrc
  have hst := run_storeCells_at P g o t cs 0 cur w hg (by simpa using hfit) h1
  cases hq : P.info? elem with
  | none => simp [hq] at hs
  | some i =>
    have hi : i.size = size := by simpa [hq] using hs
    simp [Builtin.copy_, run_underlying hu, Builtin.lenOf, Builtin.firstCells, sizeOf, typeInfo, hq, hi, ← hn, hl, hst]
theorem wpList_copy_sz {P : Program} {w : World} {ops : Array Oper} {rest : List Oper} {o : Oper} {a : Act} {Q : Exit → Act → World → Prop} (hgd : o.guard = none) (d s : Operand) (dT sT : TypeId)
    (ho : o.op = .call { callee := .builtin .copy, args := #[d, s], argTypes := #[dT, sT] }) (elem : TypeId) (size : Nat) (hu : P.underlying dT = some (.slice elem)) (hsz : (P.info? elem).map (·.size) = some size)
    (ad : Addr) (dLen dCap sLen sCap : Nat) (g off : Nat) (hd : a.eval d = .slice (some ⟨g, off, none⟩) dLen dCap) (hs : a.eval s = .slice (some ad) sLen sCap)
    (cur : List Value) (t : TypeId) (hg : w.heap[g]? = some (.cells cur.toArray t (0, 0))) (cs : List Value) (hn : cs.length = Nat.min sLen dLen * size)
    (hsrc : ∀ j v, cs[j]? = some v → w.cell? (ad.add j) = some v)
    (hfit : off + cs.length ≤ cur.length) (h1 : ∀ v ∈ cs, v.oneCell' = true) (B : Nat) (w0 : World) (hb : Below B w0 w) (hBg : B ≤ g)
    (h : ∀ w', Hid (w'.heap[g]? = some (.cells (splice cur off cs).toArray t (0, 0))) → Below B w0 w' → wpList P ops Q rest (a.put o.dst (goInt (Nat.min sLen dLen))) w') :
    wpList P ops Q (o :: rest) a w := by
  refine wpList_plain hgd fun K hK => ?_
  have hrun := run_copy_sz (P := P) w dT sT o.type elem g off dLen dCap ad sLen sCap size cur.toArray t cs hu hsz hg hn hsrc (by simpa using hfit) h1
  unfold Oper.wp
  simp [execOp, ho, resolve, invoke, builtin, hd, hs, hrun, Result.andThen]
  exact hK _ _ (h _ (show _ = _ by simpa [splice] using setRow_heap w g _ _ t _ hg) (below_setRow hb hBg _))
/-- k copies of u, the rest z -/
def fillU (u z : List Value) (n k : Nat) : List Value := (List.replicate k u).flatten ++ (List.replicate (n - k) z).flatten
theorem rep_len (u : List Value) (k : Nat) : (List.replicate k u).flatten.length = k * u.length := by simp
theorem fillU_len {u z : List Value} (hz : z.length = u.length) {n k : Nat} (h : k ≤ n) : (fillU u z n k).length = n * u.length := by
  rw [fillU, List.length_append, rep_len, rep_len, hz, ← Nat.add_mul]
  congr 1; omega
theorem rep_add (u : List Value) (a b : Nat) : (List.replicate (a + b) u).flatten = (List.replicate a u).flatten ++ (List.replicate b u).flatten := by
  rw [← List.replicate_append_replicate, List.flatten_append]
theorem fillU_splice {u z : List Value} (hz : z.length = u.length) {n k m : Nat} (h : k + m ≤ n) : splice (fillU u z n k) (k * u.length) (List.replicate m u).flatten = fillU u z n (k + m) := by
  have e1 : (fillU u z n k).take (k * u.length) = (List.replicate k u).flatten := by
    rw [fillU, List.take_append_of_le_length (by rw [rep_len]; exact Nat.le_refl _), List.take_of_length_le (by rw [rep_len]; exact Nat.le_refl _)]
  have e2 : (fillU u z n k).drop (k * u.length + (List.replicate m u).flatten.length) = (List.replicate (n - (k + m)) z).flatten := by
    have h1 : fillU u z n k = ((List.replicate k u).flatten ++ (List.replicate m z).flatten) ++ (List.replicate (n - (k + m)) z).flatten := by
      rw [fillU, List.append_assoc, ← rep_add, show m + (n - (k + m)) = n - k by omega]
    have h2 : k * u.length + (List.replicate m u).flatten.length = ((List.replicate k u).flatten ++ (List.replicate m z).flatten).length := by
      rw [List.length_append, rep_len, rep_len, rep_len, hz]
    rw [h1, h2, List.drop_left]
  rw [splice, e1, e2, fillU, rep_add, List.append_assoc]
theorem fillU_at {u z : List Value} {n k m j : Nat} (hm : m ≤ k) {v : Value} (h : (List.replicate m u).flatten[j]? = some v) : (fillU u z n k)[j]? = some v := by
  have hj := (List.getElem?_eq_some_iff.1 h).1
  rw [fillU, show k = m + (k - m) by omega, rep_add, List.append_assoc, List.getElem?_append_left hj]
  exact h
theorem made_rep (z : Array Value) (hz : 0 < z.size) (n : Nat) : (madeCells z (n * z.size)).toList = (List.replicate n z.toList).flatten := by
  have e : (List.replicate n z.toList).flatten = (List.range n).flatMap fun _ => z.toList := by
    have : List.replicate n z.toList = (List.range n).map fun _ => z.toList := by
      rw [List.map_const', List.length_range]
    rw [this, List.flatMap_def]
  rw [e]
  apply List.ext_getElem?
  intro i
  by_cases hi : i < n * z.size
  · have hd : i / z.size < n := (Nat.div_lt_iff_lt_mul hz).2 hi
    have hm : i % z.size < z.size := Nat.mod_lt _ hz
    have := flatMap_at (f := fun _ : Nat => z.toList) (s := z.size) (l := List.range n) (k := i / z.size) (j := i % z.size) (x := i / z.size) (u := z[i % z.size]) (fun _ _ => by simp) (List.getElem?_range hd) (by simp [hm])
    rw [Nat.mul_comm, Nat.div_add_mod] at this
    rw [this]
    simp only [madeCells, List.getElem?_toArray, Array.getElem?_toList, Array.getElem?_map]
    rw [Array.getElem?_range]
    simp only [hi, if_true, Option.map_some]
    rw [getElem!_pos z (i % z.size) hm]
  · rw [List.getElem?_eq_none (by simp [madeCells]; omega), List.getElem?_eq_none (by rw [flatMap_len (size := z.size) (fun _ => by simp) _]; simp; omega)]
theorem row_block2 {W w : World} {L : List Asr} {i size : Nat} {e : TypeId} {g n : Nat} {xs : List Value} (h : St W w L) (hi : L[i]? = some (row e size (.slice (some ⟨g, 0, none⟩) n n) n xs)) : w.heap[g]? = some (.cells xs.toArray e (0, 0)) := by
  have ho := h.row_own hi
  rcases ho.2 with ⟨h1, _⟩ | ⟨g', cap, cur, h1, _, hg, _, _, hs, ht⟩
  · cases h1
  · injection h1 with e1 e2 e3
    injection e1 with e1
    injection e1 with e1 _
    subst e1 e3
    rw [List.take_of_length_le (by simp [hs])] at ht
    rw [hg, ← ht]
theorem st_of_block2 {W w : World} {e : TypeId} {g n size : Nat} {xs : List Value} (hb : Below W.heap.size W w) (hg : W.heap.size ≤ g) (h : w.heap[g]? = some (.cells xs.toArray e (0, 0))) (hn : xs.length = n * size) (hm : n ≤ maxLen) : St W w [row e size (.slice (some ⟨g, 0, none⟩) n n) n xs] := by
  have hlt := (Array.getElem?_eq_some_iff.1 h).1
  refine ⟨hb, fun b => b = g, fun b hb' => by subst hb'; exact ⟨hg, hlt⟩, ⟨⟨hn, .inr ⟨g, n, xs.toArray, rfl, Nat.zero_le _, h, Nat.le_refl _, hm, by simp [hn], ?_⟩⟩, fun g' hg' => by simpa [Value.ownBlock] using hg'.symm⟩, trivial⟩
  rw [List.take_of_length_le (by simp [hn])]
end Go.Mem
/- A drawn region: first m operations that have one value in whatever world; then operations that have one value in every world of a class (calls among them); then a forced tail. -/
namespace Go.Mem
open Go Go.RowKit
variable {P : Program} {ops : Array Oper} {md : Region.Mode} {C : World → Prop}
section
variable {m n i : Nat} {oi : Oper} {v : Value} {L : Array Bool → Act → Prop}
theorem headAnyM_first (hi : ops[i]? = some oi) (hsel : ∀ (j : Nat) (o : Oper) cs b, ops[j]? = some o → o.op ≠ .select cs b) (hs : sinkFrom md ops m n = true) (hc : Region.chainB md ops n = true)
    (hn : n < ops.size) (hin : i < n) (hend : ∀ ls a, L ls a → ∀ j ∈ Region.ready md ops ls, n ≤ j) (k : Nat) :
    ∀ (ls : Array Bool) (a : Act), HeadInv md ops n ls → (∀ i < m, ls.getD i true = true) →
      (∀ j oj, ops[j]? = some oj → j ≠ i → ls.getD j true = false → (∀ e ∈ oj.after, Region.binds md e = true → e.on ≠ i) → oi.apart ops oj = true) →
      i ∈ Region.ready md ops ls → YieldsIn P ops C oi v a → headAny P md ops C n L k (ls.setIfInBounds i true) (a.put oi.dst v) → headAny P md ops C n L (k + 1) ls a := by
  have inHead : ∀ (ls : Array Bool), HeadInv md ops n ls → (∀ i < m, ls.getD i true = true) → i ∈ Region.ready md ops ls → ∀ j ∈ Region.ready md ops ls, j < n := by
    intro ls inv hm hr j hj
    rcases Nat.lt_or_ge j n with h | h
    · exact h
    · have hun := (mem_ready.1 hr).1
      have hmi : m ≤ i := by
        rcases Nat.lt_or_ge i m with h' | h'
        · rw [hm i h'] at hun; cases hun
        · exact h'
      exact absurd hj (tail_waits' hs hc hn inv _ i rfl hmi hin hun j h)
  induction k with
  | zero =>
    intro ls a inv hm _ hr hy H
    refine ⟨fun h => (by rw [h] at hr; cases hr), fun j hj => ⟨inHead ls inv hm hr j hj, ?_⟩⟩
    by_cases e : j = i
    · subst e; exact hy.qOp hi H
    · have h1 := hend _ _ H j (ready_mono hj e)
      have h2 := inHead ls inv hm hr j hj
      omega
  | succ k ih =>
    intro ls a inv hm hfree hr hy H
    refine ⟨fun h => (by rw [h] at hr; cases hr), fun j hj => ⟨inHead ls inv hm hr j hj, ?_⟩⟩
    by_cases e : j = i
    · subst e; exact hy.qOp hi H
    · obtain ⟨hju, oj, hoj, hall⟩ := mem_ready.1 hj
      have hnot : ∀ d ∈ oj.after, Region.binds md d = true → d.on ≠ i := fun d hd hb hq => by
        have h1 := hall d hd hb
        rw [hq, getD_both (mem_ready.1 hr).1] at h1
        cases h1
      have h1 := qOp_put hoj (hfree j oj hoj e hju hnot) (fun cs b => hsel i oi cs b hi) (fun cs b => hsel j oj cs b hoj) hy (H.2 j (ready_mono hj e)).2
      refine qOp_mono (fun a' h2 => ?_) h1
      refine ih (ls.setIfInBounds j true) a' (inv.set hj (inHead ls inv hm hr j hj)) (fun x hx => setAll_true [j] ls x (hm x hx)) (fun m om hm hmi hmu hno => ?_) (ready_mono hr (Ne.symm e)) h2.1 ?_
      · refine hfree m om hm hmi ?_ hno
        by_cases hjm : j = m
        · subst hjm; exact hju
        · rw [getD_set_ne true hjm] at hmu; exact hmu
      · rw [Array.setIfInBounds_comm _ _ e]
        exact h2.2
end
theorem headAnyM_lex {m n g : Nat} {R : Act → Prop} (hsel : Region.noSelect ops = true) (hs : sinkFrom md ops m n = true) (hc : Region.chainB md ops n = true) (hn : n < ops.size) (l : List Oper) :
    ∀ (k : Nat) (ls : Array Bool) (a : Act), (∀ j, j < l.length → l[j]? = ops[k + j]?) → k + l.length = n → HeadInv md ops n ls → (∀ i < m, ls.getD i true = true) → Region.lexHead md ops g l.length k ls = true → wpQuiet P ops C R l a →
      headAny P md ops C n (fun ls' a' => Region.seqB md ops g n ls' = true ∧ R a') l.length ls a := by
  induction l with
  | nil =>
    intro k ls a _ hk _ _ hB h
    obtain rfl : k = n := by simpa using hk
    exact ⟨by simpa [Region.lexHead] using hB, h⟩
  | cons o l ih =>
    intro k ls a hl hk inv hm hB h
    have h0 : ops[k]? = some o := by simpa using (hl 0 (by simp)).symm
    simp only [List.length_cons] at hk
    simp only [List.length_cons, Region.lexHead, Bool.and_eq_true] at hB
    have hkn : k < n := by omega
    have hr : k ∈ Region.ready md ops ls := by simpa using hB.1.1
    have hq : qOp P ops C k (wpQuiet P ops C R l) a := by unfold qOp; simp only [h0]; exact h
    obtain ⟨v, hy, hK⟩ := yieldsIn_of_qOp h0 hq
    refine headAnyM_first h0 (Region.noSelect_spec hsel) hs hc hn hkn (fun ls' a' hL => seqB_ready hL.1) l.length ls a inv hm (Region.free_spec h0 hB.1.2) hr hy ?_
    refine ih (k + 1) _ _ (fun j hj => ?_) (by omega) (inv.set hr hkn) (fun x hx => setAll_true [k] ls x (hm x hx)) hB.2 hK
    have := hl (j + 1) (by simp only [List.length_cons]; omega)
    simpa [Nat.add_assoc, Nat.add_comm 1 j] using this
/-- what the numbers of a region must be -/
def preTailB (ops : Array Oper) (m n : Nat) : Bool :=
  let l0 := Array.replicate ops.size false
  let l1 := setAll (List.range m) l0
  Region.noSelect ops && decide (n < ops.size) && decide (m ≤ n) && sinkFrom .any ops m n && Region.chainB .any ops n && lexIs .any ops (List.range m) l0 && Region.lexHead .any ops (ops.size - n) (n - m) m l1
/-- the law -/
theorem wp_pre_tail {id : Nat} {Q : Exit → Act → World → Prop} {a : Act} {w : World} {l : List Oper} (m n : Nat) (K : World → Prop) (hm : P.follows .mixedOrders = true) (hB : preTailB l.toArray m n = true) (hC : K w.drew)
    (h : Nonempty (Wd K) → wpQuiet P l.toArray (fun _ => True) (fun a1 => wpQuiet P l.toArray (fun w' => ∃ x : Wd K, w' = x.w) (fun a' => ∀ x : Wd K, wpList P l.toArray (NoPanic Q) (l.drop n) a' x.w) ((l.drop m).take (n - m)) a1) (l.take m) a) : (Code.region id l.toArray true).wp P Q a w := by
  simp only [preTailB, Bool.and_eq_true, decide_eq_true_eq] at hB
  obtain ⟨⟨⟨⟨⟨⟨hsel, hn⟩, hmn⟩, hs⟩, hc⟩, hpre⟩, hlex⟩ := hB
  have hQ : ∀ c a a' w, NoPanic Q (.panic c) a' w → NoPanic Q (.panic c) a w := fun _ _ _ _ h => (h : False).elim
  have inv0 : HeadInv .any l.toArray n (Array.replicate l.toArray.size false) :=
    ⟨by simp, fun j oj _ hl => (by rw [getD_replicate_false] at hl; cases hl), fun t _ ht => getD_in (by simpa using ht) (getD_replicate_false _ _)⟩
  have inv1 := HeadInv.setAll (List.range m) _ inv0 hpre fun i hi => by have := List.mem_range.1 hi; omega
  refine wp_region_noPanic (wp_region_any hm ?_)
  have hn' : n < l.length := by simpa using hn
  have hdl : (l.drop n).length = l.toArray.size - n := by simp
  have hml : ((l.drop m).take (n - m)).length = n - m := by simp; omega
  have hpk : pick l.toArray (List.range m) = l.take m := by
    refine List.ext_getElem? fun i => ?_
    have key : ∀ k, k ≤ l.length → pick l.toArray (List.range k) = l.take k := by
      intro k
      induction k with
      | zero => intro _; rfl
      | succ k ih =>
        intro hk
        rw [List.range_succ, pick, List.filterMap_append]
        have := ih (by omega)
        rw [pick] at this
        rw [this, List.take_succ_eq_append_getElem (by omega)]
        simp [show k < l.length by omega]
    rw [key m (by omega)]
  have e : (fun w' => ∃ x : Wd K, w' = x.w) = K := by
    funext w'
    exact propext ⟨fun ⟨y, hy⟩ => hy ▸ y.h, fun h => ⟨⟨w', h⟩, rfl⟩⟩
  have h1 := h ⟨⟨_, hC⟩⟩
  rw [e] at h1
  have hsz : l.toArray.size = (List.range m).length + (((l.drop m).take (n - m)).length + (l.toArray.size - n)) := by rw [List.length_range, hml]; omega
  have hfu : wpAny P .any l.toArray (NoPanic Q) ((List.range m).length + (((l.drop m).take (n - m)).length + (l.toArray.size - n))) (Array.replicate l.toArray.size false) a w.drew := by
    refine wpAny_pre hsel hQ (List.range m) _ _ hpre ?_
    rw [hpk]
    refine wpQuiet_mono' (fun a1 h3 => ?_) h1
    have H := headAnyM_lex (md := .any) (g := l.toArray.size - n) hsel hs hc hn ((l.drop m).take (n - m)) m _ a1 (fun j hj => by
      rw [hml] at hj
      rw [List.getElem?_take_of_lt hj, List.getElem?_drop]
      simp) (by rw [hml]; omega) inv1 (fun i hi => setAll_mem _ _ i (List.mem_range.2 hi)) (by rw [hml]; exact hlex) h3
    refine headAny_sound (fun ls a' w' hw' hL => ?_) _ _ _ _ hC H
    have := wpAny_of_seq (P := P) (md := .any) (Q' := NoPanic Q) (l.drop n) n ls a' w' (fun j => by simp [List.getElem?_drop]) (by rw [hdl]; exact hL.1) (hL.2 ⟨w', hw'⟩)
    rwa [hdl] at this
  rw [← hsz] at hfu
  exact hfu
end Go.Mem
/- slices.Repeat of one element, for entries and for strings. Printed by gen_rep.py. -/
namespace Go.Proofs.YtbakoldmfpbnaaaGreatDoor
open Go.RowKit Go.Mem Go.Sheet Go.Adj Go.Shelf
theorem mul1 (n : Nat) (h : n < 18446744073709551616) (w : World) : Calls Tryz.prog 67 #[.int .u64 1, .int .u64 n] w fun e w' => e = .returned (.tuple #[.int .u64 0, .int .u64 n]) ∧ w = w' := by
  refine (Tryz.bits_Mul 1 n (by decide) h w).mono ?_
  rintro e w' ⟨rfl, rfl⟩
  refine ⟨?_, rfl⟩
  rw [Nat.one_mul, Nat.mod_eq_of_lt h, Nat.div_eq_of_lt h]; rfl
theorem eltE : Elt Tryz.prog 29 54 (.agg #[.int .i64 0, .string ⟨#[]⟩]) 2 24 := ⟨Tryz.underlying29, by kernel_rfl, rfl, by decide⟩
theorem eltStr : Elt Tryz.prog 79 9 (.string ⟨#[]⟩) 1 16 := ⟨Tryz.underlying79, by kernel_rfl, rfl, by decide⟩
set_option maxRecDepth 100000 in
set_option maxHeartbeats 2000000 in
theorem repeatE_any (W : World) (b0 n : Nat) (u : List Value) (hul : u.length = 2) (h1u : ∀ v ∈ u, v.oneCell' = true) (c0 : ∀ j v, u[j]? = some v → W.cell? ⟨b0, j, none⟩ = some v) (hb0 : b0 < W.heap.size) (hn : 1 ≤ n ∧ n ≤ 1000) :
    Calls Tryz.prog 74 #[.slice (some ⟨b0, 0, none⟩) 1 1, .int .i64 n] W fun e w' => ∃ g, e = .returned (.slice (some ⟨g, 0, none⟩) n n) ∧ St W w' [row 54 2 (.slice (some ⟨g, 0, none⟩) n n) n (List.replicate n u).flatten] := by
  have hnn : ¬ (n : Int) < 0 := by omega
  have hbig : decide ((9223372036854775807 : Int) < n) = false := by simp; omega
  have HU := Lib.hid hul
  have HC0 : Hid (∀ w, Below W.heap.size W w → ∀ j v, (List.replicate 1 u).flatten[j]? = some v → w.cell? ((⟨b0, 0, none⟩ : Addr).add j) = some v) := fun w hb j v hv => by
    rw [Addr.add_lit, Nat.zero_add]
    exact (hb.cell (p := ⟨b0, j, none⟩) hb0).trans (c0 j v (by simpa using hv))
  have H1 : Hid (∀ m, ∀ v ∈ (List.replicate m u).flatten, v.oneCell' = true) := fun m v hv => by
    obtain ⟨l, hl, hv⟩ := List.mem_flatten.1 hv
    rw [(List.mem_replicate.1 hl).2] at hv
    exact h1u v hv
  have HZL : Hid (([.int .i64 0, .string ⟨#[]⟩] : List Value).length = u.length) := by show _ = _; rw [hul]; rfl
  clear hul h1u c0 hb0
  have HMK : Hid (∀ (w1 : World) (g : Nat), St W w1 ([] ++ [row 54 2 (.slice (some ⟨g, 0, none⟩) n n) n (madeCells (.agg #[.int .i64 0, .string ⟨#[]⟩] : Value).cells (n * 2)).toList]) → w1.heap[g]? = some (.cells (fillU u [.int .i64 0, .string ⟨#[]⟩] n 0).toArray 54 (0, 0))) := fun w1 g S1 => by
    have h1 := row_block2 S1 (i := 0) rfl
    have hz := made_rep #[.int .i64 0, .string ⟨#[]⟩] (by decide) n
    have hz2 : (madeCells #[.int .i64 0, .string ⟨#[]⟩] (n * 2)).toList = fillU u [.int .i64 0, .string ⟨#[]⟩] n 0 := by simpa [fillU] using hz
    change w1.heap[g]? = some (.cells (madeCells #[.int .i64 0, .string ⟨#[]⟩] (n * 2)).toList.toArray _ _) at h1
    rw [hz2] at h1; exact h1
  go_enter Tryz.func74, Tryz.ntmps74
  go_wp2_with (first
    | (go_at_call 67; refine (mul1 n (by omega) _).mono ?_; rintro e w' ⟨rfl, rfl⟩)
    | (refine wpList_make_st eltE rfl _ _ rfl (n := n) rfl rfl (St.refl W) (by omega) (by omega) ?_; intro w1 g S1 hg hb1
       have HB1 := Lib.hid (HMK.out w1 g S1))
    | (refine wpList_copy_sz rfl _ _ 29 29 rfl 54 2 Tryz.underlying29 (by kernel_rfl) ⟨b0, 0, none⟩ n n 1 1 g 0 rfl rfl (fillU u [.int .i64 0, .string ⟨#[]⟩] n 0) 54 HB1.out (List.replicate 1 u).flatten (by rw [rep_len, HU.out, show Nat.min 1 n = 1 from Nat.min_eq_left hn.1]) (HC0.out _ hb1) (by rw [rep_len, fillU_len HZL.out (Nat.zero_le _), HU.out]; omega) (H1.out 1) W.heap.size W hb1 hg ?_
       intro w2 HB2 hb2))
  have HF : Hid (w2.heap[g]? = some (.cells (fillU u [.int .i64 0, .string ⟨#[]⟩] n 1).toArray 54 (0, 0))) := by
    show _ = _
    have := fillU_splice (u := u) HZL.out (n := n) (k := 0) (m := 1) (by omega)
    rw [Nat.zero_mul] at this
    rw [HB2.out, this]
  clear HB1 HB2 S1 hb1
  go_loopw [8] (fun i w' => ∃ (k : Nat), k ≤ n ∧ i = .int .i64 k ∧ 0 < k ∧ Below W.heap.size W w' ∧ Hid (w'.heap[g]? = some (.cells (fillU u [.int .i64 0, .string ⟨#[]⟩] n k).toArray 54 (0, 0)))) (fun i _ => n - (intOf i).toNat)
  case atStart => exact ⟨1, hn.1, rfl, by omega, hb2, HF.out⟩
  case round =>
    obtain ⟨k, hk, rfl, hk0, hb, HC⟩ := hrel
    clear HF hb2
    by_cases hlt : k < n
    · have hkn : (k : Int) < n := by omega
      go_wp2_with fail
      refine wp_pre_tail 1 7 (fun w' => ∃ q, w' = wr.drewN q) (by kernel_rfl) (by kernel_rfl) ⟨1, rfl⟩ ?_
      simp only [List.take_succ_cons, List.take_zero, List.drop_succ_cons, List.drop_zero, Nat.reduceSub]
      generalize hK : (fun w' => ∃ q, w' = wr.drewN q) = K
      intro hne
      have kw : ∀ y : Wd K, ∃ q, y.w = wr.drewN q := by subst hK; exact fun y => y.h
      clear hK
      change wpQuiet _ _ _ _ (_ :: []) _
      go_big_quiet_step ((fail))
      refine wpQuiet_nil ?_
      repeat (go_big_quiet_step ((fail)))
      refine wpQuiet_nil ?_
      intro y
      obtain ⟨q, hq⟩ := kw y
      have hb3 : Below W.heap.size W y.w := by rw [hq]; exact below_drewN hb q
      have HC3 : Hid (y.w.heap[g]? = some (.cells (fillU u [.int .i64 0, .string ⟨#[]⟩] n k).toArray 54 (0, 0))) := by show _ = _; rw [hq]; exact HC.out
      clear kw hq hb HC
      generalize y.w = w3 at *
      obtain ⟨m, hm⟩ : ∃ m, m = Nat.min k (n - k) := ⟨_, rfl⟩
      have hm1 : m ≤ n - k := by rw [hm]; exact Nat.min_le_right _ _
      have hm2 : m ≤ k := by rw [hm]; exact Nat.min_le_left _ _
      have hm0 : 0 < m := by rw [hm]; show 0 < min k (n - k); omega
      have HMM := Lib.hid hm
      have HK2 : Hid (∀ j v, (List.replicate m u).flatten[j]? = some v → w3.cell? ((⟨g, 0, none⟩ : Addr).add j) = some v) := fun j v hv => by
        rw [Addr.add_lit, Nat.zero_add, cell_of_row w3 g j _ _ _ HC3.out]
        simpa using fillU_at hm2 hv
      clear hm
      have HK3 : Hid (k * 2 + (List.replicate m u).flatten.length ≤ (fillU u [.int .i64 0, .string ⟨#[]⟩] n k).length) := by
        show _ ≤ _
        rw [rep_len, fillU_len HZL.out hk, HU.out]; omega
      refine wpList_copy_sz rfl _ _ 29 29 rfl 54 2 Tryz.underlying29 (by kernel_rfl) ⟨g, 0, none⟩ (n - k) (n - k) k n g (k * 2) rfl rfl (fillU u [.int .i64 0, .string ⟨#[]⟩] n k) 54 HC3.out (List.replicate m u).flatten (by rw [rep_len, HU.out, HMM.out]) HK2.out HK3.out (H1.out m) W.heap.size W hb3 hg ?_
      intro w4 HC4 hb4
      have HC5 : Hid (w4.heap[g]? = some (.cells (fillU u [.int .i64 0, .string ⟨#[]⟩] n (k + m)).toArray 54 (0, 0))) := by
        show _ = _
        have := fillU_splice (u := u) HZL.out (n := n) (k := k) (m := m) (by omega)
        rw [HU.out] at this
        rw [HC4.out, this]
      rw [← HMM.out]
      clear HC4 HC3 HMM HK2 HK3
      go_wp2_with fail
      refine NoPanic.normal ?_
      go_wp2
      go_roundw
      case rel => exact ⟨k + m, by omega, by simp, by omega, hb4, HC5.out⟩
      case measure => simp [intOf]; omega
    · have hkb : decide ((k : Int) < n) = false := by simp; omega
      obtain rfl : k = n := by omega
      have S := st_of_block2 (size := 2) hb hg HC.out (by rw [fillU_len HZL.out (Nat.le_refl _), HU.out]) (by unfold maxLen; omega)
      have HS : Hid (St W wr [row 54 2 (.slice (some ⟨g, 0, none⟩) k k) k (List.replicate k u).flatten]) := by
        show St _ _ _
        simpa [fillU] using S
      clear S
      go_wp2
      go_ret
      exact ⟨g, rfl, HS.out⟩
set_option maxRecDepth 100000 in
set_option maxHeartbeats 2000000 in
theorem repeatS_any (W : World) (b0 n : Nat) (u : List Value) (hul : u.length = 1) (h1u : ∀ v ∈ u, v.oneCell' = true) (c0 : ∀ j v, u[j]? = some v → W.cell? ⟨b0, j, none⟩ = some v) (hb0 : b0 < W.heap.size) (hn : 1 ≤ n ∧ n ≤ 1000) :
    Calls Tryz.prog 30 #[.slice (some ⟨b0, 0, none⟩) 1 1, .int .i64 n] W fun e w' => ∃ g, e = .returned (.slice (some ⟨g, 0, none⟩) n n) ∧ St W w' [row 9 1 (.slice (some ⟨g, 0, none⟩) n n) n (List.replicate n u).flatten] := by
  have hnn : ¬ (n : Int) < 0 := by omega
  have hbig : decide ((9223372036854775807 : Int) < n) = false := by simp; omega
  have HU := Lib.hid hul
  have HC0 : Hid (∀ w, Below W.heap.size W w → ∀ j v, (List.replicate 1 u).flatten[j]? = some v → w.cell? ((⟨b0, 0, none⟩ : Addr).add j) = some v) := fun w hb j v hv => by
    rw [Addr.add_lit, Nat.zero_add]
    exact (hb.cell (p := ⟨b0, j, none⟩) hb0).trans (c0 j v (by simpa using hv))
  have H1 : Hid (∀ m, ∀ v ∈ (List.replicate m u).flatten, v.oneCell' = true) := fun m v hv => by
    obtain ⟨l, hl, hv⟩ := List.mem_flatten.1 hv
    rw [(List.mem_replicate.1 hl).2] at hv
    exact h1u v hv
  have HZL : Hid (([.string ⟨#[]⟩] : List Value).length = u.length) := by show _ = _; rw [hul]; rfl
  clear hul h1u c0 hb0
  have HMK : Hid (∀ (w1 : World) (g : Nat), St W w1 ([] ++ [row 9 1 (.slice (some ⟨g, 0, none⟩) n n) n (madeCells (.string ⟨#[]⟩ : Value).cells (n * 1)).toList]) → w1.heap[g]? = some (.cells (fillU u [.string ⟨#[]⟩] n 0).toArray 9 (0, 0))) := fun w1 g S1 => by
    have h1 := row_block2 S1 (i := 0) rfl
    have hz := made_rep #[.string ⟨#[]⟩] (by decide) n
    have hz2 : (madeCells #[.string ⟨#[]⟩] (n * 1)).toList = fillU u [.string ⟨#[]⟩] n 0 := by simpa [fillU] using hz
    change w1.heap[g]? = some (.cells (madeCells #[.string ⟨#[]⟩] (n * 1)).toList.toArray _ _) at h1
    rw [hz2] at h1; exact h1
  go_enter Tryz.func30, Tryz.ntmps30
  go_wp2_with (first
    | (go_at_call 67; refine (mul1 n (by omega) _).mono ?_; rintro e w' ⟨rfl, rfl⟩)
    | (refine wpList_make_st eltStr rfl _ _ rfl (n := n) rfl rfl (St.refl W) (by omega) (by omega) ?_; intro w1 g S1 hg hb1
       have HB1 := Lib.hid (HMK.out w1 g S1))
    | (refine wpList_copy_sz rfl _ _ 79 79 rfl 9 1 Tryz.underlying79 (by kernel_rfl) ⟨b0, 0, none⟩ n n 1 1 g 0 rfl rfl (fillU u [.string ⟨#[]⟩] n 0) 9 HB1.out (List.replicate 1 u).flatten (by rw [rep_len, HU.out, show Nat.min 1 n = 1 from Nat.min_eq_left hn.1]) (HC0.out _ hb1) (by rw [rep_len, fillU_len HZL.out (Nat.zero_le _), HU.out]; omega) (H1.out 1) W.heap.size W hb1 hg ?_
       intro w2 HB2 hb2))
  have HF : Hid (w2.heap[g]? = some (.cells (fillU u [.string ⟨#[]⟩] n 1).toArray 9 (0, 0))) := by
    show _ = _
    have := fillU_splice (u := u) HZL.out (n := n) (k := 0) (m := 1) (by omega)
    rw [Nat.zero_mul] at this
    rw [HB2.out, this]
  clear HB1 HB2 S1 hb1
  go_loopw [8] (fun i w' => ∃ (k : Nat), k ≤ n ∧ i = .int .i64 k ∧ 0 < k ∧ Below W.heap.size W w' ∧ Hid (w'.heap[g]? = some (.cells (fillU u [.string ⟨#[]⟩] n k).toArray 9 (0, 0)))) (fun i _ => n - (intOf i).toNat)
  case atStart => exact ⟨1, hn.1, rfl, by omega, hb2, HF.out⟩
  case round =>
    obtain ⟨k, hk, rfl, hk0, hb, HC⟩ := hrel
    clear HF hb2
    by_cases hlt : k < n
    · have hkn : (k : Int) < n := by omega
      go_wp2_with fail
      refine wp_pre_tail 1 7 (fun w' => ∃ q, w' = wr.drewN q) (by kernel_rfl) (by kernel_rfl) ⟨1, rfl⟩ ?_
      simp only [List.take_succ_cons, List.take_zero, List.drop_succ_cons, List.drop_zero, Nat.reduceSub]
      generalize hK : (fun w' => ∃ q, w' = wr.drewN q) = K
      intro hne
      have kw : ∀ y : Wd K, ∃ q, y.w = wr.drewN q := by subst hK; exact fun y => y.h
      clear hK
      change wpQuiet _ _ _ _ (_ :: []) _
      go_big_quiet_step ((fail))
      refine wpQuiet_nil ?_
      repeat (go_big_quiet_step ((fail)))
      refine wpQuiet_nil ?_
      intro y
      obtain ⟨q, hq⟩ := kw y
      have hb3 : Below W.heap.size W y.w := by rw [hq]; exact below_drewN hb q
      have HC3 : Hid (y.w.heap[g]? = some (.cells (fillU u [.string ⟨#[]⟩] n k).toArray 9 (0, 0))) := by show _ = _; rw [hq]; exact HC.out
      clear kw hq hb HC
      generalize y.w = w3 at *
      obtain ⟨m, hm⟩ : ∃ m, m = Nat.min k (n - k) := ⟨_, rfl⟩
      have hm1 : m ≤ n - k := by rw [hm]; exact Nat.min_le_right _ _
      have hm2 : m ≤ k := by rw [hm]; exact Nat.min_le_left _ _
      have hm0 : 0 < m := by rw [hm]; show 0 < min k (n - k); omega
      have HMM := Lib.hid hm
      have HK2 : Hid (∀ j v, (List.replicate m u).flatten[j]? = some v → w3.cell? ((⟨g, 0, none⟩ : Addr).add j) = some v) := fun j v hv => by
        rw [Addr.add_lit, Nat.zero_add, cell_of_row w3 g j _ _ _ HC3.out]
        simpa using fillU_at hm2 hv
      clear hm
      have HK3 : Hid (k + (List.replicate m u).flatten.length ≤ (fillU u [.string ⟨#[]⟩] n k).length) := by
        show _ ≤ _
        rw [rep_len, fillU_len HZL.out hk, HU.out]; omega
      refine wpList_copy_sz rfl _ _ 79 79 rfl 9 1 Tryz.underlying79 (by kernel_rfl) ⟨g, 0, none⟩ (n - k) (n - k) k n g (k) rfl rfl (fillU u [.string ⟨#[]⟩] n k) 9 HC3.out (List.replicate m u).flatten (by rw [rep_len, HU.out, HMM.out]) HK2.out HK3.out (H1.out m) W.heap.size W hb3 hg ?_
      intro w4 HC4 hb4
      have HC5 : Hid (w4.heap[g]? = some (.cells (fillU u [.string ⟨#[]⟩] n (k + m)).toArray 9 (0, 0))) := by
        show _ = _
        have := fillU_splice (u := u) HZL.out (n := n) (k := k) (m := m) (by omega)
        rw [HU.out, Nat.mul_one] at this
        rw [HC4.out, this]
      rw [← HMM.out]
      clear HC4 HC3 HMM HK2 HK3
      go_wp2_with fail
      refine NoPanic.normal ?_
      go_wp2
      go_roundw
      case rel => exact ⟨k + m, by omega, by simp, by omega, hb4, HC5.out⟩
      case measure => simp [intOf]; omega
    · have hkb : decide ((k : Int) < n) = false := by simp; omega
      obtain rfl : k = n := by omega
      have S := st_of_block2 (size := 1) hb hg HC.out (by rw [fillU_len HZL.out (Nat.le_refl _), HU.out]) (by unfold maxLen; omega)
      have HS : Hid (St W wr [row 9 1 (.slice (some ⟨g, 0, none⟩) k k) k (List.replicate k u).flatten]) := by
        show St _ _ _
        simpa [fillU] using S
      clear S
      go_wp2
      go_ret
      exact ⟨g, rfl, HS.out⟩
end Go.Proofs.YtbakoldmfpbnaaaGreatDoor
