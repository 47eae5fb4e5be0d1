/- Part 15 of the walks of the golf union's program: Frames, WM2, SN, WM3. -/
import Derived.Test.YtlffgdmljioaoaaGreatDoorD04
import Derived.Test.YtlffgdmljioaoaaGreatDoorD11
import Derived.Test.YtlffgdmljioaoaaGreatDoorD13
import Derived.Test.YtlffgdmljioaoaaGreatDoorD14
import Derived.Test.YtlffgdmljioaoaaGreatDoorD01
set_option linter.unusedVariables false
set_option linter.unusedSimpArgs false
set_option linter.unusedSectionVars false
set_option linter.constructorNameAsVariable false
/- Frames, slot by slot. Printed by gen_frame.py. -/
namespace Go.Mem
open Go.RowKit
theorem arr_lit (T : Array Value) (N : Nat) (h : T.size = N) : T = ((List.range N).map fun i => T.getD i undef).toArray := by
  apply Array.ext_getElem?
  intro i
  rw [List.getElem?_toArray (xs := (List.range N).map _), List.getElem?_map]
  by_cases hi : i < N
  · rw [List.getElem?_range hi, Option.map_some, Array.getElem?_eq_getElem (by omega), Array.getD_eq_getD_getElem?, Array.getElem?_eq_getElem (by omega)]
    rfl
  · rw [List.getElem?_eq_none (by simpa using hi), Array.getElem?_eq_none (by omega)]
    rfl
set_option maxRecDepth 100000 in
theorem frame155 {T : Array Value} {v4 v5 v7 v12 v13 : Value} (h : T.size = 155) (h4 : T.getD 4 undef = v4) (h5 : T.getD 5 undef = v5) (h7 : T.getD 7 undef = v7) (h12 : T.getD 12 undef = v12) (h13 : T.getD 13 undef = v13) : ∃ f : Nat → Value, T = #[f 0, f 1, f 2, f 3, v4, v5, f 6, v7, f 8, f 9, f 10, f 11, v12, v13, f 14, f 15, f 16, f 17, f 18, f 19, f 20, f 21, f 22, f 23, f 24, f 25, f 26, f 27, f 28, f 29, f 30, f 31, f 32, f 33, f 34, f 35, f 36, f 37, f 38, f 39, f 40, f 41, f 42, f 43, f 44, f 45, f 46, f 47, f 48, f 49, f 50, f 51, f 52, f 53, f 54, f 55, f 56, f 57, f 58, f 59, f 60, f 61, f 62, f 63, f 64, f 65, f 66, f 67, f 68, f 69, f 70, f 71, f 72, f 73, f 74, f 75, f 76, f 77, f 78, f 79, f 80, f 81, f 82, f 83, f 84, f 85, f 86, f 87, f 88, f 89, f 90, f 91, f 92, f 93, f 94, f 95, f 96, f 97, f 98, f 99, f 100, f 101, f 102, f 103, f 104, f 105, f 106, f 107, f 108, f 109, f 110, f 111, f 112, f 113, f 114, f 115, f 116, f 117, f 118, f 119, f 120, f 121, f 122, f 123, f 124, f 125, f 126, f 127, f 128, f 129, f 130, f 131, f 132, f 133, f 134, f 135, f 136, f 137, f 138, f 139, f 140, f 141, f 142, f 143, f 144, f 145, f 146, f 147, f 148, f 149, f 150, f 151, f 152, f 153, f 154] := by
  obtain ⟨f, hf⟩ : ∃ f : Nat → Value, f = fun i => T.getD i undef := ⟨_, rfl⟩
  have e : ((List.range 155).map f).toArray = #[f 0, f 1, f 2, f 3, f 4, f 5, f 6, f 7, f 8, f 9, f 10, f 11, f 12, f 13, f 14, f 15, f 16, f 17, f 18, f 19, f 20, f 21, f 22, f 23, f 24, f 25, f 26, f 27, f 28, f 29, f 30, f 31, f 32, f 33, f 34, f 35, f 36, f 37, f 38, f 39, f 40, f 41, f 42, f 43, f 44, f 45, f 46, f 47, f 48, f 49, f 50, f 51, f 52, f 53, f 54, f 55, f 56, f 57, f 58, f 59, f 60, f 61, f 62, f 63, f 64, f 65, f 66, f 67, f 68, f 69, f 70, f 71, f 72, f 73, f 74, f 75, f 76, f 77, f 78, f 79, f 80, f 81, f 82, f 83, f 84, f 85, f 86, f 87, f 88, f 89, f 90, f 91, f 92, f 93, f 94, f 95, f 96, f 97, f 98, f 99, f 100, f 101, f 102, f 103, f 104, f 105, f 106, f 107, f 108, f 109, f 110, f 111, f 112, f 113, f 114, f 115, f 116, f 117, f 118, f 119, f 120, f 121, f 122, f 123, f 124, f 125, f 126, f 127, f 128, f 129, f 130, f 131, f 132, f 133, f 134, f 135, f 136, f 137, f 138, f 139, f 140, f 141, f 142, f 143, f 144, f 145, f 146, f 147, f 148, f 149, f 150, f 151, f 152, f 153, f 154] := rfl
  have e2 := arr_lit T 155 h
  rw [← hf, e] at e2
  rw [show T.getD 4 undef = f 4 by rw [hf]] at h4
  rw [show T.getD 5 undef = f 5 by rw [hf]] at h5
  rw [show T.getD 7 undef = f 7 by rw [hf]] at h7
  rw [show T.getD 12 undef = f 12 by rw [hf]] at h12
  rw [show T.getD 13 undef = f 13 by rw [hf]] at h13
  refine ⟨f, ?_⟩
  rw [← h4, ← h5, ← h7, ← h12, ← h13]
  exact e2
end Go.Mem
/- Walks: match. -/
namespace Go.Proofs.YtlffgdmljioaoaaGreatDoor
open Go.RowKit Go.Mem Go.Sheet Go.Shelf
theorem zc195 : Tryz.zeroCells184 = (cellsM (mkM (fun _ _ => 0) [] 0)).toArray := by kernel_rfl
theorem sM_rows (M : Mt) (x : Nat) : (cellsM M).set 5668 (.int .i64 (x : Int)) = cellsM { M with rows := x } := by
  rw [show 5668 = 5668 + 0 by rfl, cM_tailset]
  rfl
/-- what match holds -/
def matL (B : Nat) (n c : Nat) (A : Option Addr) (sf : Nat) (M : Mt) : List Asr :=
  [blk (B + 1 + 1) 184 (cellsM M).toArray, blk (B + 1 + 1 + 1) 124 #[.pointer (some ⟨B + 1 + 1, 0, none⟩)], blk B 60 #[.slice A n c], blk (B + 1) 132 #[.func (.func sf) #[] #[]]]
section
variable {W w : World} {B n c sf : Nat} {A : Option Addr} {M : Mt}
theorem mat_n (S : St W w (matL B n c A sf M)) : w.cell? ⟨B + 1 + 1, 5669, none⟩ = some (.int .i64 M.n) := by
  rw [S.blk_cell (i := 0) rfl, List.getElem?_toArray, cM_n M]
theorem mat_slot (S : St W w (matL B n c A sf M)) {k : Nat} (h : k < 218) : w.cell? ⟨B + 1 + 1, 5450 + k, none⟩ = some (.int .i64 (M.slot k)) := by
  rw [S.blk_cell (i := 0) rfl, List.getElem?_toArray, cM_slot M h]
theorem mat_worth (S : St W w (matL B n c A sf M)) {r k : Nat} (hr : r < 25) (h : k < 218) : w.cell? ⟨B + 1 + 1, r * 218 + k, none⟩ = some (.int .i64 (M.worth r k)) := by
  rw [S.blk_cell (i := 0) rfl, List.getElem?_toArray, cM_worth M hr h]
theorem mat_fz (S : St W w (matL B n c A sf M)) (k : Nat) : w.frozen? ⟨B + 1 + 1, k, none⟩ = false := S.blk_frozen (i := 0) rfl k
theorem mat_m (S : St W w (matL B n c A sf M)) : w.cell? ⟨B + 1 + 1 + 1, 0, none⟩ = some (.pointer (some ⟨B + 1 + 1, 0, none⟩)) := S.blk_cell (i := 1) rfl 0
theorem mat_r (S : St W w (matL B n c A sf M)) : w.cell? ⟨B, 0, none⟩ = some (.slice A n c) := S.blk_cell (i := 2) rfl 0
theorem mat_s (S : St W w (matL B n c A sf M)) : w.cell? ⟨B + 1, 0, none⟩ = some (.func (.func sf) #[] #[]) := S.blk_cell (i := 3) rfl 0
theorem mas_n (S : St W w (matL B n c A sf M)) (x : Nat) : St W (w.setCell ⟨B + 1 + 1, 5669, none⟩ (.int .i64 (x : Int))) (matL B n c A sf { M with n := x }) := by
  have := S.blk_set (i := 0) rfl 5669 (.int .i64 (x : Int))
  simpa only [matL, List.set_cons_zero, List.setIfInBounds_toArray, sM_n] using this
theorem mas_slot (S : St W w (matL B n c A sf M)) {k : Nat} (h : k < 218) (x : Int) : St W (w.setCell ⟨B + 1 + 1, 5450 + k, none⟩ (.int .i64 x)) (matL B n c A sf { M with slot := fun j => if j = k then x else M.slot j }) := by
  have := S.blk_set (i := 0) rfl (5450 + k) (.int .i64 x)
  simpa only [matL, List.set_cons_zero, List.setIfInBounds_toArray, sM_slot h] using this
theorem mas_worth (S : St W w (matL B n c A sf M)) {r k : Nat} (hr : r < 25) (h : k < 218) (x : Int) : St W (w.setCell ⟨B + 1 + 1, r * 218 + k, none⟩ (.int .i64 x)) (matL B n c A sf { M with worth := fun a b => if a = r ∧ b = k then x else M.worth a b }) := by
  have := S.blk_set (i := 0) rfl (r * 218 + k) (.int .i64 x)
  simpa only [matL, List.set_cons_zero, List.setIfInBounds_toArray, sM_worth hr h] using this
end
theorem mt_slot (wo : Nat → Nat → Int) (cs : List Int) (R : Nat) (s : Int) : ({ { mkM wo cs R with n := cs.length + 1 } with slot := fun j => if j = cs.length + 1 then s else slotOf cs j } : Mt) = mkM wo (cs ++ [s]) R := by
  have e : (cs ++ [s]).length = cs.length + 1 := by simp
  rw [slotOf_snoc]
  show Mt.mk wo (slotOf (cs ++ [s])) R (cs.length + 1) _ _ _ = Mt.mk wo (slotOf (cs ++ [s])) R (cs ++ [s]).length _ _ _
  rw [e]
  rfl
theorem mas_push {W w : World} {B n c sf R : Nat} {A : Option Addr} {wo : Nat → Nat → Int} {cs : List Int} (S : St W w (matL B n c A sf (mkM wo cs R))) (h : cs.length + 1 < 218) (s : Int) :
    St W ((w.setCell ⟨B + 1 + 1, 5669, none⟩ (.int .i64 ((cs.length : Int) + 1))).setCell ⟨B + 1 + 1, 5450 + (cs.length + 1), none⟩ (.int .i64 s)) (matL B n c A sf (mkM wo (cs ++ [s]) R)) := by
  rw [← mt_slot]
  exact mas_slot (mas_n S (cs.length + 1)) h s
theorem mas_push1 {W w : World} {B n c sf R : Nat} {A : Option Addr} {wo : Nat → Nat → Int} {cs : List Int} (S : St W w (matL B n c A sf (mkM wo cs R))) (h : cs.length + 1 < 218) :
    (w.setCell ⟨B + 1 + 1, 5669, none⟩ (.int .i64 ((cs.length : Int) + 1))).cell? ⟨B + 1 + 1, 5450 + (cs.length + 1), none⟩ = some (.int .i64 (slotOf cs (cs.length + 1))) :=
  mat_slot (mas_n S (cs.length + 1)) h
theorem wishes_any (W : World) (A : Option Addr) (n c : Nat) : Calls Tryz.prog 92 #[.slice A n c] W fun e w' => e = .returned (.func (.func 136) #[] #[.pointer (some ⟨W.heap.size, 0, none⟩)]) ∧ w' = W.alloc (.cells #[.slice A n c] 60) := by
  go_enter Tryz.func92, Tryz.ntmps92
  go_wp2
  go_ret
  exact ⟨rfl, rfl⟩
theorem masB_worth {W w : World} {B B5 n c sf : Nat} {A : Option Addr} {M : Mt} (S : StB W B5 w (matL B n c A sf M)) {r k : Nat} (hr : r < 25) (h : k < 218) (x : Int) :
    StB W B5 (w.setCell ⟨B + 1 + 1, r * 218 + k, none⟩ (.int .i64 x)) (matL B n c A sf { M with worth := fun a b => if a = r ∧ b = k then x else M.worth a b }) := by
  have := S.blk_set (i := 0) rfl (r * 218 + k) (.int .i64 x)
  simpa only [matL, List.set_cons_zero, List.setIfInBounds_toArray, sM_worth hr h] using this
theorem keeps_below {B : Nat} {w w' : World} (h : Below w.heap.size w w') : KeepsFrom B w w' :=
  ⟨h.size, fun k _ _ hk _ => (h.block k (Array.getElem?_eq_some_iff.1 hk).1).trans hk⟩
/-- the frame of a round of match -/
def RoundA (B B5 : Nat) (i : Nat) (y : Wish) (a : Act) (X : World) : Prop :=
  a.tmps.size = 155 ∧ a.tmps.getD 4 undef = .pointer (some ⟨B, 0, none⟩) ∧ a.tmps.getD 5 undef = .pointer (some ⟨B + 1, 0, none⟩) ∧ a.tmps.getD 7 undef = .pointer (some ⟨B + 1 + 1 + 1, 0, none⟩) ∧
    a.tmps.getD 12 undef = .int .i64 i ∧ a.defers = [] ∧ ∃ Bx, B5 ≤ Bx ∧ a.tmps.getD 13 undef = .pointer (some ⟨Bx, 0, none⟩) ∧ X.heap[Bx]? = some (.cells #[.int .i64 y.s, .int .i64 y.w] 122 (0, 0))
/-- while the rows are added -/
def AddAllR (W : World) (Lm : Mt → List Asr) (D : Nat) (M0 : Mt) (n : Nat) (v : Value) (w' : World) : Prop :=
  ∃ (i : Nat) (M : Mt), i ≤ n ∧ v = .int .i64 ((i : Int) + 1) ∧ HM M i ∧ MLens M ∧ M.worth = M0.worth ∧ M.slot = M0.slot ∧ M.rows = M0.rows ∧ M.n = M0.n ∧ St W w' (Lm M ++ [obj D (.deferred (some []))]) ∧ addAll (n - i) (i + 1) M = addAll n 1 M0
/-- while a wish goes into the columns -/
def WishR (W : World) (B B5 Bx n c sf : Nat) (A : Option Addr) (cs : List Int) (v : Int) (i : Nat) (y : Wish) (FF : Nat → Nat → Int) (X : World) (kk : Value) (w' : World) : Prop :=
  ∃ k : Nat, 1 ≤ k ∧ k ≤ cs.length + 1 ∧ kk = .int .i64 k ∧ StB W B5 w' (matL B n c A sf (mkM (wishF cs v i y.s k FF) cs n)) ∧ w'.cell? ⟨Bx, 0, none⟩ = some (.int .i64 y.s) ∧ w'.cell? ⟨Bx, 1, none⟩ = some (.int .i64 y.w) ∧
    Bx < w'.heap.size ∧ KeepsFrom B5 X w' ∧ Below W.heap.size X w'
/-- what match hands back -/
def RetMatch (W : World) (l : List Slot) (rs : List RQ) (sv : RQ → Wish → Int) (e : Ending) (w' : World) : Prop :=
  ∃ g M, e = .returned (.pointer (some ⟨g, 0, none⟩)) ∧ Matched l rs sv M ∧ St W w' [blk g 184 (cellsM M).toArray]
attribute [local go_sem] Oper.semAt_some
set_option maxRecDepth 100000 in
set_option maxHeartbeats 4000000 in
theorem match_any (W : World) (vl : Value) (nl n c : Nat) (A : Option Addr) (l : List Slot) (rs : List Req) (sf : Nat) (hl : Rd W (· < W.heap.size) 3 vl nl (l.flatMap Slot.cells)) (h : RdReqs W (· < W.heap.size) (.slice A n c) n rs)
    (sv : RQ → Wish → Int) (eg : Enters Tryz.prog sf) (hC : ∀ (x : Req) (y : Wish) (w : World), x ∈ rs → y ∈ x.ws → Calls Tryz.prog sf #[x.val, y.val] w fun e w' => e = .returned (.int .i64 (sv x.rq y)) ∧ Below w.heap.size w w') (hsv : SvOk (rs.map Req.rq) sv) (hok : ∀ s ∈ l, 1 ≤ s.p ∧ s.p ≤ 8) (hl24 : l.length ≤ 24) (hr24 : rs.length ≤ 24) :
    Calls Tryz.prog 81 #[vl, .slice A n c, .func (.func sf) #[] #[]] W (RetMatch W l (rs.map Req.rq) sv) := by
  have HNL := Lib.hid (hl.count (f := Slot.cells) (size := 3) (fun _ => rfl) (by decide))
  have HN := Lib.hid (h.1.count (f := Req.cells) (size := 3) (fun _ => rfl) (by decide))
  have hn24 : n ≤ 24 := by rw [HN.out]; exact hr24
  have hnl24 : nl ≤ 24 := by rw [HNL.out]; exact hl24
  obtain ⟨Al, cl, rfl, _, _, _⟩ := hl.open_
  have S0 : St W ((((W.alloc (.cells #[.slice A n c] 60)).alloc (.cells #[.func (.func sf) #[] #[]] 132)).alloc (.cells (Tryz.zeroCells184.setIfInBounds 5668 (.int .i64 n)) 184)).alloc (.cells #[.pointer (some ⟨W.heap.size + 1 + 1, 0, none⟩)] 124))
      (matL W.heap.size n c A sf (mkM (fun _ _ => 0) (plc 0 (l.take 0)) n)) := by
    have := ((((St.refl W).blk_new #[.slice A n c] 60).blk_new #[.func (.func sf) #[] #[]] 132).blk_new (Tryz.zeroCells184.setIfInBounds 5668 (.int .i64 n)) 184).blk_new #[.pointer (some ⟨W.heap.size + 1 + 1, 0, none⟩)] 124
    simp only [World.size_alloc, List.nil_append, List.cons_append] at this
    rw [zc195, List.setIfInBounds_toArray, sM_rows] at this ⊢
    exact this.perm (List.perm_append_comm (l₁ := [_, _]) (l₂ := [_, _]))
  unfold Enters at eg
  have HSV := Lib.hid hsv
  have HC := Lib.hid hC
  clear hsv hC
  have HL := Lib.hid hl
  have HR := Lib.hid h
  have HOK := Lib.hid hok
  clear hl h hok
  refine (callsIn_wide (n := 6)).1 (callsIn_of_wp_marks Tryz.func81 rfl trivial (wpIn_wide.2 ?_) rfl)
  simp only [Tryz.ntmps81, List.size_toArray, List.length_cons, List.length_nil, Nat.reduceAdd, Nat.reduceSub, Array.replicate_succ, Array.replicate_zero, List.push_toArray, List.append_toArray, List.nil_append, List.cons_append]
  go_wp2
  generalize (((W.alloc (.cells #[.slice A n c] 60)).alloc (.cells #[.func (.func sf) #[] #[]] 132)).alloc (.cells (Tryz.zeroCells184.setIfInBounds 5668 (.int .i64 n)) 184)).alloc (.cells #[.pointer (some ⟨W.heap.size + 1 + 1, 0, none⟩)] 124) = w4 at *
  generalize Tryz.zeroCells184.setIfInBounds 5668 (.int .i64 n) = zz
  generalize hB : W.heap.size = B at S0 ⊢
  have HB := Lib.hid hB
  clear hB
  go_loopw [22] (fun i w' => ∃ k : Nat, k ≤ nl ∧ i = .int .i64 k ∧ St W w' (matL B n c A sf (mkM (fun _ _ => 0) (plc 0 (l.take k)) n))) (fun i _ => nl - (intOf i).toNat)
  case atStart => exact ⟨0, Nat.zero_le _, rfl, S0⟩
  case round =>
    obtain ⟨k, hk, rfl, S⟩ := hrel
    clear S0
    by_cases hlt : k < nl
    · obtain ⟨b, o, s, rfl, hs, c0, c1, c2⟩ := (HL.out.below S.bel).elem3 (k := k) (fun s : Slot => .int .i64 s.m) (fun s : Slot => .int .i64 s.h) (fun s : Slot => .int .i64 s.p) (fun _ => rfl) hlt
      have HS := Lib.hid hs
      have hp := HOK.out s (List.mem_of_getElem? hs)
      have hp0 := hp.1
      have hp8 := hp.2
      have S1 := S.alloc (.cells #[.int .i64 s.m, .int .i64 s.h, .int .i64 s.p] 70)
      have hlen : (plc 0 (l.take k)).length ≤ 8 * k := by
        have := plc_len (l := l.take k) (fun s hs => (HOK.out s (List.mem_of_mem_take hs)).2) 0
        rw [List.length_take] at this
        omega
      obtain ⟨pn, hpn⟩ : ∃ pn : Nat, s.p = pn := ⟨s.p.toNat, by omega⟩
      have HPN := Lib.hid hpn
      rw [hpn] at c2 S1 hp0 hp8
      clear hs hp S hpn
      go_wp2
      obtain ⟨wo, rfl⟩ : ∃ wo : World, wo = wr := ⟨_, rfl⟩
      generalize wo.alloc (.cells #[.int .i64 s.m, .int .i64 s.h, .int .i64 pn] 70) = w1 at *
      clear c0 c1 c2
      go_loopw [29] (fun i w' => ∃ j : Nat, j ≤ pn ∧ i = .int .i64 j ∧ St W w' (matL B n c A sf (mkM (fun _ _ => 0) (plc 0 (l.take k) ++ List.replicate j (k : Int)) n))) (fun i _ => pn - (intOf i).toNat)
      case atStart => exact ⟨0, Nat.zero_le _, rfl, by rw [List.replicate_zero, List.append_nil]; exact S1⟩
      case round =>
        obtain ⟨j, hj, rfl, S⟩ := hrel
        clear S1
        by_cases hlt2 : j < pn
        · have hcl : (plc 0 (l.take k) ++ List.replicate j (k : Int)).length ≤ 200 := by rw [List.length_append, List.length_replicate]; omega
          have hnx : plc 0 (l.take k) ++ List.replicate (j + 1) (k : Int) = (plc 0 (l.take k) ++ List.replicate j (k : Int)) ++ [(k : Int)] := by rw [List.replicate_succ', List.append_assoc]
          have HNX := Lib.hid hnx
          clear hnx
          generalize plc 0 (l.take k) ++ List.replicate j (k : Int) = cs at *
          have d1 := mat_m S
          have d2 := mat_n S
          rw [show (mkM (fun _ _ => 0) cs n).n = cs.length from rfl] at d2
          have d3 := mat_fz S 5669
          have d4 := mat_fz S (5450 + (cs.length + 1))
          have d5 := mas_push1 S (by omega)
          have HF := Lib.hid (mas_push S (by omega) (k : Int))
          clear S
          go_wp2
          go_region
          go_wp2
          go_roundw
          case rel => exact ⟨j + 1, by omega, by go_num, by rw [HNX.out]; exact HF.out.drew⟩
          case measure => simp [intOf]; omega
        · obtain rfl : j = pn := by omega
          have HF : Hid (St W wr (matL B n c A sf (mkM (fun _ _ => 0) (plc 0 (l.take (k + 1))) n))) := by
            show St _ _ _
            rw [plc_succ HS.out, HPN.out, Int.toNat_natCast]
            exact S
          clear S
          go_wp2
          go_roundw
          case rel => exact ⟨k + 1, by omega, by go_num, HF.out⟩
          case measure => simp [intOf]; omega
    · have hkk : k = nl := by omega
      rw [hkk, List.take_of_length_le (Nat.le_of_eq HNL.out.symm)] at S
      have hlen : (plc 0 l).length ≤ 192 := by
        have := plc_len (l := l) (fun s hs => (HOK.out s hs).2) 0
        have := HNL.out
        omega
      obtain ⟨kk, hkn⟩ : ∃ c : Int, c = (k : Int) := ⟨_, rfl⟩
      rw [← hkn]
      have hkk2 : (nl : Int) ≤ kk := by omega
      have hdf : decide (kk < (nl : Int)) = false := by simpa using hkk2
      clear hkn hkk hlt
      have d3 := mat_r S
      go_wp2
      generalize hpl : plc 0 l = pl at *
      have HPL := Lib.hid hpl
      clear hpl
      clear d3
      go_loopw [52] (fun i w' => ∃ j : Nat, j ≤ n + 1 ∧ i = .int .i64 j ∧ St W w' (matL B n c A sf (mkM (fun _ _ => 0) (pl ++ List.replicate j (-1)) n))) (fun i _ => n + 1 - (intOf i).toNat)
      case atStart => exact ⟨0, Nat.zero_le _, rfl, by rw [List.replicate_zero, List.append_nil]; exact S⟩
      case round =>
        obtain ⟨j, hj, rfl, S2⟩ := hrel
        clear S
        by_cases hlt2 : j < n + 1
        · have hcl : (pl ++ List.replicate j (-1 : Int)).length ≤ 216 := by rw [List.length_append, List.length_replicate]; omega
          have hnx : pl ++ List.replicate (j + 1) (-1 : Int) = (pl ++ List.replicate j (-1)) ++ [-1] := by rw [List.replicate_succ', List.append_assoc]
          have HNX := Lib.hid hnx
          clear hnx
          generalize pl ++ List.replicate j (-1 : Int) = cs at *
          have d1 := mat_m S2
          have d2 := mat_n S2
          rw [show (mkM (fun _ _ => 0) cs n).n = cs.length from rfl] at d2
          have d3 := mat_fz S2 5669
          have d4 := mat_fz S2 (5450 + (cs.length + 1))
          have d5 := mas_push1 S2 (by omega)
          have HF := Lib.hid (mas_push S2 (by omega) (-1))
          clear S2
          go_wp2
          go_region
          go_wp2
          go_roundw
          case rel => exact ⟨j + 1, by omega, by go_num, by rw [HNX.out]; exact HF.out.drew⟩
          case measure => simp [intOf]; omega
        · have hjj : j = n + 1 := by omega
          rw [hjj] at S2
          have hcs : pl ++ List.replicate (n + 1) (-1 : Int) = colsL l n := by rw [colsL, HPL.out]
          have hcl : (colsL l n).length = pl.length + n + 1 := by rw [colsL_len, HPL.out]
          rw [hcs] at S2
          have HCL := Lib.hid hcl
          have hcl2 : (colsL l n).length ≤ 217 := by omega
          generalize hcc : colsL l n = cs at *
          have HCC := Lib.hid hcc
          clear hcs hcc hcl
          obtain ⟨jj, hjn⟩ : ∃ c : Int, c = (j : Int) := ⟨_, rfl⟩
          rw [← hjn]
          have hjj2 : (n : Int) + 1 ≤ jj := by omega
          have hdf2 : decide (jj < (n : Int) + 1) = false := by simpa using hjj2
          clear hjn hjj hlt2
          have d3 := mat_r S2
          go_wp2
          clear d3
          obtain ⟨wo, rfl⟩ : ∃ wo : World, wo = wr := ⟨_, rfl⟩
          go_loopw [72] (fun i w' => ∃ k : Nat, k ≤ n ∧ i = .int .i64 k ∧ St W w' (matL B n c A sf (mkM (fillF cs k 1) cs n))) (fun i _ => n - (intOf i).toNat)
          case atStart => exact ⟨0, Nat.zero_le _, rfl, by rw [fillF_start]; exact S2⟩
          case round =>
            obtain ⟨i, hi, rfl, S⟩ := hrel
            clear S2
            by_cases hlt3 : i < n
            · go_wp2
              obtain ⟨wo2, rfl⟩ : ∃ wo2 : World, wo2 = wr := ⟨_, rfl⟩
              go_loopw [11] (fun kk w' => ∃ k : Nat, 1 ≤ k ∧ k ≤ cs.length + 1 ∧ kk = .int .i64 k ∧ St W w' (matL B n c A sf (mkM (fillF cs i k) cs n))) (fun kk _ => cs.length + 1 - (intOf kk).toNat)
              case atStart => exact ⟨1, Nat.le_refl _, by omega, rfl, S⟩
              case round =>
                obtain ⟨k, hk1, hk2, rfl, S3⟩ := hrel
                clear S
                have d1 := mat_m S3
                have d2 := mat_n S3
                rw [show (mkM (fillF cs i k) cs n).n = cs.length from rfl] at d2
                by_cases hlt4 : k ≤ cs.length
                · have hle : decide ((k : Int) ≤ cs.length) = true := by simpa using hlt4
                  have d3 := mat_worth S3 (r := i + 1) (k := k) (by omega) (by omega)
                  have d4 := mat_fz S3 ((i + 1) * 218 + k)
                  have S4 := mas_worth S3 (r := i + 1) (k := k) (by omega) (by omega) (-1099511627776)
                  have d5 := mat_slot S4 (k := k) (by omega)
                  have d6 := mat_m S4
                  rw [show ({ mkM (fillF cs i k) cs n with worth := fun a b => if a = i + 1 ∧ b = k then -1099511627776 else (mkM (fillF cs i k) cs n).worth a b } : Mt).slot k = slotOf cs k from rfl] at d5
                  by_cases hneg : slotOf cs k < 0
                  · have S5 := mas_worth S4 (r := i + 1) (k := k) (by omega) (by omega) 0
                    have d7 := mat_worth S4 (r := i + 1) (k := k) (by omega) (by omega)
                    have d8 := mat_fz S4 ((i + 1) * 218 + k)
                    have HF : Hid (St W ((wr.setCell ⟨B + 1 + 1, (i + 1) * 218 + k, none⟩ (.int .i64 (-1099511627776))).setCell ⟨B + 1 + 1, (i + 1) * 218 + k, none⟩ (.int .i64 0)) (matL B n c A sf (mkM (fillF cs i (k + 1)) cs n))) := by
                      show St _ _ _
                      rw [← fillF_step cs i k hk1 hlt4 0 (by rw [if_pos hneg])]
                      have e : (fun a b => if a = i + 1 ∧ b = k then (0 : Int) else if a = i + 1 ∧ b = k then -1099511627776 else fillF cs i k a b) = (fun a b => if a = i + 1 ∧ b = k then 0 else fillF cs i k a b) := by
                        funext a b
                        by_cases h : a = i + 1 ∧ b = k
                        · rw [if_pos h, if_pos h]
                        · rw [if_neg h, if_neg h, if_neg h]
                      rw [← e]
                      exact S5
                    generalize slotOf cs k = sk at *
                    clear S3 S4 S5
                    go_wp2
                    go_roundw
                    case rel => exact ⟨k + 1, by omega, by omega, by go_num, HF.out⟩
                    case measure => simp [intOf]; omega
                  · have HF : Hid (St W (wr.setCell ⟨B + 1 + 1, (i + 1) * 218 + k, none⟩ (.int .i64 (-1099511627776))) (matL B n c A sf (mkM (fillF cs i (k + 1)) cs n))) := by
                      show St _ _ _
                      rw [← fillF_step cs i k hk1 hlt4 (-1099511627776) (by rw [if_neg hneg]; rfl)]
                      exact S4
                    generalize slotOf cs k = sk at *
                    clear S3 S4
                    go_wp2
                    go_roundw
                    case rel => exact ⟨k + 1, by omega, by omega, by go_num, HF.out⟩
                    case measure => simp [intOf]; omega
                · have hle : decide ((k : Int) ≤ cs.length) = false := by simp; omega
                  have hkk3 : k = cs.length + 1 := by omega
                  rw [hkk3, fillF_next] at S3
                  clear hkk3
                  go_wp2
                  go_roundw
                  case rel => exact ⟨i + 1, by omega, by go_num, S3⟩
                  case measure => simp [intOf]; omega
            · have hii : i = n := by omega
              rw [hii] at S
              obtain ⟨ii, hin⟩ : ∃ c : Int, c = (i : Int) := ⟨_, rfl⟩
              rw [← hin]
              have hii2 : (n : Int) ≤ ii := by omega
              have hdf3 : decide (ii < (n : Int)) = false := by simpa using hii2
              clear hin hii hlt3
              have d3 := mat_r S
              go_wp2_with fail
              refine (wishes_any _ _ _ _).mono ?_
              rintro e w5 ⟨rfl, hw5⟩
              have S5 := S.alloc (.cells #[.slice A n c] 60)
              have hbx : w5.cell? ⟨wr.heap.size, 0, none⟩ = some (.slice A n c) := by
                rw [hw5]
                show (wr.alloc (.cells #[.slice A n c] 60)).cell? _ = _
                simp
              have hw5' : w5 = wr.alloc (.cells #[.slice A n c] 60) := hw5
              rw [← hw5'] at S5
              have hsz : W.heap.size ≤ w5.heap.size := S5.size
              clear hw5 hw5' d3 S
              go_wp2
              have HRW : RdReqs w5 (· < W.heap.size) (.slice A n c) n rs := ⟨HR.out.1.below S5.bel, fun r hr => ⟨(HR.out.2 r hr).1.below S5.bel, (HR.out.2 r hr).2⟩⟩
              refine (wpIn_wide (n := 5)).1 ?_
              refine wpIn_rangeFunc_ownH (F := Fence.wide) rfl (by decide) (gf := 136) (lb := #[.pointer (some ⟨wr.heap.size, 0, none⟩)]) rfl trivial (enters Tryz.func136 (by kernel_rfl) rfl)
                (wishes1_stops 4 (by decide) w5 wr.heap.size W.heap.size n c A rs hbx HRW hsz) belowK_t (belowK_b hsz) (Below.refl _ _) (fun _ => rfl)
                (fun (pre : List { p : Nat × Wish // IsW rs p }) X => StB W w5.heap.size X (matL B n c A sf (mkM (wishAll cs sv (rs.map Req.rq) (fillF cs n 1) (pre.map Subtype.val)) cs n)))
                (fun _ _ _ => False) (fun s X Y row hs hg hr => hs.turn hg fun r e => (hr r e).1) (fun _ _ _ _ _ h _ _ => h.elim) S5.toB
                (fun p a' X => RoundA B w5.heap.size p.1.1 p.1.2 a' X)
                (fun p a' _ X Y row hs hg hr => ?hax) ?assign ?body ?done ?stop
              case hax =>
                obtain ⟨h1, h2, h3, h4, h5, h6, Bx, h7, h8, h9⟩ := hs
                exact ⟨h1, h2, h3, h4, h5, h6, Bx, h7, h8, (hg.block Bx (Array.getElem?_eq_some_iff.1 h9).1 (fun e => by obtain ⟨_, o, ho, hc⟩ := hr Bx e.symm; rw [h9] at ho; cases ho; cases hc)).trans h9⟩
              case assign =>
                intro lp pre p X K hi hK
                gi_wp2
                exact hK _ _ ((KeepsOthers.alloc _ _).from _) ((Below.refl _ X).alloc hi.bel.size _) (hi.ext ((Below.refl _ _).alloc (Nat.le_refl _) _)) ⟨rfl, rfl, rfl, rfl, rfl, rfl, X.heap.size, hi.hi, rfl, heap_alloc_new X _⟩
              case stop =>
                intro D cc pre X _ _ h _
                exact h.elim
              case body =>
                intro lp pre p a' X hlp hrec hI hA5 hlen5
                obtain ⟨h1, h2, h3, h4, h5, h6, Bx, h7, h8, h9⟩ := hA5
                obtain ⟨T, dfs⟩ := a'
                dsimp only at h1 h2 h3 h4 h5 h6 h8
                subst h6
                obtain ⟨f, rfl⟩ := frame155 h1 h2 h3 h4 h5 h8
                clear h1 h2 h3 h4 h5 h8 hrec
                obtain ⟨⟨i5, y⟩, x, hx, hy⟩ := p
                dsimp only at hx hy h9 hlen5
                have hbx0 : X.cell? ⟨Bx, 0, none⟩ = some (.int .i64 y.s) := by rw [cell_of_row X Bx 0 _ _ _ h9]; rfl
                have hbx1 : X.cell? ⟨Bx, 1, none⟩ = some (.int .i64 y.w) := by rw [cell_of_row X Bx 1 _ _ _ h9]; rfl
                have hbxlt : Bx < X.heap.size := (Array.getElem?_eq_some_iff.1 h9).1
                have hi5 : i5 < n := by rw [HN.out]; exact (List.getElem?_eq_some_iff.1 hx).1
                generalize hFF : wishAll cs sv (rs.map Req.rq) (fillF cs n 1) (pre.map Subtype.val) = FF at hI
                generalize hB5 : w5.heap.size = B5 at *
                have hRd : WishR W B B5 Bx n c sf A cs (sv x.rq y) i5 y FF X (.int .i64 1) X :=
                  ⟨1, Nat.le_refl _, by omega, rfl, by rw [wishF_start]; exact hI, hbx0, hbx1, hbxlt, KeepsFrom.refl _ _, Below.refl _ _⟩
                gi_wp2
                gi_loopw [14] (fun kk w' => WishR W B B5 Bx n c sf A cs (sv x.rq y) i5 y FF X kk w') (fun kk _ => cs.length + 1 - (intOf kk).toNat)
                case atStart => exact hRd
                case round =>
                  clear hRd hI hbx0 hbx1
                  obtain ⟨k, hk1, hk2, rfl, S, b0, b1, blt, kf, bel⟩ := hrel
                  have d1 := mat_m S.st
                  have d2 := mat_n S.st
                  rw [show (mkM (wishF cs (sv x.rq y) i5 y.s k FF) cs n).n = cs.length from rfl] at d2
                  by_cases hlt : k ≤ cs.length
                  · have hle : decide ((k : Int) ≤ cs.length) = true := by simpa using hlt
                    have d3 := mat_slot S.st (k := k) (by omega)
                    rw [show (mkM (wishF cs (sv x.rq y) i5 y.s k FF) cs n).slot k = slotOf cs k from rfl] at d3
                    have l1 := World.block_lt_of_cell? wr _ d1
                    have l3 := World.block_lt_of_cell? wr _ d3
                    gi_wp2
                    refine wpIn_cls 8 (fun w' => Below wr.heap.size wr w') (by kernel_rfl) (by kernel_rfl) (by kernel_rfl) (Below.refl _ _).drew ?_
                    simp only [List.take_succ_cons, List.take_zero, List.drop_succ_cons, List.drop_zero]
                    generalize hK : (fun w' => Below wr.heap.size wr w') = K
                    intro hne
                    have kb : ∀ y : Wd K, Below wr.heap.size wr y.w := by subst hK; exact fun y => y.h
                    have k1 : ∀ y : Wd K, y.w.cell? ⟨B + 1 + 1 + 1, 0, none⟩ = _ := fun y => ((kb y).cell (p := ⟨B + 1 + 1 + 1, 0, none⟩) l1).trans d1
                    have k3 : ∀ y : Wd K, y.w.cell? ⟨B + 1 + 1, 5450 + k, none⟩ = _ := fun y => ((kb y).cell (p := ⟨B + 1 + 1, 5450 + k, none⟩) l3).trans d3
                    have k5 : ∀ z : Wd K, z.w.cell? ⟨Bx, 0, none⟩ = _ := fun z => ((kb z).cell (p := ⟨Bx, 0, none⟩) blt).trans b0
                    clear hK
                    repeat (go_big_quiet_step (fail))
                    refine wpQuiet_nil ?_
                    intro z
                    have hb := kb z
                    have b0' := (hb.cell (p := ⟨Bx, 0, none⟩) blt).trans b0
                    have b1' := (hb.cell (p := ⟨Bx, 1, none⟩) blt).trans b1
                    have blt' := Nat.lt_of_lt_of_le blt hb.size
                    have S' := S.ext hb
                    have kf' := kf.trans (keeps_below hb)
                    have bel' := bel.trans (hb.mono S.bel.size)
                    clear k1 k3 k5 kb hne d1 d2 d3 l1 l3 S b0 b1 blt kf bel
                    generalize z.w = w7 at *
                    by_cases he : slotOf cs k = y.s
                    · have hbe : (slotOf cs k == y.s) = true := by simpa using he
                      have d1 := mat_m S'.st
                      have d2 := mat_r S'.st
                      have d3 := mat_s S'.st
                      obtain ⟨bq, oq, xq, hAq, hxq, c0, c1, c2⟩ := (HR.out.1.below S'.bel).elem3 (k := i5) (fun s : Req => .string s.name) (fun s : Req => .bool s.g) (fun s : Req => .slice s.wa s.wn s.wc) (fun _ => rfl) hi5
                      obtain rfl : xq = x := by rw [hx] at hxq; exact (Option.some.inj hxq).symm
                      have d4 := mat_worth S'.st (r := i5 + 1) (k := k) (by omega) (by omega)
                      have hin5 : (i5 : Int) < n := by omega
                      have l1 := World.block_lt_of_cell? w7 _ d1
                      have l2 := World.block_lt_of_cell? w7 _ d2
                      have l3 := World.block_lt_of_cell? w7 _ d3
                      have l4 := World.block_lt_of_cell? w7 _ d4
                      have l5 := World.block_lt_of_cell? w7 _ c0
                      rw [hAq] at d2
                      clear hxq
                      gi_wp2
                      refine wpIn_cls 15 (fun w' => Below w7.heap.size w7 w') (by kernel_rfl) (by kernel_rfl) (by kernel_rfl) (Below.refl _ _).drew ?_
                      simp only [List.take_succ_cons, List.take_zero, List.drop_succ_cons, List.drop_zero]
                      have hK2 : ∀ w w' : World, Below w7.heap.size w7 w → Below w.heap.size w w' → Below w7.heap.size w7 w' := fun w w' h h' => h.trans (h'.mono h.size)
                      generalize hK : (fun w' => Below w7.heap.size w7 w') = K
                      intro hne
                      have kb : ∀ y : Wd K, Below w7.heap.size w7 y.w := by subst hK; exact fun y => y.h
                      have hK3 : ∀ w w' : World, K w → Below w.heap.size w w' → K w' := by subst hK; exact hK2
                      have k1 : ∀ y : Wd K, y.w.cell? ⟨B + 1 + 1 + 1, 0, none⟩ = _ := fun y => ((kb y).cell (p := ⟨B + 1 + 1 + 1, 0, none⟩) l1).trans d1
                      have k2 : ∀ y : Wd K, y.w.cell? ⟨B, 0, none⟩ = _ := fun y => ((kb y).cell (p := ⟨B, 0, none⟩) l2).trans d2
                      have k3 : ∀ y : Wd K, y.w.cell? ⟨B + 1, 0, none⟩ = _ := fun y => ((kb y).cell (p := ⟨B + 1, 0, none⟩) l3).trans d3
                      have k5 : ∀ z : Wd K, z.w.cell? ⟨Bx, 0, none⟩ = _ := fun z => ((kb z).cell (p := ⟨Bx, 0, none⟩) blt').trans b0'
                      have k6 : ∀ z : Wd K, z.w.cell? ⟨Bx, 1, none⟩ = _ := fun z => ((kb z).cell (p := ⟨Bx, 1, none⟩) blt').trans b1'
                      have k7 : ∀ z : Wd K, z.w.cell? ⟨bq, oq + i5 * 3, none⟩ = _ := fun z => ((kb z).cell (p := ⟨bq, oq + i5 * 3, none⟩) l5).trans c0
                      have k8 : ∀ z : Wd K, z.w.cell? ⟨bq, oq + i5 * 3 + 1, none⟩ = _ := fun z => ((kb z).cell (p := ⟨bq, oq + i5 * 3 + 1, none⟩) l5).trans c1
                      have k9 : ∀ z : Wd K, z.w.cell? ⟨bq, oq + i5 * 3 + 2, none⟩ = _ := fun z => ((kb z).cell (p := ⟨bq, oq + i5 * 3 + 2, none⟩) l5).trans c2
                      clear hK hK2
                      repeat (go_big_quiet_step (exact cls_below hK3 (HC.out xq y _ (List.mem_of_getElem? hx) hy)))
                      refine wpQuiet_nil ?_
                      intro z
                      have hb7 := kb z
                      clear k1 k2 k3 k5 k6 k7 k8 k9 kb hne hK3
                      generalize z.w = w8 at *
                      have S10 := S'.ext hb7
                      have e0 := mat_worth S10.st (r := i5 + 1) (k := k) (by omega) (by omega)
                      have e1 := mat_fz S10.st ((i5 + 1) * 218 + k)
                      have f0 := (hb7.cell (p := ⟨Bx, 0, none⟩) blt').trans b0'
                      have f1 := (hb7.cell (p := ⟨Bx, 1, none⟩) blt').trans b1'
                      have S11 := masB_worth S10 (r := i5 + 1) (k := k) (by omega) (by omega) (sv xq.rq y)
                      have hneg : Bx ≠ B + 1 + 1 := by
                        have := (S10.st.blk_at (i := 0) rfl).2.1
                        intro e
                        have hg2 : B + 1 + 1 < B5 := by
                          have hb1 := S10.sep
                          obtain ⟨F1, q1, ⟨_, q2⟩, _⟩ := hb1
                          exact (q1 _ q2).2
                        omega
                      have g0 : (w8.setCell ⟨B + 1 + 1, (i5 + 1) * 218 + k, none⟩ (.int .i64 (sv xq.rq y))).cell? ⟨Bx, 0, none⟩ = some (.int .i64 y.s) := (World.cell?_of_block (Below.heap_setCell _ _ _ _ hneg)).trans f0
                      have g1 : (w8.setCell ⟨B + 1 + 1, (i5 + 1) * 218 + k, none⟩ (.int .i64 (sv xq.rq y))).cell? ⟨Bx, 1, none⟩ = some (.int .i64 y.w) := (World.cell?_of_block (Below.heap_setCell _ _ _ _ hneg)).trans f1
                      have g2 : Bx < (w8.setCell ⟨B + 1 + 1, (i5 + 1) * 218 + k, none⟩ (.int .i64 (sv xq.rq y))).heap.size := World.block_lt_of_cell? _ _ g0
                      have g3 : KeepsFrom B5 X (w8.setCell ⟨B + 1 + 1, (i5 + 1) * 218 + k, none⟩ (.int .i64 (sv xq.rq y))) := (kf'.trans (keeps_below hb7)).trans ((KeepsOthers.setCell _ _ _).from _)
                      have g4 : Below W.heap.size X (w8.setCell ⟨B + 1 + 1, (i5 + 1) * 218 + k, none⟩ (.int .i64 (sv xq.rq y))) := (bel'.trans (hb7.mono S'.bel.size)).setCell (p := ⟨B + 1 + 1, (i5 + 1) * 218 + k, none⟩) (by show W.heap.size ≤ B + 1 + 1; rw [HB.out]; omega) _
                      have S12 : StB W B5 (w8.setCell ⟨B + 1 + 1, (i5 + 1) * 218 + k, none⟩ (.int .i64 (sv xq.rq y))) (matL B n c A sf (mkM (wishF cs (sv xq.rq y) i5 y.s (k + 1) FF) cs n)) := by
                        rw [← wishF_hit cs _ i5 y.s k FF hk1 he]
                        exact S11
                      have HS12 := Lib.hid S12
                      clear S10 S11 S12 S' d1 d2 d3 d4 b0' b1' c0 c1 c2 kf' bel' hb7 f0 f1
                      gi_wp2
                      go_roundw
                      case rel => exact ⟨k + 1, by omega, by omega, by go_num, HS12.out, g0, g1, g2, g3, g4⟩
                      case measure => simp [intOf]; omega
                    · have hbe : (slotOf cs k == y.s) = false := by simpa using he
                      have S8 := S'
                      rw [wishF_miss cs _ i5 y.s k FF he] at S8
                      have HS8 := Lib.hid S8
                      clear S8 S'
                      gi_wp2
                      go_roundw
                      case rel => exact ⟨k + 1, by omega, by omega, by go_num, HS8.out, b0', b1', blt', kf', bel'⟩
                      case measure => simp [intOf]; omega
                  · have hle : decide ((k : Int) ≤ cs.length) = false := by simp; omega
                    have hkk9 : k = cs.length + 1 := by omega
                    have hsv9 : svI sv (rs.map Req.rq) (i5, y) = sv x.rq y := by
                      rw [svI]
                      simp only [List.getElem?_map, hx, Option.map_some]
                    have S9 : StB W B5 wr (matL B n c A sf (mkM (wishAll cs sv (rs.map Req.rq) (fillF cs n 1) ((pre ++ [(⟨(i5, y), x, hx, hy⟩ : { p : Nat × Wish // IsW rs p })]).map Subtype.val)) cs n)) := by
                      rw [List.map_append, List.map_cons, List.map_nil, wishAll_snoc, hFF, hsv9, ← hkk9]
                      exact S
                    clear hsv9
                    gi_wp2
                    exact ⟨kf, bel, S9⟩
              case done =>
                intro D xs X hD hS hI hK
                have S6 := hI.push_obj hD hK
                have hS' : xs.map Subtype.val = wl 0 rs := hS
                rw [hS', wl_eq] at S6
                have hM0 : mkM (wishAll cs sv (rs.map Req.rq) (fillF cs n 1) (wlQ 0 (rs.map Req.rq))) cs n = m0 l (rs.map Req.rq) sv := by
                  rw [m0, List.length_map, ← HN.out, ← HCC.out]
                rw [hM0] at S6
                have hbase := wishAll_base l (rs.map Req.rq) sv HSV.out
                rw [List.length_map, ← HN.out] at hbase
                have hN0 : (m0 l (rs.map Req.rq) sv).n = (plc 0 l).length + n + 1 := by
                  show (colsL l (rs.map Req.rq).length).length = _
                  rw [colsL_len, List.length_map, ← HN.out]
                have hR0 : (m0 l (rs.map Req.rq) sv).rows = n := by
                  show (rs.map Req.rq).length = n
                  rw [List.length_map, ← HN.out]
                have hA0 : Hid (AddAllR W (matL B n c A sf) D (m0 l (rs.map Req.rq) sv) n (.int .i64 1) X) :=
                  ⟨0, m0 l (rs.map Req.rq) sv, Nat.zero_le _, rfl, m0_hm _ _ _, m0_lens _ _ _, rfl, rfl, rfl, rfl, S6, rfl⟩
                have hplc : (plc 0 l).length ≤ 192 := by rw [HPL.out]; exact hlen
                have HBASE := Lib.hid hbase
                have HN0 := Lib.hid hN0
                have HR0 := Lib.hid hR0
                clear hI hK hS S6 hM0 hbase hN0 hR0 S5 hbx
                generalize hm0 : m0 l (rs.map Req.rq) sv = M0 at *
                have HM0 := Lib.hid hm0
                clear hm0
                go_wp2
                go_loopw [15] (fun i w' => AddAllR W (matL B n c A sf) D M0 n i w') (fun i _ => n + 1 - (intOf i).toNat)
                case atStart => exact hA0.out
                case round =>
                  clear hA0
                  obtain ⟨i, M, hi, rfl, hM, hL, e1, e2, e3, e4, S, hA⟩ := hrel
                  have HE1 := Lib.hid e1
                  have HE2 := Lib.hid e2
                  have HE3 := Lib.hid e3
                  have HE4 := Lib.hid e4
                  have HA := Lib.hid hA
                  have d1 : wr.cell? ⟨B + 1 + 1 + 1, 0, none⟩ = some (.pointer (some ⟨B + 1 + 1, 0, none⟩)) := S.blk_cell (i := 1) rfl 0
                  have d2 : wr.cell? ⟨B + 1 + 1, 5668, none⟩ = some (.int .i64 (n : Int)) := by
                    rw [S.blk_cell (i := 0) rfl, List.getElem?_toArray, cM_rows M, e3, HR0.out]
                  clear e1 e2 e3 e4 hA
                  by_cases hlt : i < n
                  · have hle : decide ((i : Int) + 1 ≤ n) = true := by simp; omega
                    obtain ⟨M1, f1, f2, f3, f4, f5, f6, f7⟩ := add_ok (R := n) (P := (plc 0 l).length) hM hL (by rw [HE1.out]; exact HBASE.out) (by rw [HE4.out]; exact HN0.out) (by rw [HE4.out, HN0.out]; omega) hn24 (by omega)
                    have hadd := add_any W wr (B + 1 + 1) (i + 1) M M1 _ S hL (by rw [HE4.out, HN0.out]; omega) (by omega) (fun k a b => by have := hM.ple k a b; omega) f1
                    have HADD := Lib.hid hadd
                    have HF1 := Lib.hid f1
                    have hA' := HA.out
                    rw [show n - i = (n - (i + 1)) + 1 by omega, addAll, f1] at hA'
                    have HA2 := Lib.hid hA'
                    have HNEW : ∀ w', St W w' (blk (B + 1 + 1) 184 (cellsM M1).toArray :: ((matL B n c A sf M ++ [obj D (.deferred (some []))]).tail)) → AddAllR W (matL B n c A sf) D M0 n (.int .i64 ((i : Int) + 1 + 1)) w' := fun w' hw' =>
                      ⟨i + 1, M1, by omega, rfl, f2, f3, f4.trans HE1.out, f5.trans HE2.out, f6.trans HE3.out, f7.trans HE4.out, hw', HA2.out⟩
                    have HNEW2 := Lib.hid HNEW
                    clear HNEW f1 f4 f5 f6 f7 hadd hA' S HA
                    go_wp2_with fail
                    refine HADD.out.mono ?_
                    rintro e w6 ⟨rfl, S7⟩
                    have HF := Lib.hid (HNEW2.out w6 S7)
                    clear S7 d1 d2
                    go_wp2
                    go_roundw
                    case rel => exact HF.out
                    case measure => simp [intOf]; omega
                  · have hle : decide ((i : Int) + 1 ≤ n) = false := by simp; omega
                    have hii : i = n := by omega
                    subst hii
                    have hK := S.obj_at (i := 4) rfl
                    have HEND := Lib.hid ((S.obj_set (i := 4) rfl (.deferred none)).sub (L' := [blk (B + 1 + 1) 184 (cellsM M).toArray]) (.cons_cons _ (.cons _ (.cons _ (.cons _ (.cons _ .slnil))))))
                    have HFIN : ∀ w', St W w' [blk (B + 1 + 1) 184 (cellsM M).toArray] → RetMatch W l (rs.map Req.rq) sv (.returned (.pointer (some ⟨B + 1 + 1, 0, none⟩))) w' := fun w' hw' => by
                      have hlen2 : (rs.map Req.rq).length = i := by rw [List.length_map, ← HN.out]
                      have h := HA.out
                      rw [Nat.sub_self, addAll] at h
                      refine ⟨B + 1 + 1, M, rfl, ⟨?_, by rw [hlen2]; exact hM, hL, by rw [HM0.out]; exact HE1.out, by rw [HM0.out]; exact HE2.out, by rw [hlen2, HE3.out, HR0.out], by rw [hlen2, HE4.out, HN0.out]⟩, hw'⟩
                      rw [matchF, hlen2, HM0.out]
                      exact h.symm
                    have HFIN2 := Lib.hid HFIN
                    clear HFIN S
                    go_wp2
                    refine ⟨by simp, .inl ⟨_, _, rfl, run_takeDeferred hK, ?_⟩⟩
                    refine ⟨_, results_tmp rfl _ _ _, ?_⟩
                    exact HFIN2.out _ HEND.out
end Go.Proofs.YtlffgdmljioaoaaGreatDoor
/- What solve, First, Most, Proof compute, as plain functions. -/
namespace Go.Sheet
def placesL (M : Mt) : Nat → Nat → List Int → List Int
  | 0, _, out => out
  | m + 1, k, out => placesL M m (k + 1) (if M.taken.getD k 0 = 0 then out else out.set (M.taken.getD k 0 - 1) (M.slot k))
def places (M : Mt) : List Int := placesL M M.n 1 (List.replicate M.rows 0)
theorem placesL_len (M : Mt) : ∀ (m k : Nat) (out : List Int), (placesL M m k out).length = out.length := by
  intro m
  induction m with
  | zero => intro k out; rfl
  | succ m ih =>
    intro k out
    rw [placesL, ih]
    split
    · rfl
    · rw [List.length_set]
theorem places_len (M : Mt) : (places M).length = M.rows := by rw [places, placesL_len, List.length_replicate]
def weightQ (x : RQ) (y : Wish) : Int := if x.g then y.w + 1000000 else y.w
def oneQ (_ : RQ) (_ : Wish) : Int := 1
/-- the value of a matching's assignment, if all guaranteed requests are servedN -/
def solveV : List RQ → List Int → Int → Option Int
  | x :: rs, s :: a, v => match x.ws.find? fun y => y.s == s with
    | some y => solveV rs a (v + y.w)
    | none => if x.g then none else solveV rs a v
  | _, _, v => some v
theorem solveV_hit {rs : List RQ} {a : List Int} {k : Nat} {x : RQ} {s : Int} {y : Wish} {v : Int} {r : Option Int} (hx : rs[k]? = some x) (hs : a[k]? = some s) (hy : x.ws.find? (fun y => y.s == s) = some y) (e : solveV (rs.drop k) (a.drop k) v = r) :
    solveV (rs.drop (k + 1)) (a.drop (k + 1)) (v + y.w) = r := by
  rw [← e, drop_at hx, drop_at hs, solveV, hy]
theorem solveV_miss {rs : List RQ} {a : List Int} {k : Nat} {x : RQ} {s : Int} {v : Int} {r : Option Int} (hx : rs[k]? = some x) (hs : a[k]? = some s) (hy : x.ws.find? (fun y => y.s == s) = none) (hg : x.g = false) (e : solveV (rs.drop k) (a.drop k) v = r) :
    solveV (rs.drop (k + 1)) (a.drop (k + 1)) v = r := by
  rw [← e, drop_at hx, drop_at hs, solveV, hy, hg]; rfl
theorem solveV_fail {rs : List RQ} {a : List Int} {k : Nat} {x : RQ} {s : Int} {v : Int} {r : Option Int} (hx : rs[k]? = some x) (hs : a[k]? = some s) (hy : x.ws.find? (fun y => y.s == s) = none) (hg : x.g = true) (e : solveV (rs.drop k) (a.drop k) v = r) :
    r = none := by
  rw [← e, drop_at hx, drop_at hs, solveV, hy, hg]; rfl
theorem solveV_end {rs : List RQ} {a : List Int} {k : Nat} {v : Int} {r : Option Int} (h : a.length ≤ k) (e : solveV (rs.drop k) (a.drop k) v = r) : r = some v := by
  rw [← e, List.drop_of_length_le h]
  cases rs.drop k <;> rfl
/-- what match and solve ask -/
structure MOk (l : List Slot) (rs : List RQ) : Prop where
  sp : ∀ s ∈ l, 1 ≤ s.p ∧ s.p ≤ 8
  nl : l.length ≤ 24
  nr : rs.length ≤ 24
  ws : ∀ x ∈ rs, ∀ y ∈ x.ws, 0 ≤ y.s ∧ 0 ≤ y.w ∧ y.w ≤ 10000
theorem MOk.sv {l : List Slot} {rs : List RQ} (h : MOk l rs) : SvOk rs weightQ where
  hi x hx y hy := by
    have := h.ws x hx y hy
    rw [weightQ]
    simp only [Wm]
    split <;> omega
  lo x hx y hy := by
    have := h.ws x hx y hy
    rw [weightQ]
    simp only [Far]
    split <;> omega
  slot x hx y hy := (h.ws x hx y hy).1
theorem MOk.sv1 {l : List Slot} {rs : List RQ} (h : MOk l rs) : SvOk rs oneQ where
  hi x hx y hy := by rw [oneQ]; decide
  lo x hx y hy := by rw [oneQ]; decide
  slot x hx y hy := (h.ws x hx y hy).1
theorem okay_mok {l : List Slot} {rs : List RQ} (h : Okay l rs) : MOk l rs where
  sp s hs := ⟨(h.slot s hs).2.2.2.2.1, (h.slot s hs).2.2.2.2.2⟩
  nl := h.nl
  nr := h.nr
  ws x hx y hy := by have := h.wish x hx y hy; omega
/-- the assignment and the value of the matching, or nothing -/
def solveQ (l : List Slot) (rs : List RQ) : Option (List Int × Int) :=
  match matchF l rs weightQ with
  | some M => (solveV rs (places M) 0).map fun v => (places M, v)
  | none => none
theorem Matched.solveQ {l : List Slot} {rs : List RQ} {M : Mt} (h : Matched l rs weightQ M) : Go.Sheet.solveQ l rs = (solveV rs (places M) 0).map fun v => (places M, v) := by
  rw [Go.Sheet.solveQ, h.eq]
def assign (l : List Slot) (rs : List RQ) : List Int × Int :=
  if checkRequests l rs ≠ 0 then ([], checkRequests l rs) else match solveQ l rs with
    | some (a, _) => (a, 0)
    | none => ([], 23)
def best (l : List Slot) (rs : List RQ) : Int × Int :=
  if checkRequests l rs ≠ 0 then (0, checkRequests l rs) else match solveQ l rs with
    | some (_, v) => (v, 0)
    | none => (0, 23)
def servedN : List Int → Int
  | [] => 0
  | s :: a => (if 0 ≤ s then 1 else 0) + servedN a
theorem servedN_snoc (a : List Int) (s : Int) : servedN (a ++ [s]) = servedN a + if 0 ≤ s then 1 else 0 := by
  induction a with
  | nil => simp [servedN]
  | cons x a ih => rw [List.cons_append, servedN, servedN, ih]; omega
def mostM (l : List Slot) (rs : List RQ) : Int := match matchF l rs oneQ with
  | some M => servedN (places M)
  | none => 0
def most (l : List Slot) (rs : List RQ) : Int × Int := if checkRequests l rs ≠ 0 then (0, checkRequests l rs) else (mostM l rs, 0)
end Go.Sheet
/- Walks: weight, places, solve. -/
namespace Go.Proofs.YtlffgdmljioaoaaGreatDoor
open Go.RowKit Go.Mem Go.Sheet
set_option maxRecDepth 100000 in
set_option maxHeartbeats 400000 in
theorem weight_any (x : Req) (y : Wish) (hy : 0 ≤ y.w ∧ y.w ≤ 10000) (w : World) : Calls Tryz.prog 122 #[x.val, y.val] w fun e w' => e = .returned (.int .i64 (weightQ x.rq y)) ∧ Below w.heap.size w w' := by
  have hb := ((Below.refl w.heap.size w).alloc (Nat.le_refl _) (.cells #[.string x.name, .bool x.g, .slice x.wa x.wn x.wc] 73)).alloc (by simp) (.cells #[.int .i64 y.s, .int .i64 y.w] 122)
  obtain ⟨h0, h1⟩ := hy
  go_enter Tryz.func122, Tryz.ntmps122
  cases hg : x.g with
  | true =>
    rw [hg] at hb
    go_wp2
    go_ret
    exact ⟨by rw [weightQ, show x.rq.g = x.g from rfl, hg]; rfl, hb⟩
  | false =>
    rw [hg] at hb
    go_wp2
    go_ret
    exact ⟨by rw [weightQ, show x.rq.g = x.g from rfl, hg]; rfl, hb⟩
set_option maxRecDepth 100000 in
theorem one_any (x : Req) (y : Wish) (w : World) : Calls Tryz.prog 82 #[x.val, y.val] w fun e w' => e = .returned (.int .i64 (oneQ x.rq y)) ∧ Below w.heap.size w w' := by
  have hb := ((Below.refl w.heap.size w).alloc (Nat.le_refl _) (.cells #[.string x.name, .bool x.g, .slice x.wa x.wn x.wc] 73)).alloc (by simp) (.cells #[.int .i64 y.s, .int .i64 y.w] 122)
  go_enter Tryz.func82, Tryz.ntmps82
  go_wp2
  go_ret
  exact ⟨rfl, hb⟩
set_option maxRecDepth 100000 in
set_option maxHeartbeats 2000000 in
theorem places_any (W w : World) (g : Nat) (M : Mt) (S : St W w [blk g 184 (cellsM M).toArray]) (hL : MLens M) (hn : M.n ≤ 217) (hr : M.rows ≤ 24) (ht : ∀ k, 1 ≤ k → k ≤ M.n → M.taken.getD k 0 ≤ M.rows) :
    Calls Tryz.prog 83 #[.pointer (some ⟨g, 0, none⟩)] w fun e w' => ∃ v', e = .returned v' ∧ St W w' [blk g 184 (cellsM M).toArray, row 3 1 v' M.rows (intsV (places M))] := by
  have d1 : w.cell? ⟨g, 5668, none⟩ = some (.int .i64 (M.rows : Int)) := by rw [S.blk_cell (i := 0) rfl, List.getElem?_toArray, cM_rows M]
  go_enter Tryz.func83, Tryz.ntmps83
  go_wp2_with (first
    | (at_make; refine wpList_make_st eltI rfl _ _ rfl rfl rfl S (by omega) (by omega) ?_; intro w4 gr S4 hg4 hb4)
    | fail)
  have hmc : (madeCells (Value.int .i64 0).cells (M.rows * 1)).toList = intsV (List.replicate M.rows 0) := by
    show (madeCells #[.int .i64 0] (M.rows * 1)).toList = _
    rw [toList_madeCells_one, intsV]; simp
  rw [hmc] at S4
  simp only [List.cons_append, List.nil_append] at S4
  clear S hmc d1 hg4 hb4
  go_loopw [4] (fun kk w' => ∃ (k : Nat) (out : List Int), 1 ≤ k ∧ k ≤ M.n + 1 ∧ kk = .int .i64 k ∧ out.length = M.rows ∧ St W w' [blk g 184 (cellsM M).toArray, row 3 1 (.slice (some ⟨gr, 0, none⟩) M.rows M.rows) M.rows (intsV out)] ∧ Hid (placesL M (M.n + 1 - k) k out = places M)) (fun kk _ => M.n + 1 - (intOf kk).toNat)
  case atStart => exact ⟨1, List.replicate M.rows 0, Nat.le_refl _, by omega, rfl, List.length_replicate, S4, rfl⟩
  case round =>
    obtain ⟨k, out, hk1, hk2, rfl, hlen, S, he⟩ := hrel
    have HLEN := Lib.hid hlen
    clear S4 hlen
    have d1 : wr.cell? ⟨g, 5669, none⟩ = some (.int .i64 (M.n : Int)) := by rw [S.blk_cell (i := 0) rfl, List.getElem?_toArray, cM_n M]
    by_cases hlt : k ≤ M.n
    · have hle : decide ((k : Int) ≤ M.n) = true := by simpa using hlt
      have d2 : wr.cell? ⟨g, 5913 + k, none⟩ = some (.int .i64 (M.taken.getD k 0 : Nat)) := by rw [S.blk_cell (i := 0) rfl, List.getElem?_toArray, cM_taken hL (by omega)]
      have d3 : wr.cell? ⟨g, 5450 + k, none⟩ = some (.int .i64 (M.slot k)) := by rw [S.blk_cell (i := 0) rfl, List.getElem?_toArray, cM_slot M (by omega)]
      have ht2 := ht k hk1 hlt
      have hst : M.n + 1 - k = (M.n + 1 - (k + 1)) + 1 := by omega
      have he2 := he.out
      rw [hst, placesL] at he2
      generalize htk : M.taken.getD k 0 = t at *
      clear hst he
      by_cases h0 : t = 0
      · rw [if_pos h0] at he2
        have HE := Lib.hid he2
        have hb : decide (0 < t) = false := by simp; omega
        clear he2 htk h0
        go_wp2
        go_roundw
        case rel => exact ⟨k + 1, out, by omega, by omega, by go_num, HLEN.out, S, HE.out⟩
        case measure => simp [intOf]; omega
      · rw [if_neg h0] at he2
        have HE := Lib.hid he2
        obtain ⟨j, rfl⟩ : ∃ j, t = j + 1 := ⟨t - 1, by omega⟩
        rw [Nat.add_sub_cancel] at HE
        have hj : j < M.rows := by omega
        have e1 : wr.cell? ⟨gr, j, none⟩ = some (.int .i64 (out.getD j 0)) := by
          rw [(S.row_own (i := 1) rfl).cellAt j (by omega), intsV_at _ _ (by rw [HLEN.out]; omega)]
        have e2 := (S.row_own (i := 1) rfl).frozenAt j
        have S5 := S.row_set (i := 1) rfl j (.int .i64 (M.slot k))
        simp only [List.set_cons_zero, List.set_cons_succ, intsV_set] at S5
        have HS := Lib.hid S5
        have ht3 : ((j + 1 : Nat) : Int) - 1 = j := by omega
        clear he2 htk h0 S S5
        generalize out.getD j 0 = uo at *
        go_wp2
        go_region
        go_wp2
        go_roundw
        case rel => exact ⟨k + 1, out.set j (M.slot k), by omega, by omega, by go_num, by rw [List.length_set]; exact HLEN.out, HS.out.drew, HE.out⟩
        case measure => simp [intOf]; omega
    · have hle : decide ((k : Int) ≤ M.n) = false := by simp; omega
      have hkk : k = M.n + 1 := by omega
      have he2 := he.out
      rw [hkk, Nat.sub_self, placesL] at he2
      rw [he2] at S
      clear he2 hkk he
      go_wp2
      go_ret
      exact ⟨_, rfl, S⟩
end Go.Proofs.YtlffgdmljioaoaaGreatDoor
