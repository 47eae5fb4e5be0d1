/- Part 9 of the walks of the golf union's program: WM5, SP, WM6, TailW, WR4. -/
import Derived.Test.YtjfhncnpmelopaaGreatDoorB08
import Derived.Test.YtjfhncnpmelopaaGreatDoorB04
import Derived.Outline
import Derived.Test.YtjfhncnpmelopaaGreatDoorB01
import Derived.OrdersHeld
import Derived.Deep.RegionHeld3
import Derived.RegionTactic
import Derived.Deep.RegionWith
set_option linter.unusedVariables false
set_option linter.unusedSimpArgs false
set_option linter.unusedSectionVars false
set_option linter.constructorNameAsVariable false
/- Walks: solved, Best, Assign, Most. -/
namespace Go.Proofs.YtjfhncnpmelopaaGreatDoor
open Go.RowKit Go.Mem Go.Sheet
/-- how solved ends -/
def RetSolved (W : World) (l : List Slot) (rs : List RQ) (e : Ending) (w' : World) : Prop :=
  (checkRequests l rs ≠ 0 ∧ e = .returned (.tuple #[.pointer none, .slice none 0 0, .int .i64 0, .int .i64 (checkRequests l rs)]) ∧ Below W.heap.size W w') ∨
  (checkRequests l rs = 0 ∧ ∃ M, Matched l rs weightQ M ∧
    ((solveV rs (places M) 0 = none ∧ e = .returned (.tuple #[.pointer none, .slice none 0 0, .int .i64 0, .int .i64 23]) ∧ Below W.heap.size W w') ∨
     ∃ v g va, solveV rs (places M) 0 = some v ∧ e = .returned (.tuple #[.pointer (some ⟨g, 0, none⟩), va, .int .i64 v, .int .i64 0]) ∧ St W w' [blk g 166 (cellsM M).toArray, row 3 1 va rs.length (intsV (places M))]))
set_option maxRecDepth 100000 in
set_option maxHeartbeats 1000000 in
theorem solved_any (W : World) (vl vr : Value) (nl n : Nat) (l : List Slot) (rs : List Req) (hl : Rd W (· < W.heap.size) 3 vl nl (l.flatMap Slot.cells)) (h : RdReqs W (· < W.heap.size) vr n rs) :
    Calls Tryz.prog 78 #[vl, vr] W (RetSolved W l (rs.map Req.rq)) := by
  have HC := Lib.hid (checkRequests_any W vl vr nl n l rs hl h)
  have HL := Lib.hid hl
  have HH := Lib.hid h
  have HK : Hid (checkRequests l (rs.map Req.rq) = 0 → MOk l (rs.map Req.rq)) := fun h => okay_mok (okay_of h)
  clear hl h
  go_enter Tryz.func78, Tryz.ntmps78
  go_wp2_with fail
  refine HC.out.mono ?_
  rintro e w2 ⟨rfl, hb⟩
  clear HC
  generalize hE : checkRequests l (rs.map Req.rq) = E at *
  have HE := Lib.hid hE
  clear hE
  by_cases h0 : (E != 0) = true
  · go_wp2
    refine bodyPost_ret (v := .tuple #[.pointer none, .slice none 0 0, .int .i64 0, .int .i64 E]) (by simp [results, Tryz.results78, go_sem]) rfl (.inl ⟨by rw [HE.out]; simpa using h0, by rw [HE.out], hb⟩)
  · have h0' : (E != 0) = false := by simpa using h0
    have hE0 : E = 0 := by simpa using h0
    have hok := HK.out hE0
    have HS := Lib.hid (solve_any w2 vl vr nl n l rs (HL.out.later hb) (reqs_later HH.out hb) hok)
    have HE0 := Lib.hid hE0
    clear hE0 h0 hok HK
    go_wp2_with fail
    refine HS.out.mono ?_
    rintro e w3 ⟨M, hM, hn, hs⟩
    cases hr : solveV (rs.map Req.rq) (places M) 0 with
    | none =>
      obtain ⟨rfl, hb3⟩ := hn hr
      have HF : Hid (RetSolved W l (rs.map Req.rq) (.returned (.tuple #[.pointer none, .slice none 0 0, .int .i64 0, .int .i64 23])) w3) :=
        .inr ⟨HE.out.trans HE0.out, M, hM, .inl ⟨hr, rfl, hb.trans (hb3.mono hb.size)⟩⟩
      clear hn hs hr hM HS
      go_wp2_with (go_at_call 94; refine (when_any _ _ _).mono ?_; rintro e w' ⟨rfl, rfl⟩)
      refine bodyPost_ret (v := .tuple #[.pointer none, .slice none 0 0, .int .i64 0, .int .i64 23]) (by simp [results, Tryz.results78, go_sem, whenE]) rfl HF.out
    | some v =>
      obtain ⟨g, va, rfl, S⟩ := hs v hr
      have HF : Hid (RetSolved W l (rs.map Req.rq) (.returned (.tuple #[.pointer (some ⟨g, 0, none⟩), va, .int .i64 v, .int .i64 0])) w3) :=
        .inr ⟨HE.out.trans HE0.out, M, hM, .inr ⟨v, g, va, hr, rfl, by have := (St.of_below hb).call S; simpa using this⟩⟩
      clear hn hs hr hM HS S
      go_wp2_with (go_at_call 94; refine (when_any _ _ _).mono ?_; rintro e w' ⟨rfl, rfl⟩)
      refine bodyPost_ret (v := .tuple #[.pointer (some ⟨g, 0, none⟩), va, .int .i64 v, .int .i64 0]) (by simp [results, Tryz.results78, go_sem, whenE]) rfl HF.out
theorem best_any (W : World) (vl vr : Value) (nl n : Nat) (l : List Slot) (rs : List Req) (hl : Rd W (· < W.heap.size) 3 vl nl (l.flatMap Slot.cells)) (h : RdReqs W (· < W.heap.size) vr n rs) :
    Calls Tryz.prog 16 #[vl, vr] W fun e w' => e = .returned (.tuple #[.int .i64 (best l (rs.map Req.rq)).1, .int .i64 (best l (rs.map Req.rq)).2]) ∧ Below W.heap.size W w' := by
  have HC := Lib.hid (solved_any W vl vr nl n l rs hl h)
  clear hl h
  go_enter Tryz.func16, Tryz.ntmps16
  go_wp2_with fail
  refine HC.out.mono ?_
  clear HC
  rintro e w2 (⟨h1, rfl, hb⟩ | ⟨h1, M, hM, ⟨hr, rfl, hb⟩ | ⟨v, g, va, hr, rfl, S⟩⟩)
  · have HF : Hid (best l (rs.map Req.rq) = (0, checkRequests l (rs.map Req.rq))) := by show _ = _; rw [best, if_pos h1]
    clear h1
    go_wp2
    go_ret2
    exact ⟨by rw [HF.out]; rfl, hb⟩
  · have HF : Hid (best l (rs.map Req.rq) = (0, 23)) := by show _ = _; rw [best, if_neg (fun h => h h1), hM.solveQ, hr]; rfl
    clear h1 hr hM
    go_wp2
    go_ret2
    exact ⟨by rw [HF.out]; rfl, hb⟩
  · have HF : Hid (best l (rs.map Req.rq) = (v, 0)) := by show _ = _; rw [best, if_neg (fun h => h h1), hM.solveQ, hr]; rfl
    have hb := S.bel
    clear h1 hr hM S
    go_wp2
    go_ret2
    exact ⟨by rw [HF.out]; rfl, hb⟩
set_option maxRecDepth 100000 in
set_option maxHeartbeats 1000000 in
theorem most_any (W : World) (vl vr : Value) (nl n : Nat) (l : List Slot) (rs : List Req) (hl : Rd W (· < W.heap.size) 3 vl nl (l.flatMap Slot.cells)) (h : RdReqs W (· < W.heap.size) vr n rs) :
    Calls Tryz.prog 19 #[vl, vr] W fun e w' => e = .returned (.tuple #[.int .i64 (most l (rs.map Req.rq)).1, .int .i64 (most l (rs.map Req.rq)).2]) ∧ Below W.heap.size W w' := by
  have HN := Lib.hid (h.1.count (f := Req.cells) (size := 3) (fun _ => rfl) (by decide))
  obtain ⟨A, c, rfl, _, _, _⟩ := h.1.open_
  have HC := Lib.hid (checkRequests_any W vl _ nl n l rs hl h)
  have HL := Lib.hid hl
  have HH := Lib.hid h
  have HK : Hid (checkRequests l (rs.map Req.rq) = 0 → MOk l (rs.map Req.rq)) := fun h => okay_mok (okay_of h)
  have HMO : Hid (most l (rs.map Req.rq) = if checkRequests l (rs.map Req.rq) ≠ 0 then (0, checkRequests l (rs.map Req.rq)) else (mostM l (rs.map Req.rq), 0)) := rfl
  clear hl h
  go_enter Tryz.func19, Tryz.ntmps19
  go_wp2_with fail
  refine HC.out.mono ?_
  rintro e w2 ⟨rfl, hb⟩
  clear HC
  generalize checkRequests l (rs.map Req.rq) = E at *
  by_cases h0 : (E != 0) = true
  · go_wp2
    go_ret2
    exact ⟨by rw [HMO.out, if_pos (by simpa using h0)]; rfl, hb⟩
  · have h0' : (E != 0) = false := by simpa using h0
    have hok := HK.out (by simpa using h0)
    have HMO2 := HMO.out
    rw [if_neg (by simpa using h0)] at HMO2
    have HMO := Lib.hid HMO2
    have hnr : rs.length ≤ 24 := by have := hok.nr; rwa [List.length_map] at this
    have hn24 : n ≤ 24 := by rw [HN.out]; exact hnr
    have HMC := Lib.hid (match_any w2 vl nl n c A l rs 83 (HL.out.later hb) (reqs_later HH.out hb) oneQ (enters Tryz.func83 (by kernel_rfl) rfl) (fun x y w _ _ => one_any x y w) hok.sv1 hok.sp hok.nl hnr)
    have HP := Lib.hid (plc_len (fun s hs => (hok.sp s hs).2) 0)
    have hnl24 := hok.nl
    clear HK h0 HMO2 hok
    go_wp2_with fail
    refine HMC.out.mono ?_
    rintro e w3 ⟨g, M, rfl, hM, S⟩
    have hrows : M.rows = n := by rw [hM.rows, List.length_map, HN.out]
    have hMn : M.n ≤ 217 := by
      have h1 := hM.n
      have h2 := HP.out
      rw [List.length_map] at h1
      omega
    have HPL := Lib.hid (places_any w2 w3 g M S hM.len hMn (by omega) (fun k a b => by have := hM.hm.ple k a b; rw [List.length_map, ← HN.out] at this; rw [hrows]; exact this))
    have HROWS := Lib.hid hrows
    have HMQ : Hid (mostM l (rs.map Req.rq) = servedN (places M)) := by show _ = _; rw [mostM, hM.eq]
    clear HMC S hrows hM
    go_wp2_with fail
    refine HPL.out.mono ?_
    rintro e w4 ⟨va, rfl, S⟩
    clear HPL
    have hpl := places_len M
    rw [HROWS.out] at S hpl
    have HPLN := Lib.hid hpl
    generalize hpp : places M = pl at *
    clear hpl hpp
    have S2 := (St.of_below hb).call S
    simp only [List.nil_append] at S2
    obtain ⟨Aa, ca, rfl, hc1, hc2, HR⟩ := (S2.row_rd (i := 1) rfl).open_
    have HRR := Lib.hid HR
    have hb4 := S2.bel
    clear S S2 HR hb
    unfold maxLen at hc2
    go_wp2
    go_loop [21, 7] (fun i v => ∃ k : Nat, k ≤ n ∧ i = .int .i64 k ∧ v = .int .i64 (servedN (pl.take k)) ∧ 0 ≤ servedN (pl.take k) ∧ servedN (pl.take k) ≤ k) (fun i _ => n - (intOf i).toNat)
    case atStart => exact ⟨0, Nat.zero_le _, rfl, rfl, by simp [servedN], by simp [servedN]⟩
    case round =>
      obtain ⟨k, hk, rfl, rfl, hs0, hs1⟩ := hrel
      by_cases hlt : k < n
      · obtain ⟨b, o, s, rfl, hs, c0⟩ := HRR.out.int hlt
        have e1 := servedN_snoc (pl.take k) s
        rw [← take_at hs] at e1
        have HE1 := Lib.hid e1
        generalize hsv : servedN (pl.take k) = sv at *
        have HSV := Lib.hid hsv
        clear hs e1 hsv
        by_cases hg : 0 ≤ s
        · go_wp2
          go_round
          case rel => exact ⟨k + 1, by omega, by go_num, by rw [HE1.out, if_pos hg], by rw [HE1.out, if_pos hg]; omega, by rw [HE1.out, if_pos hg]; omega⟩
          case measure => simp [intOf]; omega
        · go_wp2
          go_round
          case rel => exact ⟨k + 1, by omega, by go_num, by rw [HE1.out, if_neg hg, Int.add_zero], by rw [HE1.out, if_neg hg]; omega, by rw [HE1.out, if_neg hg]; omega⟩
          case measure => simp [intOf]; omega
      · have hkk : k = n := by omega
        have ht : Hid (pl.take k = pl) := List.take_of_length_le (by rw [HPLN.out]; omega)
        rw [ht.out]
        clear hs0 hs1
        go_wp2
        go_ret2
        exact ⟨by rw [HMO.out, HMQ.out]; rfl, hb4⟩
end Go.Proofs.YtjfhncnpmelopaaGreatDoor
/- What First computes, as a plain function. -/
namespace Go.Sheet
/-- the wishes of the request i are tried in their order: what the request becomes, and its slot -/
def tryW (l : List Slot) (value : Int) (x : RQ) (i : Nat) : List Wish → List RQ → List RQ × Int
  | [], fx => (fx.set i ⟨x.name, false, []⟩, -1)
  | y :: ws, fx => if (solveQ l (fx.set i ⟨x.name, true, [y]⟩)).map (·.2) = some value then (fx.set i ⟨x.name, true, [y]⟩, y.s) else tryW l value x i ws (fx.set i ⟨x.name, true, [y]⟩)
def firstL (l : List Slot) (value : Int) : Nat → List RQ → List RQ → List Int → List Int
  | _, [], _, a => a
  | i, x :: rs, fx, a => firstL l value (i + 1) rs (tryW l value x i x.ws fx).1 (a.set i (tryW l value x i x.ws fx).2)
def firstF (l : List Slot) (rs : List RQ) : List Int × Int :=
  if checkRequests l rs ≠ 0 then ([], checkRequests l rs) else match solveQ l rs with
    | some (a, v) => (firstL l v 0 rs rs a, 0)
    | none => ([], 23)
theorem firstL_len (l : List Slot) (v : Int) (rs : List RQ) : ∀ (i : Nat) (fx : List RQ) (a : List Int), (firstL l v i rs fx a).length = a.length := by
  induction rs with
  | nil => intro i fx a; rfl
  | cons x rs ih => intro i fx a; rw [firstL, ih, List.length_set]
theorem MOk.set {l : List Slot} {rs : List RQ} (h : MOk l rs) (i : Nat) (x : RQ) (hx : ∀ y ∈ x.ws, 0 ≤ y.s ∧ 0 ≤ y.w ∧ y.w ≤ 10000) : MOk l (rs.set i x) where
  sp := h.sp
  nl := h.nl
  nr := by rw [List.length_set]; exact h.nr
  ws z hz := by
    rcases List.mem_or_eq_of_mem_set hz with hz | rfl
    · exact h.ws z hz
    · exact hx
end Go.Sheet
/- Walks: First. -/
namespace Go.Mem
open Go.RowKit Go.Sheet
theorem St.merge {W w : World} {A B C : Asr} {L : List Asr} (h : St W w (L ++ [A, B])) (hm : ∀ F1 F2, A.holds w F1 → B.holds w F2 → C.holds w (fun b => F1 b ∨ F2 b)) : St W w (L ++ [C]) := by
  have h1 : St W w (A :: B :: L) := h.perm List.perm_append_comm
  obtain ⟨F1, f1, f2, F2, g1, g2, g3⟩ := h1.2
  have h2 : St W w (C :: L) := ⟨h1.1, fun b => F1 b ∨ F2 b, fun b hb => hb.elim (f1 b) (fun h => (g1 b h).1), hm _ _ f2 g2, g3.mono fun b hb => ⟨hb.1.1, fun h => h.elim hb.1.2 hb.2⟩⟩
  exact h2.perm (List.perm_append_comm (l₁ := [C]))
/-- the wishes of requests: old ones, or new ones -/
def wis (W : World) (rs : List Req) : Asr where
  holds w F := ∀ r ∈ rs, Rd W (· < W.heap.size) 2 r.wv r.wn (r.ws.flatMap Wish.cells) ∨ Rd w F 2 r.wv r.wn (r.ws.flatMap Wish.cells)
  loc := fun h hs hk r hr => (h r hr).imp id fun h => h.loc hs hk
  mono := fun h hh r hr => (h r hr).imp id fun h => h.mono fun b _ => hh b
theorem flatMap_set3 (rs : List Req) (i : Nat) (r : Req) (h : i < rs.length) :
    (((rs.flatMap Req.cells).set (i * 3) (.string r.name)).set (i * 3 + 1) (.bool r.g)).set (i * 3 + 2) (.slice r.wa r.wn r.wc) = (rs.set i r).flatMap Req.cells := by
  induction rs generalizing i with
  | nil => simp at h
  | cons x rs ih =>
    cases i with
    | zero => simp [Req.cells]
    | succ i =>
      have := ih i (by simpa using h)
      simp only [List.flatMap_cons, List.set_cons_succ, ← this, Req.cells]
      rw [show (i + 1) * 3 + 1 = (i * 3 + 1) + 3 by omega, show (i + 1) * 3 + 2 = (i * 3 + 2) + 3 by omega, show (i + 1) * 3 = i * 3 + 3 by omega]
      rfl
end Go.Mem
namespace Go.Proofs.YtjfhncnpmelopaaGreatDoor
open Go.RowKit Go.Mem Go.Sheet
theorem eltR : Elt Tryz.prog 23 49 (.agg #[.string ⟨#[]⟩, .bool false, .slice none 0 0]) 3 48 := ⟨Tryz.underlying23, by kernel_rfl, rfl, by decide⟩
theorem req_one (l : List Req) : ∀ u ∈ l.flatMap Req.cells, u.oneCell' = true := by
  intro u hu
  obtain ⟨x, _, hx⟩ := List.mem_flatMap.1 hu
  simp [Req.cells] at hx
  rcases hx with rfl | rfl | rfl <;> rfl
theorem copiedR_any (W : World) (v : Value) (n : Nat) (l : List Req) (h : Rd W (· < W.heap.size) 3 v n (l.flatMap Req.cells)) (hn : n ≤ 10000000000) :
    Calls Tryz.prog 79 #[v] W fun e w' => ∃ v', e = .returned v' ∧ St W w' [row 49 3 v' n (l.flatMap Req.cells)] := by
  go_enter Tryz.func79, Tryz.ntmps79
  go_wp2_with (first
    | (at_builtin
       refine wpList_append_st eltR rfl _ _ rfl rfl ((St.refl W).row_nil 49 3) (k := 0) rfl rfl h (req_one _) (by omega) (by omega) ?_
       intro v' w' S _))
  go_ret
  exact ⟨_, rfl, by simpa using S⟩
/-- the requests that are fixed, as they lie -/
def fxL (W : World) (n : Nat) (va vF : Value) (a : List Int) (fx : List Req) (L : List Asr) : List Asr :=
  row 3 1 va n (intsV a) :: row 49 3 vF n (fx.flatMap Req.cells) :: wis W fx :: L
theorem fx_reqs {W w : World} {n : Nat} {va vF : Value} {a : List Int} {fx : List Req} {L : List Asr} (S : St W w (fxL W n va vF a fx L)) (hn : ∀ r ∈ fx, r.name.size ≤ 9223372036854775807) : RdReqs w (· < w.heap.size) vF n fx := by
  refine ⟨(S.row_rd (i := 1) rfl).now, fun r hr => ⟨?_, hn r hr⟩⟩
  obtain ⟨F, h1, h2⟩ := S.get (i := 2) rfl
  rcases h2 r hr with h | h
  · exact (h.below S.bel).now
  · exact h.now
/-- the request k is set -/
theorem fx_row {W w : World} {n k gF cF : Nat} {va : Value} {a : List Int} {fx : List Req} {C : Asr} {L : List Asr} (S : St W w (row 3 1 va n (intsV a) :: row 49 3 (.slice (some ⟨gF, 0, none⟩) n cF) n (fx.flatMap Req.cells) :: C :: L)) (hk : k < fx.length) (r : Req) :
    St W (((w.setCell ⟨gF, k * 3, none⟩ (.string r.name)).setCell ⟨gF, k * 3 + 1, none⟩ (.bool r.g)).setCell ⟨gF, k * 3 + 2, none⟩ (.slice r.wa r.wn r.wc)) (row 3 1 va n (intsV a) :: row 49 3 (.slice (some ⟨gF, 0, none⟩) n cF) n ((fx.set k r).flatMap Req.cells) :: C :: L) := by
  have S1 := ((S.row_set (i := 1) rfl (k * 3) (.string r.name)).row_set (i := 1) rfl (k * 3 + 1) (.bool r.g)).row_set (i := 1) rfl (k * 3 + 2) (.slice r.wa r.wn r.wc)
  simp only [List.set_cons_zero, List.set_cons_succ] at S1
  rwa [flatMap_set3 fx k r hk] at S1
theorem fx_wis0 {W w : World} {X Y : Asr} {fx : List Req} {L : List Asr} (S : St W w (X :: Y :: wis W fx :: L)) (k : Nat) (r : Req) (hr : Rd W (· < W.heap.size) 2 r.wv r.wn (r.ws.flatMap Wish.cells)) : St W w (X :: Y :: wis W (fx.set k r) :: L) := by
  obtain ⟨F1, f1, f2, f4⟩ := S.upd (i := 2) rfl
  refine f4 _ (wis W (fx.set k r)) F1 none (fun z hz => ?_) (World.grownBy.refl _ _) (fun g hg => by cases hg) (fun b hb => .inl hb)
  rcases List.mem_or_eq_of_mem_set hz with hz | rfl
  · exact f2 z hz
  · exact .inl hr
theorem fx_wis1 {W w : World} {X Y : Asr} {fx : List Req} {L : List Asr} {b : Nat} {T : TypeId} {y : Wish} (S : St W w (X :: Y :: wis W fx :: blk b T #[.int .i64 y.s, .int .i64 y.w] :: L)) (k : Nat) (name : ByteArray) (g : Bool) :
    St W w (X :: Y :: wis W (fx.set k ⟨name, g, some ⟨b, 0, none⟩, 1, 1, [y]⟩) :: L) := by
  have hlt := (S.blk_at (i := 3) rfl).2.1
  have h1 : St W w ((X :: Y :: L) ++ [wis W fx, blk b T #[.int .i64 y.s, .int .i64 y.w]]) := S.perm (.cons _ (.cons _ (List.perm_append_comm (l₁ := [_, _]))))
  refine (h1.merge (C := wis W (fx.set k ⟨name, g, some ⟨b, 0, none⟩, 1, 1, [y]⟩)) ?_).perm (.cons _ (.cons _ (List.perm_append_comm (l₂ := [_]))))
  intro F1 F2 h2 h3 z hz
  rcases List.mem_or_eq_of_mem_set hz with hz | rfl
  · exact (h2 z hz).imp id fun h => h.mono fun b _ hb => .inl hb
  · refine .inr ⟨_, 1, rfl, Nat.le_refl _, by unfold maxLen; omega, rfl, (fun h => by cases h), fun _ => ⟨b, 0, rfl, .inr h3.2, hlt, fun j u hu => ?_⟩⟩
    rw [Nat.zero_add, cell_of_row w b j _ _ _ h3.1]
    simpa [Wish.cells] using hu
end Go.Proofs.YtjfhncnpmelopaaGreatDoor
/- A drawn region of three parts: first m operations that have one value in whatever world; quiet operations (loads) that have one value in every world that meets S; loud operations that keep S, in whatever order; then a forced tail. -/
namespace Go.Mem
open Go Go.RowKit
variable {P : Program} {ops : Array Oper} {md : Region.Mode} {S : World → Prop} {Q : Exit → Act → World → Prop}
/-- operations that yield a value and nothing else -/
def plainOp : Op → Bool
  | .move _ | .assign _ | .fieldAddr _ _ _ | .load _ _ | .nilCheck _ | .indexAddr _ _ _ => true
  | .binOp _ _ _ _ _ => true
  | .call { callee := .builtin .len, args := _, argTypes := _ } => true
  | .call { callee := .builtin .max, args := _, argTypes := _ } => true
  | _ => false
def Good (P : Program) (t : Sem Next) : Prop := ∀ w w' n, t.run P w = .ok n w' → ∃ v, n = .value v
theorem Good.pure (x : Value) : Good P (Pure.pure (Next.value x)) := fun w w' n h => by
  simp only [Sem.run_pure, Result.ok.injEq] at h; exact ⟨_, h.1.symm⟩
theorem Good.bind {α : Type} (s : Sem α) (f : α → Sem Next) (h : ∀ x, Good P (f x)) : Good P (s >>= f) := fun w w' n hs => by
  simp only [Sem.run_bind] at hs
  cases hq : s.run P w with
  | ok x w2 => rw [hq] at hs; simp only [Result.andThen_ok] at hs; exact h x _ _ _ hs
  | halt x w2 => rw [hq] at hs; simp [Result.andThen] at hs
theorem Good.nilDeref : Good P (runtimePanic .nilDeref) := fun w w' n h => by
  simp [runtimePanic, goPanic, go_sem] at h
theorem plain_good {o : Oper} (h : plainOp o.op = true) (ρ : Operand → Value) : Good P (execOp ρ o) := by
  unfold execOp
  unfold plainOp at h
  split at h
  · rename_i e; simp only [e]; exact .pure _
  · rename_i e; simp only [e]; exact .pure _
  · rename_i e; simp only [e]; exact .bind _ _ fun x => .pure x
  · rename_i e; simp only [e]; exact .bind _ _ fun x => .pure x
  · rename_i e
    simp only [e]
    split
    · exact .nilDeref
    · exact .nilDeref
    · exact .nilDeref
    · split
      · exact .nilDeref
      · refine .bind _ _ fun x => .bind _ _ fun y => ?_
        split
        · exact .bind _ _ fun _ => .pure _
        · exact .pure _
      · exact .pure _
    · exact .pure _
  · rename_i e; simp only [e]; exact .bind _ _ fun x => .pure x
  · rename_i e; simp only [e]; exact .bind _ _ fun x => .pure x
  · rename_i e
    simp only [e, resolve, invoke, builtin]
    intro w w' n hs
    simp only [Sem.run_bind, Sem.run_pure, Result.andThen_ok] at hs
    exact (Good.bind (Builtin.len_ _ _ _) (fun x => Pure.pure (Next.value x)) fun x => .pure x) _ _ _ (by simpa only [Sem.run_bind, Sem.run_pure] using hs)
  · rename_i e
    simp only [e, resolve, invoke, builtin]
    intro w w' n hs
    simp only [Sem.run_bind, Sem.run_pure, Result.andThen_ok] at hs
    exact (Good.bind (Builtin.max_ _ _ _) (fun x => Pure.pure (Next.value x)) fun x => .pure x) _ _ _ (by simpa only [Sem.run_bind, Sem.run_pure] using hs)
  · cases h
/-- what a quiet walk shows of a plain operation -/
theorem yieldsIf_of_qOp {i : Nat} {o : Oper} {a : Act} {K : Act → Prop} (hi : ops[i]? = some o) (hp : plainOp o.op = true) (h : qOp P ops S i K a) : ∃ v, YieldsIf P ops S o v a ∧ K (a.put o.dst v) := by
  obtain ⟨v, hy, hk⟩ := yieldsIn_of_qOp hi h
  refine ⟨v, hy.imp (fun ⟨h1, h2⟩ => ⟨h1, fun w hw => ?_⟩) id, hk⟩
  have h3 := h2 w hw
  unfold Oper.quietAt at h3
  generalize hr : (execOp a.eval o).run P w = r at *
  cases r with
  | ok n w' =>
    obtain ⟨u, rfl⟩ := plain_good hp _ _ _ _ hr
    obtain ⟨rfl, rfl⟩ := h3
    rfl
  | halt x w' => simp only [Oper.quietUpon] at h3
/-- the operations of the list, each ready and free when its turn comes -/
def lexIs (md : Region.Mode) (ops : Array Oper) : List Nat → Array Bool → Bool
  | [], _ => true
  | i :: l, ls => (Region.ready md ops ls).contains i && Region.free md ops ls i && ((ops[i]?).map fun o => plainOp o.op).getD false && lexIs md ops l (ls.setIfInBounds i true)
def setAll : List Nat → Array Bool → Array Bool
  | [], ls => ls
  | i :: l, ls => setAll l (ls.setIfInBounds i true)
def pick (ops : Array Oper) (l : List Nat) : List Oper := l.filterMap (ops[·]?)
theorem wpQuiet_mono' {R R' : Act → Prop} (hR : ∀ a, R a → R' a) : ∀ {l : List Oper} {a : Act}, wpQuiet P ops S R l a → wpQuiet P ops S R' l a := by
  intro l
  induction l with
  | nil => intro a h; exact hR _ h
  | cons o l ih =>
    intro a h
    simp only [wpQuiet] at h ⊢
    split
    · rename_i hw; rw [if_pos hw] at h; exact Oper.quiet_mono (fun a => ih) h
    · rename_i hw; rw [if_neg hw] at h; exact ih h
/-- operations that have one value in whatever world may come first in the region -/
theorem wpAny_pre (hsel : Region.noSelect ops = true) (hQ : ∀ c a a' w, Q (.panic c) a' w → Q (.panic c) a w) {g : Nat} {w : World} (pre : List Nat) :
    ∀ (ls : Array Bool) (a : Act), lexIs md ops pre ls = true → wpQuiet P ops (fun _ => True) (fun a' => wpAny P md ops Q g (setAll pre ls) a' w) (pick ops pre) a → wpAny P md ops Q (pre.length + g) ls a w := by
  induction pre with
  | nil => intro ls a _ h; rw [List.length_nil, Nat.zero_add]; exact h
  | cons i l ih =>
    intro ls a hB h
    simp only [lexIs, Bool.and_eq_true] at hB
    obtain ⟨⟨⟨hr, hf⟩, hp⟩, hB⟩ := hB
    cases ho : ops[i]? with
    | none => rw [ho] at hp; cases hp
    | some o =>
      rw [ho] at hp
      have e : pick ops (i :: l) = o :: pick ops l := by simp [pick, ho]
      rw [e] at h
      have hq : qOp P ops (fun _ => True) i (wpQuiet P ops (fun _ => True) (fun a' => wpAny P md ops Q g (setAll (i :: l) ls) a' w) (pick ops l)) a := by unfold qOp; simp only [ho]; exact h
      obtain ⟨v, hy, hk⟩ := yieldsIf_of_qOp ho hp hq
      have e2 : (i :: l).length + g = (l.length + g) + 1 := by simp only [List.length_cons]; omega
      rw [e2]
      exact wpAny_take ho hsel hf hr (fun c a w h => hQ _ _ _ _ h) (hy.imp (fun ⟨h1, h2⟩ => ⟨h1, fun w => h2 w trivial⟩) id) (ih _ _ hB hk)
def sinkFrom (md : Region.Mode) (ops : Array Oper) (m n : Nat) : Bool :=
  (List.range n).all fun i => decide (i < m) || (List.range (n + 1)).any fun j => decide (i < j) && Region.waitsFor md ops j i
theorem tail_waits' {m n : Nat} {listed : Array Bool} (hs : sinkFrom md ops m n = true) (hc : Region.chainB md ops n = true) (hn : n < ops.size) (inv : HeadInv md ops n listed) :
    ∀ (d i : Nat), n - i = d → m ≤ i → i < n → listed.getD i true = false → ∀ t, n ≤ t → t ∉ Region.ready md ops listed := by
  intro d
  induction d using Nat.strongRecOn with
  | _ d ih =>
    intro i hd hmi hi hun t ht hr
    obtain ⟨_, ot, hot, hall⟩ := mem_ready.1 hr
    have htlt : t < ops.size := (Array.getElem?_eq_some_iff.1 hot).1
    by_cases htn : t = n
    · subst htn
      have h1 := List.all_eq_true.1 hs i (List.mem_range.2 hi)
      have h1' : ((List.range (t + 1)).any fun j => decide (i < j) && Region.waitsFor md ops j i) = true := by
        simp only [Bool.or_eq_true, decide_eq_true_eq] at h1
        rcases h1 with h1 | h1
        · omega
        · exact h1
      obtain ⟨j, hj, hj2⟩ := List.any_eq_true.1 h1'
      simp only [Bool.and_eq_true, decide_eq_true_eq] at hj2
      obtain ⟨oj, hoj, e, he, hb, hon⟩ := Region.waitsFor_spec hj2.2
      have hjle : j ≤ t := by have := List.mem_range.1 hj; omega
      by_cases hjt : j = t
      · subst hjt
        have : oj = ot := Option.some.inj (hoj.symm.trans hot)
        subst this
        have h2 := hall e he hb
        rw [hon, getD_both hun] at h2
        cases h2
      · cases hl : listed.getD j false with
        | true =>
          have h2 := inv.closed j oj hoj hl e he hb
          rw [hon, getD_both hun] at h2
          cases h2
        | false =>
          have hjs : j < listed.size := by rw [inv.size]; omega
          exact ih (t - j) (by omega) j rfl (by omega) (by omega) (getD_in hjs hl) t (Nat.le_refl _) hr
    · have h1 := List.all_eq_true.1 hc t (List.mem_range.2 htlt)
      simp only [Bool.or_eq_true, decide_eq_true_eq] at h1
      rcases h1 with h1 | h1
      · omega
      · obtain ⟨o', ho', e, he, hb, hon⟩ := Region.waitsFor_spec h1
        have : o' = ot := Option.some.inj (ho'.symm.trans hot)
        subst this
        have h2 := hall e he hb
        rw [hon, getD_both (inv.tail (t - 1) (by omega) (by omega))] at h2
        cases h2
/-- whatever is picked within the head; S is kept -/
def headW (P : Program) (md : Region.Mode) (ops : Array Oper) (Q : Exit → Act → World → Prop) (S : World → Prop) (n : Nat) (L : Array Bool → Act → World → Prop) : Nat → Array Bool → Act → World → Prop
  | 0, ls, a, w => L ls a w
  | k + 1, ls, a, w => Region.ready md ops ls ≠ [] ∧ ∀ i ∈ Region.ready md ops ls, i < n ∧ wpOp P ops Q i (fun a' w' => S w' ∧ headW P md ops Q S n L k (ls.setIfInBounds i true) a' w') a w
theorem headW_sound {n g : Nat} {L : Array Bool → Act → World → Prop} (hL : ∀ ls a w, L ls a w → wpAny P md ops Q g ls a w) (k : Nat) :
    ∀ (ls : Array Bool) (a : Act) (w : World), headW P md ops Q S n L k ls a w → wpAny P md ops Q (k + g) ls a w := by
  induction k with
  | zero => intro ls a w h; rw [Nat.zero_add]; exact hL ls a w h
  | succ k ih =>
    intro ls a w h
    have e : k + 1 + g = (k + g) + 1 := by omega
    rw [e]
    exact ⟨fun h0 => absurd h0 h.1, fun i hi => wpOp_mono (fun a' w' h' => ih _ a' w' h'.2) (h.2 i hi).2⟩
theorem headW_first {m n i : Nat} {oi : Oper} {v : Value} {L : Array Bool → Act → World → Prop} (hi : ops[i]? = some oi) (hsel : ∀ (j : Nat) (o : Oper) cs b, ops[j]? = some o → o.op ≠ .select cs b)
    (hs : sinkFrom md ops m n = true) (hc : Region.chainB md ops n = true) (hn : n < ops.size) (hin : i < n) (hQ : ∀ c a a' w, Q (.panic c) a' w → Q (.panic c) a w)
    (hend : ∀ ls a w, L ls a w → ∀ j ∈ Region.ready md ops ls, n ≤ j) (k : Nat) :
    ∀ (ls : Array Bool) (a : Act) (w : World), HeadInv md ops n ls → (∀ i < m, ls.getD i true = true) →
      (∀ j oj, ops[j]? = some oj → j ≠ i → ls.getD j true = false → (∀ e ∈ oj.after, Region.binds md e = true → e.on ≠ i) → oi.apart ops oj = true) →
      i ∈ Region.ready md ops ls → YieldsIf P ops S oi v a → S w → headW P md ops Q S n L k (ls.setIfInBounds i true) (a.put oi.dst v) w → headW P md ops Q S n L (k + 1) ls a w := by
  have inHead : ∀ (ls : Array Bool), HeadInv md ops n ls → (∀ i < m, ls.getD i true = true) → i ∈ Region.ready md ops ls → ∀ j ∈ Region.ready md ops ls, j < n := by
    intro ls inv hm hr j hj
    rcases Nat.lt_or_ge j n with h | h
    · exact h
    · have hun := (mem_ready.1 hr).1
      have hmi : m ≤ i := by
        rcases Nat.lt_or_ge i m with h' | h'
        · rw [hm i h'] at hun; cases hun
        · exact h'
      exact absurd hj (tail_waits' hs hc hn inv _ i rfl hmi hin hun j h)
  induction k with
  | zero =>
    intro ls a w inv hm _ hr hy hS H
    refine ⟨fun h => (by rw [h] at hr; cases hr), fun j hj => ⟨inHead ls inv hm hr j hj, ?_⟩⟩
    by_cases e : j = i
    · subst e; exact hy.wpOp hi hS ⟨hS, H⟩
    · have h1 := hend _ _ _ H j (ready_mono hj e)
      have h2 := inHead ls inv hm hr j hj
      omega
  | succ k ih =>
    intro ls a w inv hm hfree hr hy hS H
    refine ⟨fun h => (by rw [h] at hr; cases hr), fun j hj => ⟨inHead ls inv hm hr j hj, ?_⟩⟩
    by_cases e : j = i
    · subst e; exact hy.wpOp hi hS ⟨hS, H⟩
    · obtain ⟨hju, oj, hoj, hall⟩ := mem_ready.1 hj
      have hnot : ∀ d ∈ oj.after, Region.binds md d = true → d.on ≠ i := fun d hd hb hq => by
        have h1 := hall d hd hb
        rw [hq, getD_both (mem_ready.1 hr).1] at h1
        cases h1
      have h1 := wpOp_putIf hoj (hfree j oj hoj e hju hnot) (fun cs b => hsel i oi cs b hi) (fun cs b => hsel j oj cs b hoj) (fun c a w h => hQ c a _ w h) hy (H.2 j (ready_mono hj e)).2
      refine wpOp_mono (fun a' w' h2 => ⟨h2.2.1, ?_⟩) h1
      refine ih (ls.setIfInBounds j true) a' w' (inv.set hj (inHead ls inv hm hr j hj)) (fun x hx => ?_) (fun q om hq hqi hqu hno => ?_) (ready_mono hr (Ne.symm e)) h2.1 h2.2.1 ?_
      · by_cases hjx : j = x
        · subst hjx
          have := (mem_ready.1 hj).1
          rw [hm j hx] at this
          cases this
        · rw [getD_set_ne true hjx]; exact hm x hx
      · refine hfree q om hq hqi ?_ hno
        by_cases hjm : j = q
        · subst hjm; exact hju
        · rw [getD_set_ne true hjm] at hqu; exact hqu
      · rw [Array.setIfInBounds_comm _ _ e]
        exact h2.2.2
theorem HeadInv.setAll {n : Nat} : ∀ (l : List Nat) (ls : Array Bool), HeadInv md ops n ls → lexIs md ops l ls = true → (∀ i ∈ l, i < n) → HeadInv md ops n (setAll l ls)
  | [], _, inv, _, _ => inv
  | i :: l, ls, inv, hB, hl => by
    simp only [lexIs, Bool.and_eq_true] at hB
    exact HeadInv.setAll l _ (inv.set (by simpa using hB.1.1.1) (hl i (List.mem_cons_self ..))) hB.2 fun j hj => hl j (List.mem_cons_of_mem _ hj)
theorem setAll_true : ∀ (l : List Nat) (ls : Array Bool) (x : Nat), ls.getD x true = true → (Go.Mem.setAll l ls).getD x true = true
  | [], _, _, h => h
  | i :: l, ls, x, h => by
    refine setAll_true l _ x ?_
    by_cases hix : i = x
    · subst hix
      rcases Nat.lt_or_ge i ls.size with h' | h'
      · simp [h']
      · simp [h']
    · rw [getD_set_ne true hix]; exact h
theorem setAll_mem : ∀ (l : List Nat) (ls : Array Bool) (x : Nat), x ∈ l → (Go.Mem.setAll l ls).getD x true = true
  | i :: l, ls, x, h => by
    rcases List.mem_cons.1 h with rfl | h
    · refine setAll_true l _ x ?_
      rcases Nat.lt_or_ge x ls.size with h' | h'
      · simp [h']
      · simp [Array.getElem?_eq_none h']
    · exact setAll_mem l _ x h
/-- operations that have one value in every world that meets S may come first in the head -/
theorem headW_qs {m n k : Nat} {L : Array Bool → Act → World → Prop} {w : World} (hsel : Region.noSelect ops = true) (hs : sinkFrom md ops m n = true) (hc : Region.chainB md ops n = true) (hn : n < ops.size)
    (hQ : ∀ c a a' w, Q (.panic c) a' w → Q (.panic c) a w) (hend : ∀ ls a w, L ls a w → ∀ j ∈ Region.ready md ops ls, n ≤ j) (hS : S w) (qs : List Nat) :
    ∀ (ls : Array Bool) (a : Act), HeadInv md ops n ls → (∀ i < m, ls.getD i true = true) → lexIs md ops qs ls = true → (∀ i ∈ qs, i < n) →
      wpQuiet P ops S (fun a' => headW P md ops Q S n L k (setAll qs ls) a' w) (pick ops qs) a → headW P md ops Q S n L (qs.length + k) ls a w := by
  induction qs with
  | nil => intro ls a _ _ _ _ h; rw [List.length_nil, Nat.zero_add]; exact h
  | cons i l ih =>
    intro ls a inv hm hB hl h
    simp only [lexIs, Bool.and_eq_true] at hB
    obtain ⟨⟨⟨hr, hf⟩, hp⟩, hB⟩ := hB
    cases ho : ops[i]? with
    | none => rw [ho] at hp; cases hp
    | some o =>
      rw [ho] at hp
      have e : pick ops (i :: l) = o :: pick ops l := by simp [pick, ho]
      rw [e] at h
      have hq : qOp P ops S i (wpQuiet P ops S (fun a' => headW P md ops Q S n L k (Go.Mem.setAll (i :: l) ls) a' w) (pick ops l)) a := by unfold qOp; simp only [ho]; exact h
      obtain ⟨v, hy, hk⟩ := yieldsIf_of_qOp ho hp hq
      have e2 : (i :: l).length + k = (l.length + k) + 1 := by simp only [List.length_cons]; omega
      have hr' : i ∈ Region.ready md ops ls := by simpa using hr
      have hin := hl i (List.mem_cons_self ..)
      rw [e2]
      refine headW_first ho (Region.noSelect_spec hsel) hs hc hn hin hQ hend _ ls a w inv hm (Region.free_spec ho hf) hr' hy hS ?_
      refine ih _ _ (inv.set hr' hin) (fun x hx => ?_) hB (fun j hj => hl j (List.mem_cons_of_mem _ hj)) hk
      exact setAll_true [i] ls x (hm x hx)
/-- what the numbers of a region must be -/
def headWB (ops : Array Oper) (m n k : Nat) (qs : List Nat) : Bool :=
  let l0 := Array.replicate ops.size false
  let l1 := setAll (List.range m) l0
  Region.noSelect ops && decide (n < ops.size) && decide (m + (qs.length + k) = n) && sinkFrom .any ops m n && Region.chainB .any ops n && lexIs .any ops (List.range m) l0 && lexIs .any ops qs l1 && qs.all (fun i => decide (i < n)) &&
    decide (m ≤ n)
/-- the law -/
theorem wp_head_tail {id : Nat} {a : Act} {w : World} {l : List Oper} (m n k : Nat) (qs : List Nat) (S : World → Prop) (Fin : Act → World → Prop) (hm : P.follows .mixedOrders = true) (hB : headWB l.toArray m n k qs = true) (hS : S w.drew)
    (h1 : wpQuiet P l.toArray (fun _ => True) (fun a1 => wpQuiet P l.toArray S (fun a2 => headW P .any l.toArray (NoPanic Q) S n
        (fun ls a' w' => Region.seqB .any l.toArray (l.toArray.size - n) n ls = true ∧ Fin a' w') k (setAll qs (setAll (List.range m) (Array.replicate l.toArray.size false))) a2 w.drew) (pick l.toArray qs) a1) (pick l.toArray (List.range m)) a)
    (h2 : ∀ a' w', Fin a' w' → wpList P l.toArray (NoPanic Q) (l.drop n) a' w') : (Code.region id l.toArray true).wp P Q a w := by
  simp only [headWB, Bool.and_eq_true, decide_eq_true_eq] at hB
  obtain ⟨⟨⟨⟨⟨⟨⟨⟨hsel, hn⟩, hmk⟩, hs⟩, hc⟩, hpre⟩, hqs⟩, hqn⟩, hmn⟩ := hB
  have hQ : ∀ c a a' w, NoPanic Q (.panic c) a' w → NoPanic Q (.panic c) a w := fun _ _ _ _ h => (h : False).elim
  have inv0 : HeadInv .any l.toArray n (Array.replicate l.toArray.size false) :=
    ⟨by simp, fun j oj _ hl => (by rw [getD_replicate_false] at hl; cases hl), fun t _ ht => getD_in (by simpa using ht) (getD_replicate_false _ _)⟩
  have inv1 := HeadInv.setAll (List.range m) _ inv0 hpre fun i hi => by have := List.mem_range.1 hi; omega
  refine wp_region_noPanic (wp_region_any hm ?_)
  have hdl : (l.drop n).length = l.toArray.size - n := by simp
  have hsz : l.toArray.size = (List.range m).length + ((qs.length + k) + (l.toArray.size - n)) := by rw [List.length_range]; omega
  have hfu : wpAny P .any l.toArray (NoPanic Q) ((List.range m).length + ((qs.length + k) + (l.toArray.size - n))) (Array.replicate l.toArray.size false) a w.drew := by
    refine wpAny_pre hsel hQ (List.range m) _ _ hpre ?_
    refine wpQuiet_mono' (fun a1 h3 => ?_) h1
    refine headW_sound (n := n) (S := S) (fun ls a' w' hL => ?_) (qs.length + k) _ a1 w.drew ?_ (L := fun ls a' w' => Region.seqB .any l.toArray (l.toArray.size - n) n ls = true ∧ Fin a' w')
    · have := wpAny_of_seq (P := P) (md := .any) (Q' := NoPanic Q) (l.drop n) n ls a' w' (fun j => by simp [List.getElem?_drop]) (by rw [hdl]; exact hL.1) (h2 a' w' hL.2)
      rwa [hdl] at this
    · exact headW_qs hsel hs hc hn hQ (fun ls a w hL => seqB_ready hL.1) hS qs _ a1 inv1 (fun i hi => setAll_mem _ _ i (List.mem_range.2 hi)) hqs (fun i hi => by simpa using List.all_eq_true.1 hqn i hi) h3
  rw [← hsz] at hfu
  exact hfu
/-- whichever comes up -/
theorem headW_all {n k : Nat} {L : Array Bool → Act → World → Prop} {rs : List Nat} {ls : Array Bool} {a : Act} {w : World} (hr : Region.ready md ops ls = rs) (hne : rs ≠ []) (hn : rs.all (fun i => decide (i < n)) = true)
    (h : ∀ i ∈ rs, wpOp P ops Q i (fun a' w' => S w' ∧ headW P md ops Q S n L k (ls.setIfInBounds i true) a' w') a w) : headW P md ops Q S n L (k + 1) ls a w :=
  ⟨fun h0 => hne (hr ▸ h0), fun i hi => ⟨by have := List.all_eq_true.1 hn i (hr ▸ hi); simpa using this, h i (hr ▸ hi)⟩⟩
/-- one operation, walked like a list of one -/
theorem wpOp_list {i : Nat} {o : Oper} {K : Act → World → Prop} {a : Act} {w : World} (ho : ops[i]? = some o) (h : ∀ Q' : Exit → Act → World → Prop, (∀ a w, K a w → Q' .normal a w) → wpList P ops Q' [o] a w) : wpOp P ops Q i K a w := by
  have h1 := h (fun e a w => match e with | .normal => K a w | _ => False) (fun _ _ h => h)
  unfold wpOp
  simp only [ho]
  simp only [wpList] at h1
  split
  · rename_i hw
    rw [if_pos hw] at h1
    rcases h1 with h1 | ⟨_, h1⟩
    · refine .inl ?_
      unfold Oper.wp at *
      generalize (execOp a.eval o).run P w = r at *
      cases r with
      | ok n w' =>
        cases n <;> simp only [Oper.upon] at h1 ⊢ <;>
          first
            | exact h1
            | exact Calls.mono h1 (fun e w'' he => by cases e <;> first | exact he | exact False.elim he | exact (let ⟨_, _, h⟩ := he; False.elim h))
            | exact Rows.mono h1 (fun _ _ he => he)
      | halt x w' => cases x <;> simp only [Oper.upon] at h1 ⊢
    · obtain ⟨_, _, h1⟩ := h1
      exact h1.elim
  · rename_i hw; rw [if_neg hw] at h1; exact h1
/-- the law, with what follows in the place of its predicate -/
theorem wp_head_tail' {id : Nat} {a : Act} {w : World} {l : List Oper} (m n k : Nat) (pre qs : List Nat) (hpre : List.range m = pre) (K : World → Prop) (hm : P.follows .mixedOrders = true) (hB : headWB l.toArray m n k qs = true) (hK : K w.drew)
    (h1 : wpQuiet P l.toArray (fun _ => True) (fun a1 => wpQuiet P l.toArray (fun w' => ∃ y : Wd K, w' = y.w) (fun a2 => headW P .any l.toArray (NoPanic Q) K n
        (fun ls a' w' => Region.seqB .any l.toArray (l.toArray.size - n) n ls = true ∧ wpList P l.toArray (NoPanic Q) (l.drop n) a' w') k (setAll qs (setAll pre (Array.replicate l.toArray.size false))) a2 w.drew) (pick l.toArray qs) a1) (pick l.toArray pre) a) :
    (Code.region id l.toArray true).wp P Q a w := by
  subst hpre
  have e : (fun w' => ∃ y : Wd K, w' = y.w) = K := by
    funext w'
    exact propext ⟨fun ⟨y, hy⟩ => hy ▸ y.h, fun h => ⟨⟨w', h⟩, rfl⟩⟩
  rw [e] at h1
  exact wp_head_tail m n k qs K (fun a' w' => wpList P l.toArray (NoPanic Q) (l.drop n) a' w') hm hB hK h1 (fun _ _ h => h)
theorem headW_mono {n : Nat} {L L' : Array Bool → Act → World → Prop} (hL : ∀ ls a w, L ls a w → L' ls a w) (k : Nat) :
    ∀ (ls : Array Bool) (a : Act) (w : World), headW P md ops Q S n L k ls a w → headW P md ops Q S n L' k ls a w := by
  induction k with
  | zero => exact hL
  | succ k ih => exact fun ls a w h => ⟨h.1, fun i hi => ⟨(h.2 i hi).1, wpOp_mono (fun a' w' h' => ⟨h'.1, ih _ a' w' h'.2⟩) (h.2 i hi).2⟩⟩
/-- the law, with a predicate between the loud operations and the tail -/
theorem wp_head_tail3 {id : Nat} {a : Act} {w : World} {l : List Oper} (m n k : Nat) (pre qs : List Nat) (hpre : List.range m = pre) (K : World → Prop) (Fin : Act → Act → World → Prop) (hm : P.follows .mixedOrders = true) (hB : headWB l.toArray m n k qs = true) (hK : K w.drew)
    (h1 : wpQuiet P l.toArray (fun _ => True) (fun a1 => wpQuiet P l.toArray (fun w' => ∃ y : Wd K, w' = y.w) (fun a2 => headW P .any l.toArray (NoPanic Q) K n
        (fun ls a' w' => Region.seqB .any l.toArray (l.toArray.size - n) n ls = true ∧ Fin a2 a' w') k (setAll qs (setAll pre (Array.replicate l.toArray.size false))) a2 w.drew ∧
        ∀ a' w', Fin a2 a' w' → wpList P l.toArray (NoPanic Q) (l.drop n) a' w') (pick l.toArray qs) a1) (pick l.toArray pre) a) :
    (Code.region id l.toArray true).wp P Q a w :=
  wp_head_tail' m n k pre qs hpre K hm hB hK (wpQuiet_mono' (fun _ h => wpQuiet_mono' (fun _ h' => headW_mono (fun _ _ _ hl => ⟨hl.1, h'.2 _ _ hl.2⟩) _ _ _ _ h'.1) h) h1)
end Go.Mem
/- Walks of the law's package: ownSlots, ownRequests. -/
namespace Go.Proofs.YtjfhncnpmelopaaGreatDoor
open Go.RowKit Go.Mem Go.Sheet
theorem rd_of_row {w : World} {F : Nat → Prop} {e : TypeId} {size n : Nat} {v : Value} {xs : List Value} (h : (row e size v n xs).holds w F) : Rd w F size v n xs := by
  obtain ⟨ho, hF⟩ := h
  have hc := @World.ownsRow.cells _ _ _ _ _ _ _ ho
  have hl := ho.lt
  rcases ho.2 with ⟨rfl, rfl⟩ | ⟨g, cap, cur, rfl, hb, hg, h1, h2, r⟩
  · exact ⟨none, 0, rfl, Nat.le_refl _, Nat.zero_le _, (by have := ho.1; simpa using this), (fun _ => rfl), (fun h => absurd h (by omega))⟩
  · exact ⟨_, cap, rfl, h1, h2, ho.1, (fun h => by cases h), fun _ => ⟨g, 0, rfl, hF g rfl, (hl g rfl).2, fun j u hu => by have := hc (g := g) rfl j u hu; rwa [Addr.add_lit] at this⟩⟩
theorem eltRS : Elt Tryz.prog 24 121 (.agg #[.int .i64 0, .int .i64 0, .int .i64 0]) 3 24 := ⟨Tryz.underlying24, by kernel_rfl, rfl, by decide⟩
theorem eltRW : Elt Tryz.prog 122 125 (.agg #[.int .i64 0, .int .i64 0]) 2 16 := ⟨Tryz.underlying122, by kernel_rfl, rfl, by decide⟩
theorem eltRR : Elt Tryz.prog 26 124 (.agg #[.string ⟨#[]⟩, .bool false, .slice none 0 0]) 3 48 := ⟨Tryz.underlying26, by kernel_rfl, rfl, by decide⟩
set_option maxRecDepth 100000 in
set_option maxHeartbeats 2000000 in
theorem ownSlots_any (W : World) (v : Value) (n : Nat) (l : List Slot) (h : Rd W (· < W.heap.size) 3 v n (l.flatMap Slot.cells)) (hr : n * 24 ≤ 140737488351232) :
    Calls Tryz.prog 12 #[v] W fun e w' => ∃ v', e = .returned v' ∧ St W w' [row 121 3 v' n (l.flatMap Slot.cells)] := by
  have HL := Lib.hid (h.count (f := Slot.cells) (size := 3) (fun _ => rfl) (by decide))
  have hn := h.le
  obtain ⟨A, c, rfl, _, _, h⟩ := h.open_
  have H := Lib.hid h
  clear h
  have S0 := (St.refl W).row_nil 121 3
  go_enter Tryz.func12, Tryz.ntmps12
  go_wp2
  go_loopw [4, 3] (fun i v w' => ∃ k : Nat, k ≤ n ∧ i = .int .i64 k ∧ St W w' [row 121 3 v k ((l.take k).flatMap Slot.cells)]) (fun i _ _ => n - (intOf i).toNat)
  case atStart => exact ⟨0, Nat.zero_le _, rfl, S0⟩
  case round =>
    obtain ⟨k, hk, rfl, S⟩ := hrel
    clear S0
    by_cases hlt : k < n
    · obtain ⟨b, o, x, rfl, hx, c0, c1, c2⟩ := (H.out.below S.bel).elem3 (k := k) (fun s : Slot => .int .i64 s.m) (fun s : Slot => .int .i64 s.h) (fun s : Slot => .int .i64 s.p) (fun _ => rfl) hlt
      have HX := Lib.hid hx
      clear hx
      go_wp2_with (first
        | (at_builtin
           refine wpList_append_st eltRS rfl _ _ rfl rfl (S.alloc _) (k := 0) rfl rfl (rd_new wr #[.int .i64 x.m, .int .i64 x.h, .int .i64 x.p] 121 rfl (by omega) (fun _ => True) trivial) (by simp [Value.oneCell']) (by omega) (by omega) ?_
           intro v' w' S' _))
      go_roundw
      case rel => exact ⟨k + 1, by omega, by go_num, by rw [take_at HX.out, List.flatMap_append]; simpa [Slot.cells] using S'⟩
      case measure => simp [intOf]; omega
    · obtain rfl : k = n := by omega
      have HSS := Lib.hid S
      clear S
      go_wp2
      go_ret
      refine ⟨_, rfl, ?_⟩
      have := HSS.out
      rwa [List.take_of_length_le (by have := HL.out; omega)] at this
set_option maxRecDepth 100000 in
set_option maxHeartbeats 4000000 in
theorem ownRequests_any (W : World) (v : Value) (n : Nat) (rs : List Req) (h : RdReqs W (· < W.heap.size) v n rs) (hr : n * 48 ≤ 140737488351232) (hw : ∀ r ∈ rs, r.wn * 16 ≤ 140737488351232) :
    Calls Tryz.prog 13 #[v] W fun e w' => ∃ v' rs', e = .returned v' ∧ rs'.map Req.rq = rs.map Req.rq ∧ (∀ r ∈ rs', r.name.size ≤ 9223372036854775807) ∧ St W w' [row 124 3 v' n (rs'.flatMap Req.cells), wis W rs'] := by
  have HL := Lib.hid (h.1.count (f := Req.cells) (size := 3) (fun _ => rfl) (by decide))
  have hn := h.1.le
  have HR2 := Lib.hid h.2
  have HW := Lib.hid hw
  obtain ⟨A, c, rfl, _, _, h1⟩ := h.1.open_
  have H := Lib.hid h1
  clear h h1 hw
  have S0 : St W W [row 124 3 (.slice none 0 0) 0 (([] : List Req).flatMap Req.cells), wis W []] :=
    ((St.refl W).row_nil 124 3).push (A := wis W []) (F := fun _ => False) (Below.refl _ _) (fun r hr => by cases hr) (fun b hb => hb.elim)
  go_enter Tryz.func13, Tryz.ntmps13
  go_wp2
  go_loopw [4, 3] (fun i v w' => ∃ (k : Nat) (rs' : List Req), k ≤ n ∧ i = .int .i64 k ∧ Hid (rs'.map Req.rq = (rs.take k).map Req.rq) ∧ Hid (∀ r ∈ rs', r.name.size ≤ 9223372036854775807) ∧ St W w' [row 124 3 v k (rs'.flatMap Req.cells), wis W rs']) (fun i _ _ => n - (intOf i).toNat)
  case atStart => exact ⟨0, [], Nat.zero_le _, rfl, rfl, (fun r hr => by cases hr), S0⟩
  case round =>
    obtain ⟨k, rs', hk, rfl, he1, he2, S⟩ := hrel
    clear S0
    by_cases hlt : k < n
    · obtain ⟨b, o, x, rfl, hx, c0, c1, c2⟩ := (H.out.below S.bel).elem3 (k := k) (fun s : Req => .string s.name) (fun s : Req => .bool s.g) (fun s : Req => .slice s.wa s.wn s.wc) (fun _ => rfl) hlt
      have HX := Lib.hid hx
      obtain ⟨hws, hname⟩ := HR2.out x (List.mem_of_getElem? hx)
      have hwr := HW.out x (List.mem_of_getElem? hx)
      obtain ⟨name, g, wa, wn, wc, ws⟩ := x
      change Rd W (· < W.heap.size) 2 (.slice wa wn wc) wn (ws.flatMap Wish.cells) at hws
      have HWS := Lib.hid hws
      have HNAME := Lib.hid hname
      simp only at c0 c1 c2 hwr
      clear hx hws hname
      have HSS := Lib.hid S
      clear S
      have hbW := World.block_lt_of_cell? wr _ c0
      have hba := (Below.refl wr.heap.size wr).alloc (Nat.le_refl _) (.cells #[.string ⟨#[]⟩, .bool false, .slice none 0 0] 124)
      have d0 := (hba.cell (p := ⟨b, o + k * 3, none⟩) hbW).trans c0
      have d1 := (hba.cell (p := ⟨b, o + k * 3 + 1, none⟩) hbW).trans c1
      go_wp2_with fail
      go_region
      have S1 := ((HSS.out.blk_new #[.string name, .bool g, .slice none 0 0] 124).row_nil 125 2).drew
      simp only [List.cons_append, List.nil_append] at S1
      clear d0 d1 hba c0 c1 c2 HSS
      generalize (wr.alloc (.cells #[.string name, .bool g, .slice none 0 0] 124)).drew = w1 at *
      generalize wr.heap.size = gx at *
      go_wp2
      go_loopw [6] (fun i w' => ∃ (m : Nat) (wv : Value), m ≤ wn ∧ i = .int .i64 m ∧ St W w' [row 124 3 u3 k (rs'.flatMap Req.cells), wis W rs', blk gx 124 #[.string name, .bool g, wv], row 125 2 wv m ((ws.take m).flatMap Wish.cells)]) (fun i _ => wn - (intOf i).toNat)
      case atStart => exact ⟨0, _, Nat.zero_le _, rfl, S1⟩
      case round =>
        obtain ⟨m, wv, hm, rfl, S⟩ := hrel
        clear S1
        obtain ⟨b', o', x', hA, hx', d0, d1, d2⟩ := (H.out.below S.bel).elem3 (k := k) (fun s : Req => .string s.name) (fun s : Req => .bool s.g) (fun s : Req => .slice s.wa s.wn s.wc) (fun _ => rfl) hlt
        cases hA
        cases Option.some.inj (hx'.symm.trans HX.out)
        simp only at d0 d1 d2
        clear hx' d0 d1
        by_cases hlm : m < wn
        · obtain ⟨b3, o3, y, rfl, hy, e0, e1⟩ := (HWS.out.below S.bel).elem2 (k := m) (fun s : Wish => .int .i64 s.s) (fun s : Wish => .int .i64 s.w) (fun _ => rfl) hlm
          have k2 := S.blk_cell (i := 2) rfl 2
          have hblt := World.block_lt_of_cell? _ _ d2
          have hblt3 := World.block_lt_of_cell? _ _ e0
          have HY := Lib.hid hy
          clear hy
          go_wp2_with fail
          have hgx := World.block_lt_of_cell? _ _ k2
          refine wp_head_tail' 0 11 1 [] [0, 1, 2, 3, 4, 5, 6, 7, 8, 9] rfl (fun w' => Below wr.heap.size wr w') (by kernel_rfl) (by kernel_rfl) (Below.refl _ _).drew ?_
          simp only [pick, List.filterMap_cons, List.filterMap_nil, List.getElem?_toArray, List.getElem?_cons_succ, List.getElem?_cons_zero]
          generalize hK : (fun w' => Below wr.heap.size wr w') = K
          have kb : ∀ z : Wd K, Below wr.heap.size wr z.w := by subst hK; exact fun z => z.h
          have hK2 : ∀ w', Below wr.heap.size wr w' → K w' := by subst hK; exact fun _ h => h
          have hne : Nonempty (Wd K) := ⟨⟨wr, hK2 _ (Below.refl _ _)⟩⟩
          have y0 : ∀ z : Wd K, z.w.cell? ⟨b, o + k * 3 + 2, none⟩ = some (.slice (some ⟨b3, o3, none⟩) wn wc) := fun z => ((kb z).cell (p := ⟨b, o + k * 3 + 2, none⟩) hblt).trans d2
          have y1 : ∀ z : Wd K, z.w.cell? ⟨b3, o3 + m * 2, none⟩ = some (.int .i64 y.s) := fun z => ((kb z).cell (p := ⟨b3, o3 + m * 2, none⟩) hblt3).trans e0
          have y2 : ∀ z : Wd K, z.w.cell? ⟨b3, o3 + m * 2 + 1, none⟩ = some (.int .i64 y.w) := fun z => ((kb z).cell (p := ⟨b3, o3 + m * 2 + 1, none⟩) hblt3).trans e1
          have y3 : ∀ z : Wd K, z.w.cell? ⟨gx, 2, none⟩ = some wv := fun z => ((kb z).cell (p := ⟨gx, 2, none⟩) hgx).trans k2
          clear hK d2 e0 e1 k2
          refine wpQuiet_nil ?_
          change wpQuiet _ _ _ _ (_ :: _ :: _ :: _ :: _ :: _ :: _ :: _ :: _ :: _ :: []) _
          repeat (go_big_quiet_step ((fail)))
          refine wpQuiet_nil ?_
          clear y0 y1 y2 y3 hne kb
          refine headW_all (rs := [10]) (by kernel_rfl) (by simp) (by kernel_rfl) ?_
          intro i hi
          obtain rfl := List.mem_singleton.1 hi
          refine wpOp_list rfl ?_
          intro Q' hQ'
          go_wp2_with fail
          refine ⟨hK2 _ ((Below.refl _ _).alloc (Nat.le_refl _) _).drew, by kernel_rfl, ?_⟩
          clear hK2
          have SA := (S.alloc (.cells #[.int .i64 y.s, .int .i64 y.w] 125)).drew
          have hrd : Rd ((wr.alloc (.cells #[.int .i64 y.s, .int .i64 y.w] 125)).drew) (fun _ => True) 2 (.slice (some ⟨wr.heap.size, 0, none⟩) 1 1) 1 [.int .i64 y.s, .int .i64 y.w] :=
            (rd_new (m := 1) wr #[.int .i64 y.s, .int .i64 y.w] 125 rfl (by omega) (fun _ => True) trivial).loc (Nat.le_refl _) (fun _ _ => rfl)
          generalize (wr.alloc (.cells #[.int .i64 y.s, .int .i64 y.w] 125)).drew = w8 at *
          generalize wr.heap.size = g8 at *
          go_wp2_with (first
            | (at_builtin
               refine wpList_append_st eltRW rfl _ _ rfl rfl SA (k := 3) rfl rfl hrd (by simp [Value.oneCell']) (by omega) (by omega) ?_
               intro v' w9 S9 _
               obtain ⟨A', c', rfl, _, _, _⟩ := (S9.row_rd (i := 3) rfl).open_
               have f2 := S9.blk_cell (i := 2) rfl 2
               have z2 := S9.blk_frozen (i := 2) rfl 2
               have T9 := S9.blk_set (i := 2) rfl 2 (.slice A' (m + 1) c')))
          refine NoPanic.normal ?_
          have HT9 := Lib.hid T9
          clear T9 S9 f2 z2
          go_wp2
          go_roundw
          case rel => exact ⟨m + 1, .slice A' (m + 1) c', by omega, by go_num, by
            have := HT9.out
            rw [take_at HY.out, List.flatMap_append]
            simpa [Wish.cells] using this⟩
          case measure => simp [intOf]; omega
        · obtain rfl : m = wn := by omega
          obtain ⟨A', c', rfl, _, _, _⟩ := (S.row_rd (i := 3) rfl).open_
          have f0 := S.blk_cell (i := 2) rfl 0
          have f1 := S.blk_cell (i := 2) rfl 1
          have f2 := S.blk_cell (i := 2) rfl 2
          have HWL := Lib.hid (HWS.out.count (f := Wish.cells) (size := 2) (fun _ => rfl) (by decide))
          go_wp2_with (first
            | (at_builtin
               refine wpList_append_st eltRR rfl _ _ rfl rfl (S.alloc _) (k := 0) rfl rfl (rd_new wr #[.string name, .bool g, .slice A' m c'] 124 rfl (by omega) (fun _ => True) trivial) (by simp [Value.oneCell']) (by omega) (by omega) ?_
               intro v' w9 S9 _))
          have HS9 := Lib.hid S9
          clear S9 S f0 f1 f2 d2
          go_roundw
          case rel =>
            refine ⟨k + 1, rs' ++ [⟨name, g, A', m, c', ws⟩], by omega, by go_num, ?_, ?_, ?_⟩
            · show _ = _
              rw [List.map_append, he1.out, take_at HX.out, List.map_append]; rfl
            · intro r hr
              rcases List.mem_append.1 hr with hr | hr
              · exact he2.out r hr
              · obtain rfl := List.mem_singleton.1 hr
                exact HNAME.out
            · have S1 := HS9.out
              rw [List.take_of_length_le (by have := HWL.out; omega)] at S1
              have S2 := S1.sub (L' := [_, wis W rs', row 125 2 (.slice A' m c') m (ws.flatMap Wish.cells)]) (.cons_cons _ (.cons_cons _ (.cons _ (List.Sublist.refl _))))
              have S3 := St.merge (L := [_]) (C := wis W (rs' ++ [⟨name, g, A', m, c', ws⟩])) S2 (by
                intro F1 F2 h2 h3 z hz
                rcases List.mem_append.1 hz with hz | hz
                · exact (h2 z hz).imp id fun h => h.mono fun b _ hb => .inl hb
                · obtain rfl := List.mem_singleton.1 hz
                  exact .inr ((rd_of_row h3).mono fun b _ hb => .inr hb))
              rw [List.flatMap_append]
              simpa [Req.cells] using S3
          case measure => simp [intOf]; omega
    · obtain rfl : k = n := by omega
      have HSS := Lib.hid S
      clear S
      go_wp2
      go_ret
      refine ⟨_, rs', rfl, ?_, he2.out, HSS.out⟩
      rw [he1.out, List.take_of_length_le (by have := HL.out; omega)]
end Go.Proofs.YtjfhncnpmelopaaGreatDoor
