/- Part 16 of the walks of the golf union's program: WM4, WM5, SP, WM6, WP2. -/
import Derived.Test.YtlffgdmljioaoaaGreatDoorD15
import Derived.Test.YtlffgdmljioaoaaGreatDoorD11
import Derived.Outline
import Derived.Test.YtlffgdmljioaoaaGreatDoorD09
import Derived.Test.YtlffgdmljioaoaaGreatDoorD01
import Derived.Test.YtlffgdmljioaoaaGreatDoorD07
set_option linter.unusedVariables false
set_option linter.unusedSimpArgs false
set_option linter.unusedSectionVars false
set_option linter.constructorNameAsVariable false
/- Walks: solve, solved, Best, Assign. -/
namespace Go.Proofs.YtlffgdmljioaoaaGreatDoor
open Go.RowKit Go.Mem Go.Sheet
/-- how solve ends -/
def SolveEnd (W : World) (R : Nat) (M : Mt) (r : Option Int) (e : Ending) (w' : World) : Prop :=
  (r = none → e = .returned (.tuple #[.pointer none, .slice none 0 0, .int .i64 0, .bool false]) ∧ Below W.heap.size W w') ∧
  ∀ v, r = some v → ∃ g va, e = .returned (.tuple #[.pointer (some ⟨g, 0, none⟩), va, .int .i64 v, .bool true]) ∧ St W w' [blk g 184 (cellsM M).toArray, row 3 1 va R (intsV (places M))]
def RetSolve (W : World) (l : List Slot) (rs : List RQ) (e : Ending) (w' : World) : Prop :=
  ∃ M, Matched l rs weightQ M ∧ SolveEnd W rs.length M (solveV rs (places M) 0) e w'
set_option maxRecDepth 100000 in
set_option maxHeartbeats 2000000 in
theorem solve_any (W : World) (vl vr : Value) (nl n : Nat) (l : List Slot) (rs : List Req) (hl : Rd W (· < W.heap.size) 3 vl nl (l.flatMap Slot.cells)) (h : RdReqs W (· < W.heap.size) vr n rs) (hok : MOk l (rs.map Req.rq)) :
    Calls Tryz.prog 79 #[vl, vr] W (RetSolve W l (rs.map Req.rq)) := by
  have HN := Lib.hid (h.1.count (f := Req.cells) (size := 3) (fun _ => rfl) (by decide))
  have hnr : rs.length ≤ 24 := by have := hok.nr; rwa [List.length_map] at this
  have hn24 : n ≤ 24 := by rw [HN.out]; exact hnr
  obtain ⟨A, c, rfl, _, _, _⟩ := h.1.open_
  have HMC := Lib.hid (match_any W vl nl n c A l rs 122 hl h weightQ (enters Tryz.func122 (by kernel_rfl) rfl) (fun x y w hx hy => weight_any x y (hok.ws x.rq (List.mem_map_of_mem hx) y hy).2 w) hok.sv hok.sp hok.nl hnr)
  have HP := Lib.hid (plc_len (fun s hs => (hok.sp s hs).2) 0)
  have HOK := Lib.hid hok
  have HH := Lib.hid h
  clear hl h hok
  go_enter Tryz.func79, Tryz.ntmps79
  go_wp2_with fail
  refine HMC.out.mono ?_
  rintro e w2 ⟨g, M, rfl, hM, S⟩
  have hrows : M.rows = n := by rw [hM.rows, List.length_map, HN.out]
  have hMn : M.n ≤ 217 := by
    have h1 := hM.n
    have h2 := HP.out
    have h3 := HOK.out.nl
    rw [List.length_map] at h1
    omega
  have HPL := Lib.hid (places_any W w2 g M S hM.len hMn (by omega) (fun k a b => by have := hM.hm.ple k a b; rw [List.length_map, ← HN.out] at this; rw [hrows]; exact this))
  have HROWS := Lib.hid hrows
  clear HMC S hrows
  go_wp2_with fail
  refine HPL.out.mono ?_
  rintro e w3 ⟨va, rfl, S⟩
  clear HPL
  have hpl := places_len M
  rw [HROWS.out] at S hpl
  have HM1 := Lib.hid hM
  have HPLN := Lib.hid hpl
  generalize hpp : places M = pl at *
  have HPP := Lib.hid hpp
  clear hpl hpp hM
  obtain ⟨Aa, ca, rfl, hc1, hc2, _⟩ := (S.row_rd (i := 1) rfl).open_
  unfold maxLen at hc2
  go_wp2
  go_loopw [22, 10] (fun i v w' => ∃ (k : Nat) (val : Int), k ≤ n ∧ i = .int .i64 k ∧ v = .int .i64 val ∧ 0 ≤ val ∧ val ≤ 10000 * k ∧ St W w' [blk g 184 (cellsM M).toArray, row 3 1 (.slice Aa n ca) n (intsV pl)] ∧ Hid (solveV ((rs.map Req.rq).drop k) (pl.drop k) val = solveV (rs.map Req.rq) pl 0)) (fun i _ _ => n - (intOf i).toNat)
  case atStart => exact ⟨0, 0, Nat.zero_le _, rfl, rfl, Int.le_refl _, by simp, S, rfl⟩
  case round =>
    obtain ⟨k, val, hk, rfl, rfl, hv0, hv1, S2, he⟩ := hrel
    clear S
    by_cases hlt : k < n
    · obtain ⟨b, o, s, rfl, hs, c0⟩ := (S2.row_rd (i := 1) rfl).int hlt
      obtain ⟨bx, ox, x, rfl, hx, d0, d1, d2⟩ := (HH.out.1.below S2.bel).elem3 (k := k) (fun s : Req => .string s.name) (fun s : Req => .bool s.g) (fun s : Req => .slice s.wa s.wn s.wc) (fun _ => rfl) hlt
      have hxm := List.mem_of_getElem? hx
      have hrx : Rd wr (· < wr.heap.size) 2 x.wv x.wn (x.ws.flatMap Wish.cells) := ((HH.out.2 x hxm).1.below S2.bel).now
      have hxq : (rs.map Req.rq)[k]? = some x.rq := by rw [List.getElem?_map, hx]; rfl
      have HX := Lib.hid hxq
      have HS := Lib.hid hs
      have HXM := Lib.hid hxm
      clear hx hxq hs hxm
      cases hf : x.ws.find? fun y => y.s == s with
      | none =>
        have HW1 := Lib.hid (wish_no wr x s hrx hf)
        have HF : Hid (x.rq.ws.find? (fun y => y.s == s) = none) := hf
        clear hrx hf
        cases hg : x.g with
        | true =>
          have HR : Hid (solveV (rs.map Req.rq) pl 0 = none) := solveV_fail HX.out HS.out HF.out hg he.out
          have HG := Lib.hid hg
          clear hg
          go_wp2_with fail
          refine HW1.out.mono ?_
          rintro e w5 ⟨rfl, hb5⟩
          have S6 := (S2.ext hb5).alloc (.cells #[.int .i64 0, .int .i64 0] 122)
          have e1 := (hb5.cell (p := ⟨bx, ox + k * 3 + 1, none⟩) (World.block_lt_of_cell? wr _ d1)).trans d1
          rw [HG.out] at e1
          have hbel := S6.bel
          have hbx5 := World.block_lt_of_cell? w5 _ e1
          clear S2 S6 hb5 c0 d0 d1 d2 he
          go_wp2
          refine bodyPost_ret (v := .tuple #[.pointer none, .slice none 0 0, .int .i64 0, .bool false]) (by simp [results, Tryz.results79, go_sem]) rfl ⟨M, HM1.out, ?_⟩
          rw [HPP.out, HR.out]
          exact ⟨fun _ => ⟨rfl, hbel⟩, fun v hv => by cases hv⟩
        | false =>
          have HR := Lib.hid (solveV_miss HX.out HS.out HF.out hg he.out)
          have HG := Lib.hid hg
          clear hg
          go_wp2_with fail
          refine HW1.out.mono ?_
          rintro e w5 ⟨rfl, hb5⟩
          have S6 := (S2.ext hb5).alloc (.cells #[.int .i64 0, .int .i64 0] 122)
          have e1 := (hb5.cell (p := ⟨bx, ox + k * 3 + 1, none⟩) (World.block_lt_of_cell? wr _ d1)).trans d1
          rw [HG.out] at e1
          have hbx5 := World.block_lt_of_cell? w5 _ e1
          have HS6 := Lib.hid S6
          clear S2 S6 hb5 c0 d0 d1 d2 he
          go_wp2
          go_roundw
          case rel => exact ⟨k + 1, val, by omega, by go_num, rfl, hv0, by omega, HS6.out, HR.out⟩
          case measure => simp [intOf]; omega
      | some y =>
        have HW1 := Lib.hid (wish_yes wr x s y hrx hf)
        have HF : Hid (x.rq.ws.find? (fun y => y.s == s) = some y) := hf
        have hyb := HOK.out.ws x.rq (List.mem_map_of_mem HXM.out) y (find_mem hf).1
        have hy0 := hyb.2.1
        have hy1 := hyb.2.2
        have HR := Lib.hid (solveV_hit HX.out HS.out HF.out he.out)
        clear hrx hf hyb
        go_wp2_with fail
        refine HW1.out.mono ?_
        rintro e w5 ⟨rfl, hb5⟩
        have S6 := (S2.ext hb5).alloc (.cells #[.int .i64 y.s, .int .i64 y.w] 122)
        have HS6 := Lib.hid S6
        clear S2 S6 hb5 c0 d0 d1 d2 he
        go_wp2
        go_roundw
        case rel => exact ⟨k + 1, val + y.w, by omega, by go_num, rfl, by omega, by omega, HS6.out, HR.out⟩
        case measure => simp [intOf]; omega
    · have hkk : k = n := by omega
      have HR : Hid (solveV (rs.map Req.rq) pl 0 = some val) := solveV_end (by rw [HPLN.out]; omega) he.out
      have HS2 := Lib.hid S2
      clear S2 he
      go_wp2
      refine bodyPost_ret (v := .tuple #[.pointer (some ⟨g, 0, none⟩), .slice Aa n ca, .int .i64 val, .bool true]) (by simp [results, Tryz.results79, go_sem]) rfl ⟨M, HM1.out, ?_⟩
      rw [HPP.out, HR.out]
      refine ⟨fun h => (by cases h), fun v hv => ?_⟩
      obtain rfl := Option.some.inj hv
      refine ⟨g, _, rfl, ?_⟩
      rw [HPP.out, List.length_map, ← HN.out]
      exact HS2.out
end Go.Proofs.YtlffgdmljioaoaaGreatDoor
/- Walks: solved, Best, Assign, Most. -/
namespace Go.Proofs.YtlffgdmljioaoaaGreatDoor
open Go.RowKit Go.Mem Go.Sheet
/-- how solved ends -/
def RetSolved (W : World) (l : List Slot) (rs : List RQ) (e : Ending) (w' : World) : Prop :=
  (checkRequests l rs ≠ 0 ∧ e = .returned (.tuple #[.pointer none, .slice none 0 0, .int .i64 0, .int .i64 (checkRequests l rs)]) ∧ Below W.heap.size W w') ∨
  (checkRequests l rs = 0 ∧ ∃ M, Matched l rs weightQ M ∧
    ((solveV rs (places M) 0 = none ∧ e = .returned (.tuple #[.pointer none, .slice none 0 0, .int .i64 0, .int .i64 23]) ∧ Below W.heap.size W w') ∨
     ∃ v g va, solveV rs (places M) 0 = some v ∧ e = .returned (.tuple #[.pointer (some ⟨g, 0, none⟩), va, .int .i64 v, .int .i64 0]) ∧ St W w' [blk g 184 (cellsM M).toArray, row 3 1 va rs.length (intsV (places M))]))
set_option maxRecDepth 100000 in
set_option maxHeartbeats 1000000 in
theorem solved_any (W : World) (vl vr : Value) (nl n : Nat) (l : List Slot) (rs : List Req) (hl : Rd W (· < W.heap.size) 3 vl nl (l.flatMap Slot.cells)) (h : RdReqs W (· < W.heap.size) vr n rs) :
    Calls Tryz.prog 77 #[vl, vr] W (RetSolved W l (rs.map Req.rq)) := by
  have HC := Lib.hid (checkRequests_any W vl vr nl n l rs hl h)
  have HL := Lib.hid hl
  have HH := Lib.hid h
  have HK : Hid (checkRequests l (rs.map Req.rq) = 0 → MOk l (rs.map Req.rq)) := fun h => okay_mok (okay_of h)
  clear hl h
  go_enter Tryz.func77, Tryz.ntmps77
  go_wp2_with fail
  refine HC.out.mono ?_
  rintro e w2 ⟨rfl, hb⟩
  clear HC
  generalize hE : checkRequests l (rs.map Req.rq) = E at *
  have HE := Lib.hid hE
  clear hE
  by_cases h0 : (E != 0) = true
  · go_wp2
    refine bodyPost_ret (v := .tuple #[.pointer none, .slice none 0 0, .int .i64 0, .int .i64 E]) (by simp [results, Tryz.results77, go_sem]) rfl (.inl ⟨by rw [HE.out]; simpa using h0, by rw [HE.out], hb⟩)
  · have h0' : (E != 0) = false := by simpa using h0
    have hE0 : E = 0 := by simpa using h0
    have hok := HK.out hE0
    have HS := Lib.hid (solve_any w2 vl vr nl n l rs (HL.out.later hb) (reqs_later HH.out hb) hok)
    have HE0 := Lib.hid hE0
    clear hE0 h0 hok HK
    go_wp2_with fail
    refine HS.out.mono ?_
    rintro e w3 ⟨M, hM, hn, hs⟩
    cases hr : solveV (rs.map Req.rq) (places M) 0 with
    | none =>
      obtain ⟨rfl, hb3⟩ := hn hr
      have HF : Hid (RetSolved W l (rs.map Req.rq) (.returned (.tuple #[.pointer none, .slice none 0 0, .int .i64 0, .int .i64 23])) w3) :=
        .inr ⟨HE.out.trans HE0.out, M, hM, .inl ⟨hr, rfl, hb.trans (hb3.mono hb.size)⟩⟩
      clear hn hs hr hM HS
      go_wp2_with (go_at_call 53; refine (when_any _ _ _).mono ?_; rintro e w' ⟨rfl, rfl⟩)
      refine bodyPost_ret (v := .tuple #[.pointer none, .slice none 0 0, .int .i64 0, .int .i64 23]) (by simp [results, Tryz.results77, go_sem, whenE]) rfl HF.out
    | some v =>
      obtain ⟨g, va, rfl, S⟩ := hs v hr
      have HF : Hid (RetSolved W l (rs.map Req.rq) (.returned (.tuple #[.pointer (some ⟨g, 0, none⟩), va, .int .i64 v, .int .i64 0])) w3) :=
        .inr ⟨HE.out.trans HE0.out, M, hM, .inr ⟨v, g, va, hr, rfl, by have := (St.of_below hb).call S; simpa using this⟩⟩
      clear hn hs hr hM HS S
      go_wp2_with (go_at_call 53; refine (when_any _ _ _).mono ?_; rintro e w' ⟨rfl, rfl⟩)
      refine bodyPost_ret (v := .tuple #[.pointer (some ⟨g, 0, none⟩), va, .int .i64 v, .int .i64 0]) (by simp [results, Tryz.results77, go_sem, whenE]) rfl HF.out
theorem best_any (W : World) (vl vr : Value) (nl n : Nat) (l : List Slot) (rs : List Req) (hl : Rd W (· < W.heap.size) 3 vl nl (l.flatMap Slot.cells)) (h : RdReqs W (· < W.heap.size) vr n rs) :
    Calls Tryz.prog 33 #[vl, vr] W fun e w' => e = .returned (.tuple #[.int .i64 (best l (rs.map Req.rq)).1, .int .i64 (best l (rs.map Req.rq)).2]) ∧ Below W.heap.size W w' := by
  have HC := Lib.hid (solved_any W vl vr nl n l rs hl h)
  clear hl h
  go_enter Tryz.func33, Tryz.ntmps33
  go_wp2_with fail
  refine HC.out.mono ?_
  clear HC
  rintro e w2 (⟨h1, rfl, hb⟩ | ⟨h1, M, hM, ⟨hr, rfl, hb⟩ | ⟨v, g, va, hr, rfl, S⟩⟩)
  · have HF : Hid (best l (rs.map Req.rq) = (0, checkRequests l (rs.map Req.rq))) := by show _ = _; rw [best, if_pos h1]
    clear h1
    go_wp2
    go_ret2
    exact ⟨by rw [HF.out]; rfl, hb⟩
  · have HF : Hid (best l (rs.map Req.rq) = (0, 23)) := by show _ = _; rw [best, if_neg (fun h => h h1), hM.solveQ, hr]; rfl
    clear h1 hr hM
    go_wp2
    go_ret2
    exact ⟨by rw [HF.out]; rfl, hb⟩
  · have HF : Hid (best l (rs.map Req.rq) = (v, 0)) := by show _ = _; rw [best, if_neg (fun h => h h1), hM.solveQ, hr]; rfl
    have hb := S.bel
    clear h1 hr hM S
    go_wp2
    go_ret2
    exact ⟨by rw [HF.out]; rfl, hb⟩
set_option maxRecDepth 100000 in
set_option maxHeartbeats 1000000 in
theorem most_any (W : World) (vl vr : Value) (nl n : Nat) (l : List Slot) (rs : List Req) (hl : Rd W (· < W.heap.size) 3 vl nl (l.flatMap Slot.cells)) (h : RdReqs W (· < W.heap.size) vr n rs) :
    Calls Tryz.prog 35 #[vl, vr] W fun e w' => e = .returned (.tuple #[.int .i64 (most l (rs.map Req.rq)).1, .int .i64 (most l (rs.map Req.rq)).2]) ∧ Below W.heap.size W w' := by
  have HN := Lib.hid (h.1.count (f := Req.cells) (size := 3) (fun _ => rfl) (by decide))
  obtain ⟨A, c, rfl, _, _, _⟩ := h.1.open_
  have HC := Lib.hid (checkRequests_any W vl _ nl n l rs hl h)
  have HL := Lib.hid hl
  have HH := Lib.hid h
  have HK : Hid (checkRequests l (rs.map Req.rq) = 0 → MOk l (rs.map Req.rq)) := fun h => okay_mok (okay_of h)
  have HMO : Hid (most l (rs.map Req.rq) = if checkRequests l (rs.map Req.rq) ≠ 0 then (0, checkRequests l (rs.map Req.rq)) else (mostM l (rs.map Req.rq), 0)) := rfl
  clear hl h
  go_enter Tryz.func35, Tryz.ntmps35
  go_wp2_with fail
  refine HC.out.mono ?_
  rintro e w2 ⟨rfl, hb⟩
  clear HC
  generalize checkRequests l (rs.map Req.rq) = E at *
  by_cases h0 : (E != 0) = true
  · go_wp2
    go_ret2
    exact ⟨by rw [HMO.out, if_pos (by simpa using h0)]; rfl, hb⟩
  · have h0' : (E != 0) = false := by simpa using h0
    have hok := HK.out (by simpa using h0)
    have HMO2 := HMO.out
    rw [if_neg (by simpa using h0)] at HMO2
    have HMO := Lib.hid HMO2
    have hnr : rs.length ≤ 24 := by have := hok.nr; rwa [List.length_map] at this
    have hn24 : n ≤ 24 := by rw [HN.out]; exact hnr
    have HMC := Lib.hid (match_any w2 vl nl n c A l rs 82 (HL.out.later hb) (reqs_later HH.out hb) oneQ (enters Tryz.func82 (by kernel_rfl) rfl) (fun x y w _ _ => one_any x y w) hok.sv1 hok.sp hok.nl hnr)
    have HP := Lib.hid (plc_len (fun s hs => (hok.sp s hs).2) 0)
    have hnl24 := hok.nl
    clear HK h0 HMO2 hok
    go_wp2_with fail
    refine HMC.out.mono ?_
    rintro e w3 ⟨g, M, rfl, hM, S⟩
    have hrows : M.rows = n := by rw [hM.rows, List.length_map, HN.out]
    have hMn : M.n ≤ 217 := by
      have h1 := hM.n
      have h2 := HP.out
      rw [List.length_map] at h1
      omega
    have HPL := Lib.hid (places_any w2 w3 g M S hM.len hMn (by omega) (fun k a b => by have := hM.hm.ple k a b; rw [List.length_map, ← HN.out] at this; rw [hrows]; exact this))
    have HROWS := Lib.hid hrows
    have HMQ : Hid (mostM l (rs.map Req.rq) = servedN (places M)) := by show _ = _; rw [mostM, hM.eq]
    clear HMC S hrows hM
    go_wp2_with fail
    refine HPL.out.mono ?_
    rintro e w4 ⟨va, rfl, S⟩
    clear HPL
    have hpl := places_len M
    rw [HROWS.out] at S hpl
    have HPLN := Lib.hid hpl
    generalize hpp : places M = pl at *
    clear hpl hpp
    have S2 := (St.of_below hb).call S
    simp only [List.nil_append] at S2
    obtain ⟨Aa, ca, rfl, hc1, hc2, HR⟩ := (S2.row_rd (i := 1) rfl).open_
    have HRR := Lib.hid HR
    have hb4 := S2.bel
    clear S S2 HR hb
    unfold maxLen at hc2
    go_wp2
    go_loop [21, 7] (fun i v => ∃ k : Nat, k ≤ n ∧ i = .int .i64 k ∧ v = .int .i64 (servedN (pl.take k)) ∧ 0 ≤ servedN (pl.take k) ∧ servedN (pl.take k) ≤ k) (fun i _ => n - (intOf i).toNat)
    case atStart => exact ⟨0, Nat.zero_le _, rfl, rfl, by simp [servedN], by simp [servedN]⟩
    case round =>
      obtain ⟨k, hk, rfl, rfl, hs0, hs1⟩ := hrel
      by_cases hlt : k < n
      · obtain ⟨b, o, s, rfl, hs, c0⟩ := HRR.out.int hlt
        have e1 := servedN_snoc (pl.take k) s
        rw [← take_at hs] at e1
        have HE1 := Lib.hid e1
        generalize hsv : servedN (pl.take k) = sv at *
        have HSV := Lib.hid hsv
        clear hs e1 hsv
        by_cases hg : 0 ≤ s
        · go_wp2
          go_round
          case rel => exact ⟨k + 1, by omega, by go_num, by rw [HE1.out, if_pos hg], by rw [HE1.out, if_pos hg]; omega, by rw [HE1.out, if_pos hg]; omega⟩
          case measure => simp [intOf]; omega
        · go_wp2
          go_round
          case rel => exact ⟨k + 1, by omega, by go_num, by rw [HE1.out, if_neg hg, Int.add_zero], by rw [HE1.out, if_neg hg]; omega, by rw [HE1.out, if_neg hg]; omega⟩
          case measure => simp [intOf]; omega
      · have hkk : k = n := by omega
        have ht : Hid (pl.take k = pl) := List.take_of_length_le (by rw [HPLN.out]; omega)
        rw [ht.out]
        clear hs0 hs1
        go_wp2
        go_ret2
        exact ⟨by rw [HMO.out, HMQ.out]; rfl, hb4⟩
end Go.Proofs.YtlffgdmljioaoaaGreatDoor
/- What First computes, as a plain function. -/
namespace Go.Sheet
/-- the wishes of the request i are tried in their order: what the request becomes, and its slot -/
def tryW (l : List Slot) (value : Int) (x : RQ) (i : Nat) : List Wish → List RQ → List RQ × Int
  | [], fx => (fx.set i ⟨x.name, false, []⟩, -1)
  | y :: ws, fx => if (solveQ l (fx.set i ⟨x.name, true, [y]⟩)).map (·.2) = some value then (fx.set i ⟨x.name, true, [y]⟩, y.s) else tryW l value x i ws (fx.set i ⟨x.name, true, [y]⟩)
def firstL (l : List Slot) (value : Int) : Nat → List RQ → List RQ → List Int → List Int
  | _, [], _, a => a
  | i, x :: rs, fx, a => firstL l value (i + 1) rs (tryW l value x i x.ws fx).1 (a.set i (tryW l value x i x.ws fx).2)
def firstF (l : List Slot) (rs : List RQ) : List Int × Int :=
  if checkRequests l rs ≠ 0 then ([], checkRequests l rs) else match solveQ l rs with
    | some (a, v) => (firstL l v 0 rs rs a, 0)
    | none => ([], 23)
theorem MOk.set {l : List Slot} {rs : List RQ} (h : MOk l rs) (i : Nat) (x : RQ) (hx : ∀ y ∈ x.ws, 0 ≤ y.s ∧ 0 ≤ y.w ∧ y.w ≤ 10000) : MOk l (rs.set i x) where
  sp := h.sp
  nl := h.nl
  nr := by rw [List.length_set]; exact h.nr
  ws z hz := by
    rcases List.mem_or_eq_of_mem_set hz with hz | rfl
    · exact h.ws z hz
    · exact hx
end Go.Sheet
/- Walks: First. -/
namespace Go.Mem
open Go.RowKit Go.Sheet
theorem St.merge {W w : World} {A B C : Asr} {L : List Asr} (h : St W w (L ++ [A, B])) (hm : ∀ F1 F2, A.holds w F1 → B.holds w F2 → C.holds w (fun b => F1 b ∨ F2 b)) : St W w (L ++ [C]) := by
  have h1 : St W w (A :: B :: L) := h.perm List.perm_append_comm
  obtain ⟨F1, f1, f2, F2, g1, g2, g3⟩ := h1.2
  have h2 : St W w (C :: L) := ⟨h1.1, fun b => F1 b ∨ F2 b, fun b hb => hb.elim (f1 b) (fun h => (g1 b h).1), hm _ _ f2 g2, g3.mono fun b hb => ⟨hb.1.1, fun h => h.elim hb.1.2 hb.2⟩⟩
  exact h2.perm (List.perm_append_comm (l₁ := [C]))
/-- the wishes of requests: old ones, or new ones -/
def wis (W : World) (rs : List Req) : Asr where
  holds w F := ∀ r ∈ rs, Rd W (· < W.heap.size) 2 r.wv r.wn (r.ws.flatMap Wish.cells) ∨ Rd w F 2 r.wv r.wn (r.ws.flatMap Wish.cells)
  loc := fun h hs hk r hr => (h r hr).imp id fun h => h.loc hs hk
  mono := fun h hh r hr => (h r hr).imp id fun h => h.mono fun b _ => hh b
theorem flatMap_set3 (rs : List Req) (i : Nat) (r : Req) (h : i < rs.length) :
    (((rs.flatMap Req.cells).set (i * 3) (.string r.name)).set (i * 3 + 1) (.bool r.g)).set (i * 3 + 2) (.slice r.wa r.wn r.wc) = (rs.set i r).flatMap Req.cells := by
  induction rs generalizing i with
  | nil => simp at h
  | cons x rs ih =>
    cases i with
    | zero => simp [Req.cells]
    | succ i =>
      have := ih i (by simpa using h)
      simp only [List.flatMap_cons, List.set_cons_succ, ← this, Req.cells]
      rw [show (i + 1) * 3 + 1 = (i * 3 + 1) + 3 by omega, show (i + 1) * 3 + 2 = (i * 3 + 2) + 3 by omega, show (i + 1) * 3 = i * 3 + 3 by omega]
      rfl
end Go.Mem
namespace Go.Proofs.YtlffgdmljioaoaaGreatDoor
open Go.RowKit Go.Mem Go.Sheet
theorem eltR : Elt Tryz.prog 60 73 (.agg #[.string ⟨#[]⟩, .bool false, .slice none 0 0]) 3 48 := ⟨Tryz.underlying60, by kernel_rfl, rfl, by decide⟩
theorem req_one (l : List Req) : ∀ u ∈ l.flatMap Req.cells, u.oneCell' = true := by
  intro u hu
  obtain ⟨x, _, hx⟩ := List.mem_flatMap.1 hu
  simp [Req.cells] at hx
  rcases hx with rfl | rfl | rfl <;> rfl
theorem copiedR_any (W : World) (v : Value) (n : Nat) (l : List Req) (h : Rd W (· < W.heap.size) 3 v n (l.flatMap Req.cells)) (hn : n ≤ 10000000000) :
    Calls Tryz.prog 78 #[v] W fun e w' => ∃ v', e = .returned v' ∧ St W w' [row 73 3 v' n (l.flatMap Req.cells)] := by
  go_enter Tryz.func78, Tryz.ntmps78
  go_wp2_with (first
    | (at_builtin
       refine wpList_append_st eltR rfl _ _ rfl rfl ((St.refl W).row_nil 73 3) (k := 0) rfl rfl h (req_one _) (by omega) (by omega) ?_
       intro v' w' S _))
  go_ret
  exact ⟨_, rfl, by simpa using S⟩
/-- the requests that are fixed, as they lie -/
def fxL (W : World) (n : Nat) (va vF : Value) (a : List Int) (fx : List Req) (L : List Asr) : List Asr :=
  row 3 1 va n (intsV a) :: row 73 3 vF n (fx.flatMap Req.cells) :: wis W fx :: L
theorem fx_reqs {W w : World} {n : Nat} {va vF : Value} {a : List Int} {fx : List Req} {L : List Asr} (S : St W w (fxL W n va vF a fx L)) (hn : ∀ r ∈ fx, r.name.size ≤ 9223372036854775807) : RdReqs w (· < w.heap.size) vF n fx := by
  refine ⟨(S.row_rd (i := 1) rfl).now, fun r hr => ⟨?_, hn r hr⟩⟩
  obtain ⟨F, h1, h2⟩ := S.get (i := 2) rfl
  rcases h2 r hr with h | h
  · exact (h.below S.bel).now
  · exact h.now
/-- the request k is set -/
theorem fx_row {W w : World} {n k gF cF : Nat} {va : Value} {a : List Int} {fx : List Req} {C : Asr} {L : List Asr} (S : St W w (row 3 1 va n (intsV a) :: row 73 3 (.slice (some ⟨gF, 0, none⟩) n cF) n (fx.flatMap Req.cells) :: C :: L)) (hk : k < fx.length) (r : Req) :
    St W (((w.setCell ⟨gF, k * 3, none⟩ (.string r.name)).setCell ⟨gF, k * 3 + 1, none⟩ (.bool r.g)).setCell ⟨gF, k * 3 + 2, none⟩ (.slice r.wa r.wn r.wc)) (row 3 1 va n (intsV a) :: row 73 3 (.slice (some ⟨gF, 0, none⟩) n cF) n ((fx.set k r).flatMap Req.cells) :: C :: L) := by
  have S1 := ((S.row_set (i := 1) rfl (k * 3) (.string r.name)).row_set (i := 1) rfl (k * 3 + 1) (.bool r.g)).row_set (i := 1) rfl (k * 3 + 2) (.slice r.wa r.wn r.wc)
  simp only [List.set_cons_zero, List.set_cons_succ] at S1
  rwa [flatMap_set3 fx k r hk] at S1
theorem fx_wis0 {W w : World} {X Y : Asr} {fx : List Req} {L : List Asr} (S : St W w (X :: Y :: wis W fx :: L)) (k : Nat) (r : Req) (hr : Rd W (· < W.heap.size) 2 r.wv r.wn (r.ws.flatMap Wish.cells)) : St W w (X :: Y :: wis W (fx.set k r) :: L) := by
  obtain ⟨F1, f1, f2, f4⟩ := S.upd (i := 2) rfl
  refine f4 _ (wis W (fx.set k r)) F1 none (fun z hz => ?_) (World.grownBy.refl _ _) (fun g hg => by cases hg) (fun b hb => .inl hb)
  rcases List.mem_or_eq_of_mem_set hz with hz | rfl
  · exact f2 z hz
  · exact .inl hr
theorem fx_wis1 {W w : World} {X Y : Asr} {fx : List Req} {L : List Asr} {b : Nat} {T : TypeId} {y : Wish} (S : St W w (X :: Y :: wis W fx :: blk b T #[.int .i64 y.s, .int .i64 y.w] :: L)) (k : Nat) (name : ByteArray) (g : Bool) :
    St W w (X :: Y :: wis W (fx.set k ⟨name, g, some ⟨b, 0, none⟩, 1, 1, [y]⟩) :: L) := by
  have hlt := (S.blk_at (i := 3) rfl).2.1
  have h1 : St W w ((X :: Y :: L) ++ [wis W fx, blk b T #[.int .i64 y.s, .int .i64 y.w]]) := S.perm (.cons _ (.cons _ (List.perm_append_comm (l₁ := [_, _]))))
  refine (h1.merge (C := wis W (fx.set k ⟨name, g, some ⟨b, 0, none⟩, 1, 1, [y]⟩)) ?_).perm (.cons _ (.cons _ (List.perm_append_comm (l₂ := [_]))))
  intro F1 F2 h2 h3 z hz
  rcases List.mem_or_eq_of_mem_set hz with hz | rfl
  · exact (h2 z hz).imp id fun h => h.mono fun b _ hb => .inl hb
  · refine .inr ⟨_, 1, rfl, Nat.le_refl _, by unfold maxLen; omega, rfl, (fun h => by cases h), fun _ => ⟨b, 0, rfl, .inr h3.2, hlt, fun j u hu => ?_⟩⟩
    rw [Nat.zero_add, cell_of_row w b j _ _ _ h3.1]
    simpa [Wish.cells] using hu
end Go.Proofs.YtlffgdmljioaoaaGreatDoor
/- Walks: played: a group's rows go into the tables. -/
namespace Go.Sheet
open Go.RowKit Go.Mem
/-- rows of a table: values, and what they read -/
def Tabs (ms : List (Value × List Value)) (k : Nat) (vs : List Value) (T : List (List Int)) : Prop :=
  vs.length = k ∧ T.length = k ∧ ∀ (i : Nat) (x : Value) (r : List Int), vs[i]? = some x → T[i]? = some r → (x, ints r) ∈ ms
theorem Tabs.nil (ms : List (Value × List Value)) : Tabs ms 0 [] [] := ⟨rfl, rfl, fun i x r h => by simp at h⟩
theorem Tabs.snoc {ms ms' : List (Value × List Value)} {k : Nat} {vs : List Value} {T : List (List Int)} {x : Value} {r : List Int} (h : Tabs ms k vs T) (hm : ∀ p ∈ ms, p ∈ ms') (hx : (x, ints r) ∈ ms') : Tabs ms' (k + 1) (vs ++ [x]) (T ++ [r]) := by
  obtain ⟨h1, h2, h3⟩ := h
  refine ⟨by simp [h1], by simp [h2], fun i y s hy hs => ?_⟩
  by_cases hi : i < k
  · rw [List.getElem?_append_left (by omega)] at hy hs
    exact hm _ (h3 i y s hy hs)
  · have e : i = k := by have := (List.getElem?_eq_some_iff.1 hy).1; simp [h1] at this; omega
    subst e
    rw [List.getElem?_append_right (by omega), h1, Nat.sub_self] at hy
    rw [List.getElem?_append_right (by omega), h2, Nat.sub_self] at hs
    simp at hy hs
    subst hy hs
    exact hx
end Go.Sheet
namespace Go.Mem
open Go Go.RowKit
theorem row_holds_rd {w : World} {F : Nat → Prop} {e : TypeId} {size n : Nat} {v : Value} {xs : List Value} (h : (row e size v n xs).holds w F) : Rd w F size v n xs := by
  obtain ⟨ho, hF⟩ := h
  have hc := @World.ownsRow.cells _ _ _ _ _ _ _ ho
  have hl := ho.lt
  rcases ho.2 with ⟨rfl, rfl⟩ | ⟨g, cap, cur, rfl, hb, hg, h1, h2, r⟩
  · exact ⟨none, 0, rfl, Nat.le_refl _, Nat.zero_le _, (by have := ho.1; simpa using this), (fun _ => rfl), (fun h => absurd h (by omega))⟩
  · exact ⟨_, cap, rfl, h1, h2, ho.1, (fun h => by cases h), fun _ => ⟨g, 0, rfl, hF g rfl, (hl g rfl).2, fun j u hu => by have := hc (g := g) rfl j u hu; rwa [Addr.add_lit] at this⟩⟩
/-- a row is no longer grown: it is only read from here on -/
theorem St.freeze {W w : World} {L : List Asr} {ms : List (Value × List Value)} {e : TypeId} {v : Value} {xs : List Value} (h : St W w (L ++ [rdAll ms, row e 1 v xs.length xs])) : St W w (L ++ [rdAll (ms ++ [(v, xs)])]) := by
  refine h.merge fun F1 F2 h1 h2 p hp => ?_
  rcases List.mem_append.1 hp with hp | hp
  · exact (h1 p hp).mono fun b _ hb => .inl hb
  · obtain rfl := List.mem_singleton.1 hp
    exact (row_holds_rd h2).mono fun b _ hb => .inr hb
/-- three of them -/
theorem St.freeze3 {W w : World} {a b c d : Asr} {ms : List (Value × List Value)} {e : TypeId} {v1 v2 v3 : Value} {x1 x2 x3 : List Value} (h : St W w [a, b, c, d, rdAll ms, row e 1 v1 x1.length x1, row e 1 v2 x2.length x2, row e 1 v3 x3.length x3]) :
    St W w [a, b, c, d, rdAll (((ms ++ [(v1, x1)]) ++ [(v2, x2)]) ++ [(v3, x3)])] := by
  have h1 : St W w ([a, b, c, d, row e 1 v2 x2.length x2, row e 1 v3 x3.length x3] ++ [rdAll ms, row e 1 v1 x1.length x1]) :=
    h.perm (.cons _ (.cons _ (.cons _ (.cons _ (List.perm_append_comm (l₁ := [rdAll ms, row e 1 v1 x1.length x1]) (l₂ := [row e 1 v2 x2.length x2, row e 1 v3 x3.length x3]))))))
  have h2 : St W w ([a, b, c, d, row e 1 v3 x3.length x3] ++ [rdAll (ms ++ [(v1, x1)]), row e 1 v2 x2.length x2]) :=
    h1.freeze.perm (.cons _ (.cons _ (.cons _ (.cons _ (List.perm_append_comm (l₁ := [row e 1 v2 x2.length x2]) (l₂ := [row e 1 v3 x3.length x3, rdAll (ms ++ [(v1, x1)])]))))))
  have h3 : St W w ([a, b, c, d] ++ [rdAll ((ms ++ [(v1, x1)]) ++ [(v2, x2)]), row e 1 v3 x3.length x3]) :=
    h2.freeze.perm (.cons _ (.cons _ (.cons _ (.cons _ (List.perm_append_comm (l₁ := [row e 1 v3 x3.length x3]) (l₂ := [rdAll ((ms ++ [(v1, x1)]) ++ [(v2, x2)])]))))))
  exact h3.freeze
end Go.Mem
namespace Go.Sheet
open Go.RowKit Go.Mem
theorem tab_form {W w : World} {L : List Asr} {i4 iB k i n : Nat} {t : TypeId} {B : Value} {vb : List Value} {Tb : List (List Int)} {ms : List (Value × List Value)} {m : Int}
    (h : St W w L) (h4 : L[i4]? = some (rdAll ms)) (hB : L[iB]? = some (row t 1 B k vb)) (HT : Tabs ms k vb Tb) (hT : TOk n Tb m) (hi : i < k) (hn : 0 < n) :
    ∃ g cap b o c, B = .slice (some ⟨g, 0, none⟩) k cap ∧ k ≤ cap ∧ vb[i]? = some (.slice (some ⟨b, o, none⟩) n c) ∧ n ≤ c := by
  obtain ⟨g, cap, hv, hc, _⟩ := h.row_form hB (by omega)
  obtain ⟨l1, l2, l3⟩ := HT
  have e1 : vb[i]? = some vb[i] := List.getElem?_eq_getElem (by omega)
  have e2 : Tb[i]? = some Tb[i] := List.getElem?_eq_getElem (by omega)
  have hm := l3 i _ _ e1 e2
  have hl : (Tb[i]).length = n := hT.len _ (List.getElem_mem _)
  obtain ⟨F, _, hF⟩ := h.get h4
  have hr := hF _ hm
  have hl' : (ints Tb[i]).length = n := by rw [ints, List.length_map, hl]
  dsimp only at hr
  rw [hl'] at hr
  obtain ⟨A', c', he, h1, h2, hr'⟩ := hr.open_
  obtain ⟨b, o, hA, _⟩ := hr'.addr hn
  exact ⟨g, cap, b, o, c', hv, hc, by rw [e1, he, hA], h1⟩
theorem tab_cell {W w : World} {L : List Asr} {i4 iB k i j n g cap b o c : Nat} {t : TypeId} {vb : List Value} {Tb : List (List Int)} {ms : List (Value × List Value)} {m : Int}
    (h : St W w L) (h4 : L[i4]? = some (rdAll ms)) (hB : L[iB]? = some (row t 1 (.slice (some ⟨g, 0, none⟩) k cap) k vb)) (HT : Tabs ms k vb Tb) (hT : TOk n Tb m)
    (hx : vb[i]? = some (.slice (some ⟨b, o, none⟩) n c)) (hj : j < n) :
    w.cell? ⟨g, i, none⟩ = some (.slice (some ⟨b, o, none⟩) n c) ∧ w.cell? ⟨b, o + j, none⟩ = some (.int .i64 (at2 Tb i j)) := by
  obtain ⟨l1, l2, l3⟩ := HT
  have hi : i < k := by have := (List.getElem?_eq_some_iff.1 hx).1; omega
  obtain ⟨g', cap', hv, hc, _, _, hcell, _⟩ := h.row_form hB (by omega)
  cases hv
  have e2 : Tb[i]? = some Tb[i] := List.getElem?_eq_getElem (by omega)
  have hl : (Tb[i]).length = n := hT.len _ (List.getElem_mem _)
  obtain ⟨F, _, hF⟩ := h.get h4
  have hr := hF _ (l3 i _ _ hx e2)
  have hl' : (ints Tb[i]).length = n := by rw [ints, List.length_map, hl]
  dsimp only at hr
  rw [hl'] at hr
  refine ⟨by rw [hcell i (by omega), hx], ?_⟩
  obtain ⟨b', o', y, hA, hy, hcy⟩ := Rd.int (q := .i64) (l := Tb[i]) hr hj
  cases hA
  rw [hcy, at2, show Tb.getD i [] = Tb[i] by rw [List.getD_eq_getElem?_getD, e2, Option.getD_some], List.getD_eq_getElem?_getD, hy, Option.getD_some]
theorem tab_rows {W w : World} {L : List Asr} {i4 iB k : Nat} {t : TypeId} {B : Value} {vb : List Value} {Tb : List (List Int)} {ms : List (Value × List Value)}
    (h : St W w L) (h4 : L[i4]? = some (rdAll ms)) (hB : L[iB]? = some (row t 1 B k vb)) (HT : Tabs ms k vb Tb) : RdRows w (· < w.heap.size) B Tb := by
  obtain ⟨l1, l2, l3⟩ := HT
  refine ⟨vb, ?_, fun i x r hx hr => ?_⟩
  · rw [l2, List.map_id]
    exact (h.row_rd hB).mono fun b hb _ => hb
  · obtain ⟨F, hF', hF⟩ := h.get h4
    have hm := hF _ (l3 i x r hx hr)
    dsimp only at hm
    rw [show (ints r).length = r.length by rw [ints, List.length_map]] at hm
    exact hm.mono fun b hb _ => hb
/-- how a group begins a hole, in the words of the walk -/
theorem beginF_0 {B E : List (List Int)} {hd a : Int} {h : Nat} (hh : 1 ≤ hd) : beginF 0 B E hd h a = a := by
  unfold beginF; simp; omega
theorem beginF_1 {g : Nat} {B E : List (List Int)} {hd a b : Int} {h i : Nat} (hg : 0 < g) (hi : (g : Int) - 1 = i) (hh : ¬ hd ≤ (g : Int)) (hb : (if a < at2 B i h then at2 B i h else a) = b) : beginF g B E hd h a = b := by
  have e : g - 1 = i := by omega
  unfold beginF
  simp only
  rw [if_neg hh, if_pos hg, e, ← hb]; omega
theorem beginF_2 {g : Nat} {B E : List (List Int)} {hd a b c : Int} {h i i' : Nat} (hg : 0 < g) (hi : (g : Int) - 1 = i) (hh : hd ≤ (g : Int)) (h1 : 1 ≤ hd) (hi' : (g : Int) - hd = i') (hb : (if a < at2 B i h then at2 B i h else a) = b) (hc : (if b < at2 E i' h then at2 E i' h else b) = c) : beginF g B E hd h a = c := by
  have e : g - 1 = i := by omega
  have e' : g - hd.toNat = i' := by omega
  unfold beginF
  simp only
  rw [if_pos hh, if_pos hg, e, e', ← hc, ← hb]; omega
theorem endF_0 {E : List (List Int)} {b m : Int} {h : Nat} : endF 0 E h b m = b + m := by
  unfold endF; simp
theorem endF_1 {g : Nat} {E : List (List Int)} {b m c : Int} {h i : Nat} (hg : 0 < g) (hi : (g : Int) - 1 = i) (hc : (if b + m < at2 E i h then at2 E i h else b + m) = c) : endF g E h b m = c := by
  have e : g - 1 = i := by omega
  unfold endF
  rw [if_pos hg, e, ← hc]; omega
/-- one hole more -/
theorem playH_step {g j : Nat} {B E : List (List Int)} {mi ho : List Int} {hd a b m e : Int} {cl bl el : List Int} {X : List (Int × Int × Int)} (hhd : ho[j]? = some hd) (hb : beginF g B E hd j a = b) (hm : mi[j]? = some m) (he : endF g E j b m = e)
    (H : cl ++ (playH g B E mi j (ho.drop j) a).map (·.1) = X.map (·.1) ∧ bl ++ (playH g B E mi j (ho.drop j) a).map (·.2.1) = X.map (·.2.1) ∧ el ++ (playH g B E mi j (ho.drop j) a).map (·.2.2) = X.map (·.2.2)) :
    (cl ++ [a]) ++ (playH g B E mi (j + 1) (ho.drop (j + 1)) e).map (·.1) = X.map (·.1) ∧ (bl ++ [b]) ++ (playH g B E mi (j + 1) (ho.drop (j + 1)) e).map (·.2.1) = X.map (·.2.1) ∧ (el ++ [e]) ++ (playH g B E mi (j + 1) (ho.drop (j + 1)) e).map (·.2.2) = X.map (·.2.2) := by
  have em : mi.getD j 0 = m := by rw [List.getD_eq_getElem?_getD, hm, Option.getD_some]
  rw [drop_at hhd, playH, hb, em, he] at H
  simpa using H
/-- the minutes -/
theorem rows_at {w : World} {S : Nat → Prop} {n k j : Nat} {A : Option Addr} {mn cm : Nat} {ms : List (List Int)} {r : List Int} (h : RdRows w S (.slice A mn cm) ms) (hr : ms[k]? = some r) (hl : r.length = n) (hj : j < n) :
    ∃ b o b' o' c m, A = some ⟨b, o, none⟩ ∧ w.cell? ⟨b, o + k, none⟩ = some (.slice (some ⟨b', o', none⟩) n c) ∧ n ≤ c ∧ r[j]? = some m ∧ w.cell? ⟨b', o' + j, none⟩ = some (.int .i64 m) := by
  obtain ⟨vs, h1, h2⟩ := h
  have hk : k < ms.length := (List.getElem?_eq_some_iff.1 hr).1
  obtain ⟨b, o, x, hA, hx, hc⟩ := h1.val (k := k) (by exact hk)
  have hrx := h2 k x r hx hr
  rw [hl] at hrx
  obtain ⟨A', c', rfl, hcc, _, hrx'⟩ := hrx.open_
  obtain ⟨b', o', m, rfl, hm, hcm⟩ := Rd.int (q := .i64) (l := r) hrx' hj
  exact ⟨b, o, b', o', c', m, hA, hc, hcc, hm, hcm⟩
end Go.Sheet
namespace Go.Proofs.YtlffgdmljioaoaaGreatDoor
open Go.RowKit Go.Mem Go.Sheet
/-- what the outer loop of played knows of the tables at group k -/
def PInv (p : PC) (hn k : Nat) (ms : List (Value × List Value)) (vc vb ve : List Value) (T : Tab) : Prop :=
  Tabs ms k vc T.c ∧ Tabs ms k vb T.b ∧ Tabs ms k ve T.e ∧ TOk hn T.b (10000 + 360000 * k) ∧ TOk hn T.e (10000 + 360000 * k) ∧ playG p.mi p.ho k (p.rd.drop k) T = played p
theorem play_step {w2 w' : World} {go hn k : Nat} {p : PC} {A' B' C' Vc Vb Ve : Value} {vc vb ve : List Value} {ms : List (Value × List Value)} {T : Tab} {x : Int} {cl bl el : List Int} (hok : POk p) (hhn : p.ho.length = hn)
    (hx : p.rd[k]? = some x) (HT : PInv p hn k ms vc vb ve T)
    (h1 : cl = (playH k T.b T.e (p.mi.getD k []) 0 p.ho x).map (·.1)) (h2 : bl = (playH k T.b T.e (p.mi.getD k []) 0 p.ho x).map (·.2.1)) (h3 : el = (playH k T.b T.e (p.mi.getD k []) 0 p.ho x).map (·.2.2))
    (S : St w2 w' [blk go 142 #[A', B', C'], row 23 1 A' (k + 1) (vc ++ [Vc]), row 23 1 B' (k + 1) (vb ++ [Vb]), row 23 1 C' (k + 1) (ve ++ [Ve]), rdAll ms, row 3 1 Vc hn (ints cl), row 3 1 Vb hn (ints bl), row 3 1 Ve hn (ints el)]) :
    ∃ (T' : Tab) (ms' : List (Value × List Value)), St w2 w' [blk go 142 #[A', B', C'], row 23 1 A' (k + 1) (vc ++ [Vc]), row 23 1 B' (k + 1) (vb ++ [Vb]), row 23 1 C' (k + 1) (ve ++ [Ve]), rdAll ms'] ∧
      PInv p hn (k + 1) ms' (vc ++ [Vc]) (vb ++ [Vb]) (ve ++ [Ve]) T' := by
  obtain ⟨t1, t2, t3, t4, t5, t6⟩ := HT
  have hlen : (playH k T.b T.e (p.mi.getD k []) 0 p.ho x).length = hn := by rw [playH_len, hhn]
  have lc : (ints cl).length = hn := by rw [h1, ints, List.length_map, List.length_map, hlen]
  have lb : (ints bl).length = hn := by rw [h2, ints, List.length_map, List.length_map, hlen]
  have le : (ints el).length = hn := by rw [h3, ints, List.length_map, List.length_map, hlen]
  have hkr : k < p.rd.length := (List.getElem?_eq_some_iff.1 hx).1
  have hxb := hok.rdb x (List.mem_of_getElem? hx)
  have h36 : hn ≤ 36 := hhn ▸ hok.ho36
  have hmi : ∀ y ∈ p.mi.getD k [], 0 ≤ y ∧ y ≤ 10000 := fun y hy => by
    have hkm : k < p.mi.length := by rw [hok.mil]; exact hkr
    have e : p.mi.getD k [] = p.mi[k] := by rw [List.getD_eq_getElem?_getD, List.getElem?_eq_getElem hkm, Option.getD_some]
    rw [e] at hy
    have := (hok.mib _ (List.getElem_mem hkm)).2 y hy
    omega
  have hbd := playH_bd (g := k) (mi := p.mi.getD k []) t4 t5 (by omega) hmi p.ho 0 x hxb.1 (by omega)
  have S1 : St w2 w' [blk go 142 #[A', B', C'], row 23 1 A' (k + 1) (vc ++ [Vc]), row 23 1 B' (k + 1) (vb ++ [Vb]), row 23 1 C' (k + 1) (ve ++ [Ve]), rdAll ms, row 3 1 Vc (ints cl).length (ints cl), row 3 1 Vb (ints bl).length (ints bl), row 3 1 Ve (ints el).length (ints el)] := by
    rw [lc, lb, le]; exact S
  refine ⟨⟨T.c ++ [cl], T.b ++ [bl], T.e ++ [el]⟩, _, S1.freeze3, ?_, ?_, ?_, ?_, ?_, ?_⟩
  · exact t1.snoc (fun q hq => by simp [hq]) (by simp)
  · exact t2.snoc (fun q hq => by simp [hq]) (by simp)
  · exact t3.snoc (fun q hq => by simp [hq]) (by simp)
  · refine (t4.mono (by omega)).snoc (by rw [h2, List.length_map, hlen]) fun y hy => ?_
    rw [h2] at hy
    obtain ⟨z, hz, rfl⟩ := List.mem_map.1 hy
    have := (hbd z hz).2.1
    omega
  · refine (t5.mono (by omega)).snoc (by rw [h3, List.length_map, hlen]) fun y hy => ?_
    rw [h3] at hy
    obtain ⟨z, hz, rfl⟩ := List.mem_map.1 hy
    have := (hbd z hz).2.2
    omega
  · rw [List.drop_eq_getElem_cons hkr] at t6
    have ex : p.rd[k] = x := by rw [List.getElem?_eq_getElem hkr] at hx; exact Option.some.inj hx
    rw [← t6, playG, ex, h1, h2, h3]
end Go.Proofs.YtlffgdmljioaoaaGreatDoor
