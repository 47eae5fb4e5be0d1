/- Part 22 of the walks of the golf union's program: UF8, UF9, UF10, UF11, UF12, UF13, UF14. -/
import Derived.Test.YtnaafefcijgpkaaGreatDoorB21
set_option linter.unusedVariables false
set_option linter.unusedSimpArgs false
set_option linter.unusedSectionVars false
set_option linter.constructorNameAsVariable false
/- Messages: '!=' of equal ones; blocks that are read; joined, of a list and one message. -/
namespace Go.Mem
open Go Go.RowKit
theorem St.blk_rd {W w : World} {L : List Asr} {i g size n cap : Nat} {t : TypeId} {cs : Array Value} {xs : List Value} (h : St W w L) (hi : L[i]? = some (blk g t cs)) (hn : n ≤ cap) (hm : cap ≤ maxLen) (hx : cs.toList.take (n * size) = xs) (hl : xs.length = n * size) : Rd w (· < w.heap.size) size (.slice (some ⟨g, 0, none⟩) n cap) n xs := by
  obtain ⟨_, h2, h3⟩ := h.blk_at hi
  refine ⟨_, cap, rfl, hn, hm, hl, (fun h => by cases h), fun _ => ⟨g, 0, rfl, h2, h2, fun j u hj => ?_⟩⟩
  rw [Nat.zero_add]
  rw [← hx, List.getElem?_take] at hj
  split at hj
  · exact (cell_of_row w g j cs t (0, 0) h3).trans (by rw [← Array.getElem?_toList]; exact hj)
  · cases hj
theorem wpList_make_blk {P : Program} {ops : Array Oper} {rest : List Oper} {o : Oper} {a : Act} {Q : Exit → Act → World → Prop} {w : World} {t e : TypeId} {z : Value} {size bytes : Nat} (hE : Elt P t e z size bytes)
    (hgd : o.guard = none) (l c : Operand) (ho : o.op = .makeSlice t l c) {kl kc : IntKind} {n : Nat} (hl : a.eval l = .int kl (n : Int)) (hc : a.eval c = .int kc ((n : Int) + 1))
    (hbytes : bytes * (n + 1) ≤ 281474976710656) (h63 : n ≤ 281474976710656)
    (h : wpList P ops Q rest (a.put o.dst (.slice (some ⟨w.heap.size, 0, none⟩) n (n + 1))) (w.alloc (.cells (madeCells z.cells ((n + 1) * size)) e))) : wpList P ops Q (o :: rest) a w := by
  obtain ⟨ht, hinfo, hzs, hsz⟩ := hE
  obtain ⟨i, hi, hz, hsize, hby⟩ := info_parts hinfo
  refine wpList_plain hgd fun K hK => ?_
  have hb2 : (i.bytes : Int) * ((n : Int) + 1) ≤ 281474976710656 := by
    rw [hby]
    have h2 : ((bytes * (n + 1) : Nat) : Int) ≤ 281474976710656 := by omega
    rw [Int.natCast_mul, Int.natCast_add] at h2
    exact h2
  have hrun := run_make (P := P) w t e i z ht hi hz kl kc (n : Int) ((n : Int) + 1) (by omega) (by omega) hb2 (by omega)
  rw [show ((n : Int) + 1).toNat = n + 1 by omega, hsize, Int.toNat_natCast] at hrun
  unfold Oper.wp
  simp [execOp, ho, hl, hc, hrun, Result.andThen]
  exact hK _ _ h
end Go.Mem
namespace Go.Proofs.YtnaafefcijgpkaaGreatDoor
open Go.RowKit Go.Mem Go.Sheet Go.Adj
theorem eqg_ms (op : BinOp) (x y : Operand) (xs ys : Array Value) (w : World) : (eqGuard op 69 x y (.agg xs) (.agg ys)).run Tryz.prog w = .ok () w := run_eqGuard_agg w op _ x y xs ys (by kernel_rfl)
theorem eq_ent (w : World) (d : Nat) (s : Int) (m : ByteArray) : (Op.equalIn (d + 2) 65 (.agg #[.int .i64 s, .string m]) (.agg #[.int .i64 s, .string m])).run Tryz.prog w = .ok true w := by
  rw [run_equalIn_agg w (d + 1) _ _ _ (by kernel_rfl) (by kernel_rfl)]
  have hf : (Tryz.prog.fieldsOf 65).toList.map (fun f => (f.name != "_", f.type, f.offset)) = [(true, 3, 0), (true, 9, 1)] := by kernel_rfl
  generalize (Tryz.prog.fieldsOf 65).toList = L at *
  have hL : ∃ f1 f2, L = [f1, f2] := by
    match L, congrArg List.length hf with
    | [f1, f2], _ => exact ⟨f1, f2, rfl⟩
  obtain ⟨f1, f2, rfl⟩ := hL
  obtain ⟨⟨h1, h2, h3⟩, h4, h5, h6⟩ : (f1.name ≠ "_" ∧ f1.type = 3 ∧ f1.offset = 0) ∧ (f2.name ≠ "_" ∧ f2.type = 9 ∧ f2.offset = 1) := by simpa using hf
  simp only [Op.eqFields, h2, h3, h5, h6]
  simp [go_sem, Tryz.underlying3, Tryz.underlying9, h1, h4]
theorem neq_ms (w : World) (x : MsI) : (binOp .neq 69 x.val x.val).run Tryz.prog w = .ok (.bool false) w := by
  obtain ⟨xd, xn, xp, xh, xs, xm⟩ := x
  unfold MsI.val
  simp only
  rw [run_neq_struct, run_equalIn_agg w 9999 _ _ _ (by kernel_rfl) (by kernel_rfl)]
  have hf : (Tryz.prog.fieldsOf 69).toList.map (fun f => (f.name != "_", f.type, f.offset)) = [(true, 9, 0), (true, 3, 1), (true, 9, 2), (true, 3, 3), (true, 65, 4)] := by kernel_rfl
  generalize (Tryz.prog.fieldsOf 69).toList = L at *
  have hL : ∃ f1 f2 f3 f4 f5, L = [f1, f2, f3, f4, f5] := by
    match L, congrArg List.length hf with
    | [f1, f2, f3, f4, f5], _ => exact ⟨f1, f2, f3, f4, f5, rfl⟩
  obtain ⟨f1, f2, f3, f4, f5, rfl⟩ := hL
  obtain ⟨⟨h1, h2, h3⟩, ⟨h4, h5, h6⟩, ⟨h7, h8, h9⟩, ⟨h10, h11, h12⟩, h13, h14, h15⟩ : (f1.name ≠ "_" ∧ f1.type = 9 ∧ f1.offset = 0) ∧ (f2.name ≠ "_" ∧ f2.type = 3 ∧ f2.offset = 1) ∧ (f3.name ≠ "_" ∧ f3.type = 9 ∧ f3.offset = 2) ∧ (f4.name ≠ "_" ∧ f4.type = 3 ∧ f4.offset = 3) ∧ (f5.name ≠ "_" ∧ f5.type = 65 ∧ f5.offset = 4) := by simpa using hf
  have he := fun w => eq_ent w 9997 xs xm
  simp only [Op.eqFields, h2, h3, h5, h6, h8, h9, h11, h12, h14, h15]
  simp [go_sem, Tryz.underlying3, Tryz.underlying9, h1, h4, h7, h10, h13, he]
theorem copy0_any (w : World) (ty : TypeId) (g dc c : Nat) (A : Option Addr) (cs : Array Value) (t : TypeId) (hg : w.heap[g]? = some (.cells cs t (0, 0))) :
    (Builtin.copy_ #[63, 63] ty #[.slice (some ⟨g, 0, none⟩) 0 dc, .slice A 0 c]).run Tryz.prog w = .ok (goInt 0) w := by
  cases A with
  | some ad =>
    have h := run_copy_sz w 63 63 ty 69 g 0 0 dc ad 0 c 6 cs t [] Tryz.underlying63 (by kernel_rfl) hg (by simp) (by simp) (by simp) (by simp)
    rw [h]
    simp [setRow_self w g cs t (0, 0) hg]
  | none =>
    have hz : (Tryz.prog.info? 69).map (·.size) = some 6 := by kernel_rfl
    cases hq : Tryz.prog.info? 69 with
    | none => simp [hq] at hz
    | some i =>
      have hst : (storeCells ⟨g, 0, none⟩ []).run Tryz.prog w = .ok () w := rfl
      simp [Builtin.copy_, run_underlying Tryz.underlying63, Builtin.lenOf, Builtin.firstCells, sizeOf, typeInfo, hq, hst]
end Go.Proofs.YtnaafefcijgpkaaGreatDoor
/- Messages: joined, of a list and one message. -/
namespace Go.Proofs.YtnaafefcijgpkaaGreatDoor
open Go.RowKit Go.Mem Go.Sheet Go.Adj
def JnOk (n : Nat) (Y : Nat → MsI) (x : MsI) (n' : Nat) (Y' : Nat → MsI) : Prop :=
  ((∃ i, i < n ∧ Y i = x) ∧ n' = n ∧ Y' = Y) ∨ (∃ at_, at_ ≤ n ∧ n' = n + 1 ∧ Y' = insY Y at_ x ∧ (∀ i, i < at_ → ltM (Y i) x) ∧ ∀ i, at_ ≤ i → i < n → ltM x (Y i))
def JnPost (W : World) (n : Nat) (Y : Nat → MsI) (x : MsI) (e : Ending) (w' : World) : Prop :=
  ∃ (v' : Value) (n' : Nat) (Y' : Nat → MsI), e = .returned (.tuple #[v', .bool true]) ∧ St W w' [row 69 6 v' n' (pcM Y' n')] ∧ JnOk n Y x n' Y'
def JnMid (W : World) (n : Nat) (Y : Nat → MsI) (x : MsI) (v' : Value) (w' : World) : Prop :=
  ∃ (n' : Nat) (Y' : Nat → MsI), St W w' [row 69 6 v' n' (pcM Y' n')] ∧ JnOk n Y x n' Y'
set_option maxRecDepth 100000 in
set_option maxHeartbeats 8000000 in
theorem joined1_any (W : World) (va : Value) (n : Nat) (Y : Nat → MsI) (x : MsI) (gb : Nat) (hn : n ≤ 999) (h : Rd W (· < W.heap.size) 6 va n (pcM Y n)) (ho : ∀ i j, i < j → j < n → ltM (Y i) (Y j)) (hb : W.heap[gb]? = some (.cells x.cells.toArray 69 (0, 0)))
    (hd : ∀ i, i < n → (Y i).dev = x.dev → (Y i).num = x.num → Y i = x) :
    Calls Tryz.prog 69 #[va, .slice (some ⟨gb, 0, none⟩) 1 1, .func (.func 65) #[] #[]] W fun e w' => JnPost W n Y x e w' := by
  obtain ⟨A, c, rfl, hnc, hcm, h⟩ := h.open_
  have hgb := (Array.getElem?_eq_some_iff.1 hb).1
  obtain ⟨g8, hg8⟩ : ∃ g, g = W.heap.size := ⟨_, rfl⟩
  obtain ⟨Z, hZ⟩ : ∃ Z : Array Value, Z = madeCells (Value.agg #[.string ⟨#[]⟩, .int .i64 0, .string ⟨#[]⟩, .int .i64 0, .int .i64 0, .string ⟨#[]⟩]).cells ((n + 1) * 6) := ⟨_, rfl⟩
  have hzs : Z.size = (n + 1) * 6 := by rw [hZ]; exact size_madeCells _ _
  have hC : ∃ C : Array Value, C.size = (n + 1) * 6 ∧ C.toList.take (n * 6) = pcM Y n ∧ ∀ ty, (Builtin.copy_ #[63, 63] ty #[.slice (some ⟨W.heap.size, 0, none⟩) n (n + 1), .slice A n c]).run Tryz.prog (W.alloc (.cells Z 69)) = .ok (goInt n) ((W.alloc (.cells Z 69)).setRow W.heap.size C) := by
    have hgw := heap_alloc_new W (.cells Z 69)
    rcases Nat.eq_zero_or_pos n with h0 | h0
    · subst h0
      refine ⟨Z, hzs, by unfold pcM; simp, fun ty => ?_⟩
      rw [setRow_self _ _ _ _ _ hgw]
      exact copy0_any _ ty _ _ _ _ _ _ hgw
    · obtain ⟨b, o, rfl, _, _, hcs⟩ := (h.below ((Below.refl W.heap.size W).alloc (Nat.le_refl _) (.cells Z 69))).addr h0
      have hmin : Nat.min n n = n := Nat.min_self n
      refine ⟨(Z.toList.take 0 ++ pcM Y n ++ Z.toList.drop (0 + (pcM Y n).length)).toArray, ?_, ?_, fun ty => ?_⟩
      · simp only [List.size_toArray, List.length_append, List.length_take, List.length_drop, Array.length_toList, pcM_len, hzs]; omega
      · simp only [List.take_zero, List.nil_append]
        rw [List.take_append_of_le_length (by rw [pcM_len]; exact Nat.le_refl _), List.take_of_length_le (by rw [pcM_len]; exact Nat.le_refl _)]
      · have h1 := run_copy_sz (P := Tryz.prog) (W.alloc (.cells Z 69)) 63 63 ty 69 W.heap.size 0 n (n + 1) ⟨b, o, none⟩ n c 6 Z 69 (pcM Y n) Tryz.underlying63 (by kernel_rfl) hgw (by rw [pcM_len, hmin]) (fun j v hj => by
          rw [Addr.add_lit]
          exact hcs j v hj) (by rw [pcM_len, hzs]; omega) (one_pcM Y n)
        rw [hmin] at h1
        exact h1
  obtain ⟨C, hCs, hCt, hcp⟩ := hC
  have HCP := Lib.hid hcp
  have HZ := Lib.hid hZ
  have HCT := Lib.hid hCt
  have HO := Lib.hid ho
  have HD := Lib.hid hd
  have HBG := Lib.hid (fun w (hw : Below W.heap.size W w) => (hw.block gb hgb).trans hb)
  have HNG : Hid (gb ≠ g8) := Lib.hid (by omega)
  have S0 := ((St.refl W).blk_new Z 69).blk_row (i := 0) rfl C
  simp only [List.nil_append, List.set_cons_zero] at S0
  rw [← hg8] at S0
  have HS := Lib.hid S0
  have hE := enters Tryz.func65 (by kernel_rfl) rfl
  unfold Enters at hE
  clear S0 hcp hZ hCt ho hd hzs h hgb hb
  go_enter Tryz.func69, Tryz.ntmps69
  go_wp2_with (first
    | (refine wpList_make_blk eltM rfl _ _ rfl rfl rfl (by omega) (by omega) ?_; rw [← HZ.out])
    | (refine wpList_copy_runI _ rfl _ _ 63 63 rfl _ _ rfl rfl (HCP.out _) ?_))
  rw [← hg8]
  generalize (W.alloc (.cells Z 69)).setRow g8 C = w1 at *
  have HGN : Hid (∀ w, Below W.heap.size W w → w.cell? ⟨gb, 0, none⟩ = some (.string x.dev) ∧ w.cell? ⟨gb, 1, none⟩ = some (.int .i64 x.num) ∧ w.cell? ⟨gb, 2, none⟩ = some (.string x.plr) ∧ w.cell? ⟨gb, 3, none⟩ = some (.int .i64 x.hole) ∧ w.cell? ⟨gb, 4, none⟩ = some (.int .i64 x.s) ∧ w.cell? ⟨gb, 5, none⟩ = some (.string x.m)) := Lib.hid (fun w hw => by
    have h := HBG.out w hw
    exact ⟨cell_of_row w gb 0 _ 69 (0, 0) h, cell_of_row w gb 1 _ 69 (0, 0) h, cell_of_row w gb 2 _ 69 (0, 0) h, cell_of_row w gb 3 _ 69 (0, 0) h, cell_of_row w gb 4 _ 69 (0, 0) h, cell_of_row w gb 5 _ 69 (0, 0) h⟩)
  clear HCP HZ hg8 HBG
  go_loopw [8, 26] (fun a i w' => (i = .int .i64 0 ∧ a = .slice (some ⟨g8, 0, none⟩) n (n + 1) ∧ St W w' [blk g8 69 C]) ∨ (i = .int .i64 1 ∧ JnMid W n Y x a w')) (fun a i _ => 1 - (intOf i).toNat)
  case atStart => exact .inl ⟨rfl, rfl, HS.out⟩
  case round =>
    rcases hrel with ⟨rfl, rfl, S⟩ | ⟨rfl, hmid⟩
    · clear HS
      have HBS : Hid (∀ w', Below W.heap.size W w' → ∀ L, St W w' (blk g8 69 C :: L) → Calls Tryz.prog 98 #[.slice (some ⟨g8, 0, none⟩) n (n + 1), x.val, .func (.func 65) #[] #[]] w' fun e w2 => BsPost w' n Y x e w2) := Lib.hid (fun w' _ L S' =>
        bsM_any w' _ n Y x (by omega) (S'.blk_rd (i := 0) rfl (Nat.le_succ n) (by unfold maxLen; omega) HCT.out (pcM_len Y n)) HO.out)
      have HXC : Hid (∀ w' L at_ gv, at_ ≤ n → gv ≠ g8 → w'.heap[gv]? = some (.cells x.cells.toArray 69 (0, 0)) → St W w' (blk g8 69 C :: L) → Calls Tryz.prog 99 #[.slice (some ⟨g8, 0, none⟩) n (n + 1), .int .i64 at_, .slice (some ⟨gv, 0, none⟩) 1 1] w' fun e w2 => ∃ v', e = .returned v' ∧ St W w2 [row 69 6 v' (n + 1) (pcM (insY Y at_ x) (n + 1))]) := Lib.hid (fun w' L at_ gv h1 h2 h3 S' => by
        refine (insert_any W w' _ 0 g8 n at_ gv Y x C (by omega) h1 S' rfl hCs HCT.out h2 h3).mono ?_
        rintro e w2 ⟨v', he, S2⟩
        exact ⟨v', he, S2.sub (by simp)⟩)
      obtain ⟨c0, c1, c2, c3, c4, c5⟩ := HGN.out wr S.bel
      clear HGN
      obtain ⟨xd, xn, xp, xh, xs, xm⟩ := x
      have HNQ := Lib.hid (fun w => neq_ms w ⟨xd, xn, xp, xh, xs, xm⟩)
      unfold MsI.val at HBS HNQ
      simp only at c0 c1 c2 c3 c4 c5 HBS HNQ
      obtain ⟨AX, hAX⟩ : ∃ A : Array Value, A = #[.string xd, .int .i64 xn, .string xp, .int .i64 xh, .int .i64 xs, .string xm] := ⟨_, rfl⟩
      have HAX := Lib.hid hAX
      have SA := S.blk_new AX 69
      simp only [List.cons_append, List.nil_append] at SA
      have HS := Lib.hid SA
      clear SA S
      go_wp2_with fail
      rw [← hAX] at HBS HNQ ⊢
      clear c0 c1 c2 c3 c4 c5 hAX
      generalize wr.heap.size = g9 at *
      generalize wr.alloc (.cells AX 69) = w3 at *
      refine (HBS.out w3 HS.out.bel _ HS.out).mono ?_
      rintro e w4 ⟨at_, d, hat, hd, hlo, hhi, rfl, hbl⟩
      have S4 := HS.out.ext hbl
      clear HS HBS hbl
      have HLO := Lib.hid hlo
      have HHI := Lib.hid hhi
      clear hlo hhi
      cases d with
      | true =>
        obtain ⟨han, hk1, hk2⟩ := hd.1 rfl
        have hyx := HD.out at_ han hk1 hk2
        clear hk1 hk2 hd
        have HJ : Hid (JnOk n Y ⟨xd, xn, xp, xh, xs, xm⟩ n Y) := Lib.hid (.inl ⟨⟨at_, han, hyx⟩, rfl, rfl⟩)
        have HRC : Hid (∀ w', St W w' [blk g8 69 C, blk g9 69 AX] → w'.cell? ⟨g8, at_ * 6, none⟩ = some (.string xd) ∧ w'.cell? ⟨g8, at_ * 6 + 1, none⟩ = some (.int .i64 xn) ∧ w'.cell? ⟨g8, at_ * 6 + 2, none⟩ = some (.string xp) ∧ w'.cell? ⟨g8, at_ * 6 + 3, none⟩ = some (.int .i64 xh) ∧ w'.cell? ⟨g8, at_ * 6 + 4, none⟩ = some (.int .i64 xs) ∧ w'.cell? ⟨g8, at_ * 6 + 5, none⟩ = some (.string xm)) := Lib.hid (fun w' S' => by
          obtain ⟨b', o', e, _, hc⟩ := rd_pcM (S'.blk_rd (i := 0) rfl (Nat.le_succ n) (by unfold maxLen; omega) HCT.out (pcM_len Y n)) han
          cases e
          rw [hyx] at hc
          simp only [Nat.zero_add] at hc
          exact hc)
        have HS := Lib.hid S4
        clear S4 hyx
        go_wp2_with fail
        refine wp_cls 5 (fun w' => St W w' [blk g8 69 C, blk g9 69 AX]) (by kernel_rfl) (by kernel_rfl) HS.out.drew ?_
        simp only [List.take_succ_cons, List.take_zero, List.drop_succ_cons, List.drop_zero]
        generalize hK : (fun w' => St W w' [blk g8 69 C, blk g9 69 AX]) = K
        intro hne
        have kS : ∀ y : Wd K, St W y.w [blk g8 69 C, blk g9 69 AX] := by subst hK; exact fun y => y.h
        have hK3 : ∀ w w' : World, K w → Below w.heap.size w w' → K w' := by subst hK; exact fun w w' h h' => h.ext h'
        have k0 : ∀ y : Wd K, y.w.cell? ⟨g9, 0, none⟩ = some (.string xd) := fun y => by have h := (kS y).blk_cell (i := 1) rfl 0; rw [HAX.out] at h; exact h
        have k1 : ∀ y : Wd K, y.w.cell? ⟨g9, 1, none⟩ = some (.int .i64 xn) := fun y => by have h := (kS y).blk_cell (i := 1) rfl 1; rw [HAX.out] at h; exact h
        have k2 : ∀ y : Wd K, y.w.cell? ⟨g9, 2, none⟩ = some (.string xp) := fun y => by have h := (kS y).blk_cell (i := 1) rfl 2; rw [HAX.out] at h; exact h
        have k3 : ∀ y : Wd K, y.w.cell? ⟨g9, 3, none⟩ = some (.int .i64 xh) := fun y => by have h := (kS y).blk_cell (i := 1) rfl 3; rw [HAX.out] at h; exact h
        have k4 : ∀ y : Wd K, y.w.cell? ⟨g9, 4, none⟩ = some (.int .i64 xs) := fun y => by have h := (kS y).blk_cell (i := 1) rfl 4; rw [HAX.out] at h; exact h
        have k5 : ∀ y : Wd K, y.w.cell? ⟨g9, 5, none⟩ = some (.string xm) := fun y => by have h := (kS y).blk_cell (i := 1) rfl 5; rw [HAX.out] at h; exact h
        have k6 : ∀ y : Wd K, y.w.cell? ⟨g8, at_ * 6, none⟩ = some (.string xd) := fun y => (HRC.out y.w (kS y)).1
        have k7 : ∀ y : Wd K, y.w.cell? ⟨g8, at_ * 6 + 1, none⟩ = some (.int .i64 xn) := fun y => (HRC.out y.w (kS y)).2.1
        have k8 : ∀ y : Wd K, y.w.cell? ⟨g8, at_ * 6 + 2, none⟩ = some (.string xp) := fun y => (HRC.out y.w (kS y)).2.2.1
        have k9 : ∀ y : Wd K, y.w.cell? ⟨g8, at_ * 6 + 3, none⟩ = some (.int .i64 xh) := fun y => (HRC.out y.w (kS y)).2.2.2.1
        have k10 : ∀ y : Wd K, y.w.cell? ⟨g8, at_ * 6 + 4, none⟩ = some (.int .i64 xs) := fun y => (HRC.out y.w (kS y)).2.2.2.2.1
        have k11 : ∀ y : Wd K, y.w.cell? ⟨g8, at_ * 6 + 5, none⟩ = some (.string xm) := fun y => (HRC.out y.w (kS y)).2.2.2.2.2
        have KS := Lib.hid kS
        have HKK := Lib.hid hK3
        clear hK kS hK3
        go_big_quiet_step ((fail))
        go_big_quiet_step ((fail))
        go_big_quiet_step ((fail))
        go_big_quiet_step ((fail))
        go_big_quiet_step ((fail))
        refine wpQuiet_nil ?_
        intro y
        have SY := Lib.hid (KS.out y)
        clear k0 k1 k2 k3 k4 k5 k6 k7 k8 k9 k10 k11 KS HKK hne HS
        generalize y.w = wy at *
        have q1 := fun x y w => eqg_ms .neq x y AX AX w
        have q2 := HNQ.out
        rw [HAX.out] at q1 q2
        go_wp2_with fail
        go_roundw
        case rel => exact .inr ⟨by go_num, n, Y, (SY.out.blk_to_row (i := 0) rfl hCs (Nat.le_succ n) (by unfold maxLen; omega) HCT.out (pcM_len Y n)).sub (by simp), HJ.out⟩
        case measure => simp [intOf]
      | false =>
        have HJ : Hid (JnOk n Y ⟨xd, xn, xp, xh, xs, xm⟩ (n + 1) (insY Y at_ ⟨xd, xn, xp, xh, xs, xm⟩)) := Lib.hid (.inr ⟨at_, hat, rfl, rfl, HLO.out, fun i h1 h2 => by
          have hne : ¬ (at_ < n ∧ (Y at_).dev = xd ∧ (Y at_).num = xn) := fun h => by have := hd.2 h; cases this
          have h3 : ltM ⟨xd, xn, xp, xh, xs, xm⟩ (Y at_) := ltM_tri (HHI.out at_ (Nat.le_refl _) (by omega)) (fun h => hne ⟨by omega, h⟩)
          rcases Nat.lt_or_ge at_ i with h4 | h4
          · exact ltM_trans h3 (HO.out at_ i h4 h2)
          · obtain rfl : i = at_ := by omega
            exact h3⟩)
        have S5 := S4.blk_new AX 69
        simp only [List.cons_append, List.nil_append] at S5
        have d0 := S4.blk_cell (i := 1) rfl 0
        have d1 := S4.blk_cell (i := 1) rfl 1
        have d2 := S4.blk_cell (i := 1) rfl 2
        have d3 := S4.blk_cell (i := 1) rfl 3
        have d4 := S4.blk_cell (i := 1) rfl 4
        have d5 := S4.blk_cell (i := 1) rfl 5
        rw [HAX.out] at d0 d1 d2 d3 d4 d5
        have hgv : w4.heap.size ≠ g8 := fun h => by have h2 := (S4.blk_at (i := 0) rfl).2.1; rw [h] at h2; exact absurd h2 (Nat.lt_irrefl _)
        have hvc : (w4.alloc (.cells AX 69)).heap[w4.heap.size]? = some (.cells (MsI.cells ⟨xd, xn, xp, xh, xs, xm⟩).toArray 69 (0, 0)) := by
          have h := heap_alloc_new w4 (.cells AX 69)
          rw [h, HAX.out]; rfl
        have HIN := Lib.hid (HXC.out _ _ at_ _ hat hgv hvc S5)
        rw [HAX.out] at HIN
        clear hgv hvc S5 S4 HXC hd
        go_wp2_with (go_at_call 99; refine HIN.out.mono ?_; rintro e w5 ⟨v', rfl, S6⟩; have HS6 := Lib.hid S6; clear S6)
        go_roundw
        case rel => exact .inr ⟨by go_num, _, _, HS6.out, HJ.out⟩
        case measure => simp [intOf]
    · obtain ⟨n', Y', S, HJ⟩ := hmid
      have HM := Lib.hid S
      have HJJ := Lib.hid HJ
      clear HS HJ S
      go_wp2_with fail
      go_ret2
      exact ⟨_, n', Y', by first | rfl | trivial, HM.out, HJJ.out⟩
end Go.Proofs.YtnaafefcijgpkaaGreatDoor
/- Messages: join of a follower and one message; Receive. -/
namespace Go.Proofs.YtnaafefcijgpkaaGreatDoor
open Go.RowKit Go.Mem Go.Sheet Go.Adj
def RcPost (W : World) (n : Nat) (Y : Nat → MsI) (x : MsI) (e : Ending) (w' : World) : Prop :=
  ∃ (v' : Value) (n' : Nat) (Y' : Nat → MsI), e = .returned (.tuple #[.agg #[v'], .int .i64 0]) ∧ St W w' [row 69 6 v' n' (pcM Y' n')] ∧ JnOk n Y x n' Y'
theorem JnOk.le {n n' : Nat} {Y Y' : Nat → MsI} {x : MsI} (h : JnOk n Y x n' Y') : n' ≤ n + 1 := by
  rcases h with ⟨_, h, _⟩ | ⟨_, _, h, _⟩ <;> omega
theorem res_join (tmps : Array Value) (w : World) (g : Nat) (v u : Value) (h4 : tmps.getD 4 undef = .pointer (some ⟨g, 0, none⟩)) (h5 : tmps.getD 5 undef = u) (h0 : w.cell? ⟨g, 0, none⟩ = some v) :
    (results Tryz.f35 tmps).run Tryz.prog w = .ok (.tuple #[.agg #[v], u]) w := by
  have e4 : tmps[4]?.getD undef = .pointer (some ⟨g, 0, none⟩) := by simpa using h4
  have e5 : tmps[5]?.getD undef = u := by simpa using h5
  simp [results, Tryz.results35, e4, e5, h0, go_sem]
theorem res_Receive (tmps : Array Value) (w : World) (g : Nat) (v u : Value) (h4 : tmps.getD 4 undef = .pointer (some ⟨g, 0, none⟩)) (h5 : tmps.getD 5 undef = u) (h0 : w.cell? ⟨g, 0, none⟩ = some v) :
    (results Tryz.f13 tmps).run Tryz.prog w = .ok (.tuple #[.agg #[v], u]) w := by
  have e4 : tmps[4]?.getD undef = .pointer (some ⟨g, 0, none⟩) := by simpa using h4
  have e5 : tmps[5]?.getD undef = u := by simpa using h5
  simp [results, Tryz.results13, e4, e5, h0, go_sem]
set_option maxRecDepth 100000 in
set_option maxHeartbeats 8000000 in
theorem join1_any (W : World) (va : Value) (n : Nat) (Y : Nat → MsI) (x : MsI) (gb : Nat) (hn : n ≤ 999) (h : Rd W (· < W.heap.size) 6 va n (pcM Y n)) (ho : ∀ i j, i < j → j < n → ltM (Y i) (Y j)) (hb : W.heap[gb]? = some (.cells x.cells.toArray 69 (0, 0)))
    (hd : ∀ i, i < n → (Y i).dev = x.dev → (Y i).num = x.num → Y i = x) :
    Calls Tryz.prog 35 #[.agg #[va], .agg #[.slice (some ⟨gb, 0, none⟩) 1 1]] W fun e w' => RcPost W n Y x e w' := by
  have hgb := (Array.getElem?_eq_some_iff.1 hb).1
  have HJ : Hid (∀ w, Below W.heap.size W w → Calls Tryz.prog 69 #[va, .slice (some ⟨gb, 0, none⟩) 1 1, .func (.func 65) #[] #[]] w fun e w' => JnPost w n Y x e w') := Lib.hid (fun w hw => joined1_any w va n Y x gb hn (h.later hw) ho ((hw.block gb hgb).trans hb) hd)
  have S0 := (((St.refl W).blk_new #[va] 71).blk_new #[.slice (some ⟨gb, 0, none⟩) 1 1] 71).blk_new #[.slice none 0 0] 71
  simp only [List.cons_append, List.nil_append, World.size_alloc] at S0
  have d0 := S0.blk_cell (i := 0) rfl 0
  have d1 := S0.blk_cell (i := 1) rfl 0
  have HS := Lib.hid S0
  clear S0 h ho hd hb hgb
  go_enter Tryz.func35, Tryz.ntmps35
  go_wp2_with fail
  obtain ⟨g2, hg2⟩ : ∃ g, g = W.heap.size := ⟨_, rfl⟩
  obtain ⟨g3, hg3⟩ : ∃ g, g = W.heap.size + 1 := ⟨_, rfl⟩
  obtain ⟨g4, hg4⟩ : ∃ g, g = W.heap.size + 1 + 1 := ⟨_, rfl⟩
  rw [← hg4, ← hg3, ← hg2] at HS
  rw [← hg4, ← hg3, ← hg2]
  clear d0 d1
  generalize ((W.alloc (.cells #[va] 71)).alloc (.cells #[.slice (some ⟨gb, 0, none⟩) 1 1] 71)).alloc (.cells #[.slice none 0 0] 71) = w1 at *
  clear hg2 hg3 hg4
  refine (HJ.out w1 HS.out.bel).mono ?_
  rintro e w2 ⟨v', n', Y', rfl, S2, hj⟩
  have S3 := HS.out.call S2
  simp only [List.cons_append, List.nil_append] at S3
  have hn' : n' ≤ 1000 := by have := hj.le; omega
  obtain ⟨A2, c2, rfl, _, _, _⟩ := (S3.row_rd (i := 3) rfl).open_
  have t1 : decide (1000 < (n' : Int)) = false := decide_eq_false (by omega)
  have t1' : decide (1000 < n') = false := decide_eq_false (by omega)
  have S4 := S3.alloc (.cells #[.int .i64 0, .int .i64 0] 38)
  have d2 := S4.blk_cell (i := 2) rfl 0
  have d3 := S4.blk_frozen (i := 2) rfl 0
  have S5 := S4.blk_set (i := 2) rfl 0 (.slice A2 n' c2)
  simp only [List.set_cons_succ, List.set_cons_zero] at S5
  have HS5 := Lib.hid S5
  have HJK := Lib.hid hj
  clear S2 S3 S4 S5 HS HJ hj hn'
  go_wp2_with (first
    | (go_at_call 59; refine (uNo _ _).mono ?_; rintro e w' ⟨rfl, rfl⟩)
    | (go_at_call 32; refine (uOk2 _ _ (by simp) (by simp) (by simp)).mono ?_; rintro e w' ⟨rfl, rfl⟩))
  refine bodyPost_ret (res_join _ _ g4 _ _ rfl rfl (HS5.out.blk_cell (i := 2) rfl 0)) rfl ?_
  exact ⟨_, n', Y', rfl, HS5.out.sub (by simp), HJK.out⟩
end Go.Proofs.YtnaafefcijgpkaaGreatDoor
/- Messages: Receive. -/
namespace Go.Proofs.YtnaafefcijgpkaaGreatDoor
open Go.RowKit Go.Mem Go.Sheet Go.Adj
set_option maxRecDepth 100000 in
set_option maxHeartbeats 8000000 in
theorem receive_any (W : World) (va : Value) (n : Nat) (Y : Nat → MsI) (x : MsI) (hn : n ≤ 999) (h : Rd W (· < W.heap.size) 6 va n (pcM Y n)) (ho : ∀ i j, i < j → j < n → ltM (Y i) (Y j)) (hg : ∀ i, i < n → GoodM (Y i)) (hx : GoodM x)
    (hd : ∀ i, i < n → (Y i).dev = x.dev → (Y i).num = x.num → Y i = x) :
    Calls Tryz.prog 13 #[.agg #[va], x.val] W fun e w' => RcPost W n Y x e w' := by
  obtain ⟨A, c, rfl, _, _, h⟩ := h.open_
  have HJ : Hid (∀ w gb, Below W.heap.size W w → w.heap[gb]? = some (.cells x.cells.toArray 69 (0, 0)) → Calls Tryz.prog 35 #[.agg #[.slice A n c], .agg #[.slice (some ⟨gb, 0, none⟩) 1 1]] w fun e w' => RcPost w n Y x e w') := Lib.hid (fun w gb hw hb => join1_any w _ n Y x gb hn (h.later hw) ho hb hd)
  have HCF : Hid (∀ w, Below W.heap.size W w → Calls Tryz.prog 33 #[.agg #[.slice A n c]] w fun e w' => e = .returned (.int .i64 0) ∧ Below w.heap.size w w') := Lib.hid (fun w hw => uChkFol_ok w _ n Y (by omega) (h.later hw) hg (fun i hi => ho i (i + 1) (by omega) hi))
  have HCM := Lib.hid (fun w => uChkMsg_ok w x hx)
  clear h ho hg hx hd
  obtain ⟨xd, xn, xp, xh, xs, xm⟩ := x
  unfold MsI.val at *
  simp only at *
  obtain ⟨AX, hAX⟩ : ∃ A : Array Value, A = #[.string xd, .int .i64 xn, .string xp, .int .i64 xh, .int .i64 xs, .string xm] := ⟨_, rfl⟩
  have HAX := Lib.hid hAX
  have S0 := (((St.refl W).blk_new #[.slice A n c] 71).blk_new AX 69).blk_new #[.slice none 0 0] 71
  simp only [List.cons_append, List.nil_append, World.size_alloc] at S0
  have HS := Lib.hid S0
  clear S0
  go_enter Tryz.func13, Tryz.ntmps13
  go_wp2_with fail
  rw [← hAX]
  obtain ⟨g2, hg2⟩ : ∃ g, g = W.heap.size := ⟨_, rfl⟩
  obtain ⟨g3, hg3⟩ : ∃ g, g = W.heap.size + 1 := ⟨_, rfl⟩
  obtain ⟨g4, hg4⟩ : ∃ g, g = W.heap.size + 1 + 1 := ⟨_, rfl⟩
  rw [← hg4, ← hg3, ← hg2] at HS
  rw [← hg4, ← hg3, ← hg2]
  generalize ((W.alloc (.cells #[.slice A n c] 71)).alloc (.cells AX 69)).alloc (.cells #[.slice none 0 0] 71) = w1 at *
  clear hg2 hg3 hg4 hAX
  refine wp_cls 4 (fun w' => St W w' [blk g2 71 #[.slice A n c], blk g3 69 AX, blk g4 71 #[.slice none 0 0]]) (by kernel_rfl) (by kernel_rfl) HS.out.drew ?_
  simp only [List.take_succ_cons, List.take_zero, List.drop_succ_cons, List.drop_zero]
  generalize hK : (fun w' => St W w' [blk g2 71 #[.slice A n c], blk g3 69 AX, blk g4 71 #[.slice none 0 0]]) = K
  intro hne
  have kS : ∀ y : Wd K, St W y.w [blk g2 71 #[.slice A n c], blk g3 69 AX, blk g4 71 #[.slice none 0 0]] := by subst hK; exact fun y => y.h
  have hK3 : ∀ w w' : World, K w → Below w.heap.size w w' → K w' := by subst hK; exact fun w w' h h' => h.ext h'
  have k0 : ∀ y : Wd K, y.w.cell? ⟨g2, 0, none⟩ = some (.slice A n c) := fun y => (kS y).blk_cell (i := 0) rfl 0
  have k1 : ∀ y : Wd K, y.w.cell? ⟨g3, 0, none⟩ = some (.string xd) := fun y => by have h := (kS y).blk_cell (i := 1) rfl 0; rw [HAX.out] at h; exact h
  have k2 : ∀ y : Wd K, y.w.cell? ⟨g3, 1, none⟩ = some (.int .i64 xn) := fun y => by have h := (kS y).blk_cell (i := 1) rfl 1; rw [HAX.out] at h; exact h
  have k3 : ∀ y : Wd K, y.w.cell? ⟨g3, 2, none⟩ = some (.string xp) := fun y => by have h := (kS y).blk_cell (i := 1) rfl 2; rw [HAX.out] at h; exact h
  have k4 : ∀ y : Wd K, y.w.cell? ⟨g3, 3, none⟩ = some (.int .i64 xh) := fun y => by have h := (kS y).blk_cell (i := 1) rfl 3; rw [HAX.out] at h; exact h
  have k5 : ∀ y : Wd K, y.w.cell? ⟨g3, 4, none⟩ = some (.int .i64 xs) := fun y => by have h := (kS y).blk_cell (i := 1) rfl 4; rw [HAX.out] at h; exact h
  have k6 : ∀ y : Wd K, y.w.cell? ⟨g3, 5, none⟩ = some (.string xm) := fun y => by have h := (kS y).blk_cell (i := 1) rfl 5; rw [HAX.out] at h; exact h
  have KS := Lib.hid kS
  have HKK := Lib.hid hK3
  clear hK kS hK3
  go_big_quiet_step ((fail))
  go_big_quiet_step ((go_at_call 33; exact cls_below HKK.out (HCF.out _ (KS.out _).bel)))
  go_big_quiet_step ((fail))
  go_big_quiet_step ((go_at_call 34; exact cls_below HKK.out (HCM.out _)))
  refine wpQuiet_nil ?_
  intro y
  have SY := Lib.hid (KS.out y)
  clear k0 k1 k2 k3 k4 k5 k6 KS HKK hne HS
  generalize y.w = wy at *
  have S8 := SY.out.alloc (.cells #[.int .i64 0, .int .i64 0] 38)
  have HS8 := Lib.hid S8
  have e0 := S8.blk_cell (i := 0) rfl 0
  have x0 := S8.blk_cell (i := 1) rfl 0
  have x1 := S8.blk_cell (i := 1) rfl 1
  have x2 := S8.blk_cell (i := 1) rfl 2
  have x3 := S8.blk_cell (i := 1) rfl 3
  have x4 := S8.blk_cell (i := 1) rfl 4
  have x5 := S8.blk_cell (i := 1) rfl 5
  rw [HAX.out] at x0 x1 x2 x3 x4 x5
  clear S8 SY
  go_wp2_with (go_at_call 32; refine (uOk2 _ _ (by simp) (by simp) (by simp)).mono ?_; rintro e w' ⟨rfl, rfl⟩)
  have HS9 := Lib.hid (HS8.out.alloc (.cells #[.string xd, .int .i64 xn, .string xp, .int .i64 xh, .int .i64 xs, .string xm] 69))
  have HJ9 := Lib.hid (HJ.out _ _ HS9.out.bel (heap_alloc_new (wy.alloc (.cells #[.int .i64 0, .int .i64 0] 38)) (.cells #[.string xd, .int .i64 xn, .string xp, .int .i64 xh, .int .i64 xs, .string xm] 69)))
  rw [World.size_alloc] at HJ9
  refine HJ9.out.mono ?_
  rintro e w5 ⟨v', n', Y', rfl, S5, hj⟩
  have S6 := HS9.out.call S5
  simp only [List.cons_append, List.nil_append] at S6
  obtain ⟨A2, c2, rfl, _, _, _⟩ := (S6.row_rd (i := 3) rfl).open_
  have d2 := S6.blk_cell (i := 2) rfl 0
  have d3 := S6.blk_frozen (i := 2) rfl 0
  have S7 := S6.blk_set (i := 2) rfl 0 (.slice A2 n' c2)
  simp only [List.set_cons_succ, List.set_cons_zero] at S7
  have HS7 := Lib.hid S7
  have HJK := Lib.hid hj
  clear S5 S6 S7 hj HS8 HS9 HJ9 HJ HCF HCM
  go_wp2_with fail
  refine bodyPost_ret (res_Receive _ _ g4 _ _ rfl rfl (HS7.out.blk_cell (i := 2) rfl 0)) rfl ?_
  exact ⟨_, n', Y', rfl, HS7.out.sub (by simp), HJK.out⟩
end Go.Proofs.YtnaafefcijgpkaaGreatDoor
/- Messages: shown. -/
namespace Go.Adj
open Go.RowKit Go.Mem
def extT (τ : Nat → Nat) (m k a : Nat) : Nat := if a = m then k else τ a
structure Shw (k m : Nat) (τ : Nat → Nat) : Prop where
  lt : ∀ a, a < m → τ a < k
  inc : ∀ a b, a < b → b < m → τ a < τ b
theorem Shw.le {k m : Nat} {τ : Nat → Nat} (h : Shw k m τ) : ∀ a, a < m → a ≤ τ a
  | 0, _ => Nat.zero_le _
  | a + 1, ha => by
    have h1 := h.le a (by omega)
    have h2 := h.inc a (a + 1) (by omega) ha
    omega
theorem Shw.le2 {k m : Nat} {τ : Nat → Nat} (h : Shw k m τ) : m ≤ k := by
  rcases Nat.eq_zero_or_pos m with h0 | h0
  · omega
  · have h1 := h.le (m - 1) (by omega)
    have h2 := h.lt (m - 1) (by omega)
    omega
theorem Shw.skip {k m : Nat} {τ : Nat → Nat} (h : Shw k m τ) : Shw (k + 1) m τ := ⟨fun a ha => by have := h.lt a ha; omega, h.inc⟩
theorem Shw.take {k m : Nat} {τ : Nat → Nat} (h : Shw k m τ) : Shw (k + 1) (m + 1) (extT τ m k) := by
  refine ⟨fun a ha => ?_, fun a b hab hb => ?_⟩
  · unfold extT
    split
    · omega
    · have := h.lt a (by omega); omega
  · unfold extT
    rw [if_neg (by omega)]
    split
    · exact h.lt a (by omega)
    · exact h.inc a b hab (by omega)
theorem pcM_congr {Y Z : Nat → MsI} : ∀ m, (∀ a, a < m → Y a = Z a) → pcM Y m = pcM Z m
  | 0, _ => by unfold pcM; simp
  | m + 1, h => by rw [pcM_snoc, pcM_snoc, pcM_congr m (fun a ha => h a (by omega)), h m (by omega)]
theorem pcM_ext (Y : Nat → MsI) (τ : Nat → Nat) (m k : Nat) : pcM (fun a => Y (τ a)) m ++ (Y k).cells = pcM (fun a => Y (extT τ m k a)) (m + 1) := by
  rw [pcM_snoc]
  have e : pcM (fun a => Y (τ a)) m = pcM (fun a => Y (extT τ m k a)) m := pcM_congr m fun a ha => by unfold extT; rw [if_neg (by omega)]
  rw [e]
  unfold extT
  rw [if_pos rfl]
/-- every message follows its device's last -/
def Cmp (Y : Nat → MsI) (n : Nat) : Prop := ∀ i, i < n → (Y i).num = if i = 0 then 1 else if (Y (i - 1)).dev = (Y i).dev then (Y (i - 1)).num + 1 else 1
def Full (Y : Nat → MsI) (n k m ng : Nat) (τ : Nat → Nat) (nx : Int) : Prop := Cmp Y n → m = k ∧ ng = 0 ∧ (∀ a, a < m → τ a = a) ∧ (0 < k → nx = (Y (k - 1)).num + 1)
/-- the next number that is awaited -/
def nxt (Y : Nat → MsI) (k : Nat) (nx : Int) : Int := if k = 0 then 1 else if (Y (k - 1)).dev = (Y k).dev then nx else 1
theorem Full.take {Y : Nat → MsI} {n k m ng : Nat} {τ : Nat → Nat} {nx : Int} (h : Full Y n k m ng τ nx) (_hk : k < n) (he : (Y k).num = nxt Y k nx) : Full Y n (k + 1) (m + 1) ng (extT τ m k) (nxt Y k nx + 1) := by
  intro hc
  obtain ⟨h1, h2, h3, _⟩ := h hc
  refine ⟨by omega, h2, fun a ha => ?_, fun _ => ?_⟩
  · unfold extT
    split
    · omega
    · exact h3 a (by omega)
  · rw [Nat.add_sub_cancel, he]
theorem Full.not {Y : Nat → MsI} {n k m ng m' ng' : Nat} {τ τ' : Nat → Nat} {nx nx' : Int} (h : Full Y n k m ng τ nx) (hk : k < n) (he : (Y k).num ≠ nxt Y k nx) : Full Y n (k + 1) m' ng' τ' nx' := by
  intro hc
  obtain ⟨_, _, _, h4⟩ := h hc
  refine absurd ?_ he
  rw [hc k hk]
  unfold nxt
  split
  · rfl
  · rw [h4 (by omega)]
end Go.Adj
namespace Go.Proofs.YtnaafefcijgpkaaGreatDoor
open Go.RowKit Go.Mem Go.Sheet Go.Adj
theorem eltGap : Elt Tryz.prog 75 139 (.agg #[.string ⟨#[]⟩, .int .i64 0]) 2 24 := ⟨Tryz.underlying75, by kernel_rfl, rfl, by decide⟩
def ShPost (W : World) (n : Nat) (Y : Nat → MsI) (e : Ending) (w' : World) : Prop :=
  ∃ (vl : Value) (m : Nat) (τ : Nat → Nat) (vg : Value) (ng : Nat) (gs : List Value), e = .returned (.tuple #[vl, vg]) ∧ St W w' [row 69 6 vl m (pcM (fun a => Y (τ a)) m), row 139 2 vg ng gs] ∧ Shw n m τ ∧ (Cmp Y n → m = n ∧ ng = 0 ∧ ∀ a, a < n → τ a = a)
set_option maxRecDepth 100000 in
set_option maxHeartbeats 16000000 in
theorem shown_any (W : World) (v : Value) (n : Nat) (Y : Nat → MsI) (hn : n ≤ 1000) (h : Rd W (· < W.heap.size) 6 v n (pcM Y n)) (hg : ∀ i, i < n → 1 ≤ (Y i).num ∧ (Y i).num ≤ 1000) :
    Calls Tryz.prog 36 #[.agg #[v]] W fun e w' => ShPost W n Y e w' := by
  obtain ⟨A, c, rfl, _, _, h⟩ := h.open_
  have HR : Hid (∀ w, Below W.heap.size W w → Rd w (· < w.heap.size) 6 (.slice A n c) n (pcM Y n)) := Lib.hid (fun w hb => h.later hb)
  have HG := Lib.hid hg
  clear h hg
  have S0 := (((St.refl W).blk_new #[.slice A n c] 71).row_nil 69 6).row_nil 139 2
  simp only [List.cons_append, List.nil_append] at S0
  go_enter Tryz.func36, Tryz.ntmps36
  go_wp2_with fail
  obtain ⟨g1, hg1⟩ : ∃ g, g = W.heap.size := ⟨_, rfl⟩
  rw [← hg1] at S0
  rw [← hg1]
  generalize W.alloc (.cells #[.slice A n c] 71) = w1 at *
  have HS0 := Lib.hid S0
  have d0 := S0.blk_cell (i := 0) rfl 0
  clear S0 hg1
  go_step3
  go_wp2_with fail
  go_step3
  go_wp2_with fail
  clear d0
  go_loopw [4, 5, 6, 12] (fun vl vg nv i w' => ∃ (k m ng : Nat) (τ : Nat → Nat) (gs : List Value) (nx : Int), k ≤ n ∧ ng ≤ k ∧ 0 ≤ nx ∧ nx ≤ 1001 ∧ nv = .int .i64 nx ∧ i = .int .i64 k ∧ St W w' [blk g1 71 #[.slice A n c], row 69 6 vl m (pcM (fun a => Y (τ a)) m), row 139 2 vg ng gs] ∧ Hid (Shw k m τ) ∧ Hid (Full Y n k m ng τ nx)) (fun vl vg nv i _ => n - (intOf i).toNat)
  case atStart => exact ⟨0, 0, 0, id, [], 1, Nat.zero_le _, Nat.zero_le _, by decide, by decide, rfl, rfl, HS0.out, Lib.hid ⟨fun a ha => absurd ha (by omega), fun a b _ hb => absurd hb (by omega)⟩, Lib.hid (fun _ => ⟨rfl, rfl, fun a ha => absurd ha (by omega), fun h => absurd h (by omega)⟩)⟩
  case round =>
    obtain ⟨k, m, ng, τ, gs, nx, hk, hng, hx0, hx1, rfl, rfl, S, HSH, HFU⟩ := hrel
    clear HS0
    by_cases hlt : k < n
    · have hmk := HSH.out.le2
      obtain ⟨b, o, rfl, _, c0, c1, c2, c3, c4, c5⟩ := rd_pcM (HR.out wr S.bel) hlt
      have hnb := HG.out k hlt
      have HTK : Hid (pcM (fun a => Y (τ a)) m ++ (Y k).cells = pcM (fun a => Y (extT τ m k a)) (m + 1)) := Lib.hid (pcM_ext Y τ m k)
      have HFT : Hid ((Y k).num = nxt Y k nx → Full Y n (k + 1) (m + 1) ng (extT τ m k) (nxt Y k nx + 1)) := Lib.hid (fun h => HFU.out.take hlt h)
      have HFN : Hid (∀ m' ng' τ' nx', (Y k).num ≠ nxt Y k nx → Full Y n (k + 1) m' ng' τ' nx') := Lib.hid (fun m' ng' τ' nx' h => HFU.out.not hlt h)
      have HRK := Lib.hid (fun kp (e : kp < n) w (hb : Below W.heap.size W w) => rd_pcM (HR.out w hb) e)
      clear HFU
      rcases Nat.eq_zero_or_pos k with h0 | h0
      · subst h0
        have hnx : nxt Y 0 nx = 1 := by unfold nxt; rw [if_pos rfl]
        rw [hnx] at HFT HFN
        clear hnx HRK
        generalize hyk : Y 0 = x at *
        clear hyk
        obtain ⟨xd, xn, xp, xh, xs, xm⟩ := x
        simp only [Nat.zero_mul, Nat.add_zero] at c0 c1 c2 c3 c4 c5 hnb HTK HFT HFN
        obtain ⟨AX, hAX⟩ : ∃ A : Array Value, A = #[.string xd, .int .i64 xn, .string xp, .int .i64 xh, .int .i64 xs, .string xm] := ⟨_, rfl⟩
        have HAX := Lib.hid hAX
        have SA := S.blk_new AX 69
        simp only [List.cons_append, List.nil_append] at SA
        have HS := Lib.hid SA
        obtain ⟨bl1, cl1, rfl, _, _, _⟩ := (S.row_rd (i := 1) rfl).open_
        obtain ⟨bg1, cg1, rfl, _, _, _⟩ := (S.row_rd (i := 2) rfl).open_
        clear SA S
        go_wp2_with fail
        rw [← hAX]
        clear c0 c1 c2 c3 c4 c5 hAX
        generalize wr.heap.size = gx at *
        generalize wr.alloc (.cells AX 69) = w3 at *
        refine wp_cls 13 (fun w' => St W w' [blk g1 71 #[.slice (some ⟨b, o, none⟩) n c], row 69 6 (.slice bl1 m cl1) m (pcM (fun a => Y (τ a)) m), row 139 2 (.slice bg1 ng cg1) ng gs, blk gx 69 AX]) (by kernel_rfl) (by kernel_rfl) HS.out.drew ?_
        simp only [List.take_succ_cons, List.take_zero, List.drop_succ_cons, List.drop_zero]
        generalize hK : (fun w' => St W w' [blk g1 71 #[.slice (some ⟨b, o, none⟩) n c], row 69 6 (.slice bl1 m cl1) m (pcM (fun a => Y (τ a)) m), row 139 2 (.slice bg1 ng cg1) ng gs, blk gx 69 AX]) = K
        intro hne
        have kS : ∀ y : Wd K, St W y.w [blk g1 71 #[.slice (some ⟨b, o, none⟩) n c], row 69 6 (.slice bl1 m cl1) m (pcM (fun a => Y (τ a)) m), row 139 2 (.slice bg1 ng cg1) ng gs, blk gx 69 AX] := by subst hK; exact fun y => y.h
        have hK3 : ∀ w w' : World, K w → Below w.heap.size w w' → K w' := by subst hK; exact fun w w' h h' => h.ext h'
        have k0 : ∀ y : Wd K, y.w.cell? ⟨g1, 0, none⟩ = some (.slice (some ⟨b, o, none⟩) n c) := fun y => (kS y).blk_cell (i := 0) rfl 0
        have k1 : ∀ y : Wd K, y.w.cell? ⟨gx, 0, none⟩ = some (.string xd) := fun y => by have h := (kS y).blk_cell (i := 3) rfl 0; rw [HAX.out] at h; exact h
        have k2 : ∀ y : Wd K, y.w.cell? ⟨gx, 1, none⟩ = some (.int .i64 xn) := fun y => by have h := (kS y).blk_cell (i := 3) rfl 1; rw [HAX.out] at h; exact h
        have k3 : ∀ y : Wd K, y.w.cell? ⟨gx, 2, none⟩ = some (.string xp) := fun y => by have h := (kS y).blk_cell (i := 3) rfl 2; rw [HAX.out] at h; exact h
        have k4 : ∀ y : Wd K, y.w.cell? ⟨gx, 3, none⟩ = some (.int .i64 xh) := fun y => by have h := (kS y).blk_cell (i := 3) rfl 3; rw [HAX.out] at h; exact h
        have k5 : ∀ y : Wd K, y.w.cell? ⟨gx, 4, none⟩ = some (.int .i64 xs) := fun y => by have h := (kS y).blk_cell (i := 3) rfl 4; rw [HAX.out] at h; exact h
        have k6 : ∀ y : Wd K, y.w.cell? ⟨gx, 5, none⟩ = some (.string xm) := fun y => by have h := (kS y).blk_cell (i := 3) rfl 5; rw [HAX.out] at h; exact h
        have KS := Lib.hid kS
        have HKK := Lib.hid hK3
        clear hK kS hK3
        repeat (go_big_quiet_step ((fail)))
        refine wpQuiet_nil ?_
        intro y
        have SY := Lib.hid (KS.out y)
        clear k0 k1 k2 k3 k4 k5 k6 KS HKK hne HS
        generalize y.w = wy at *
        by_cases hnn : xn = 1
        · have HFT2 := Lib.hid (HFT.out hnn)
          clear HFT HFN
          subst hnn
          have x0 := SY.out.blk_cell (i := 3) rfl 0
          have x1 := SY.out.blk_cell (i := 3) rfl 1
          have x2 := SY.out.blk_cell (i := 3) rfl 2
          have x3 := SY.out.blk_cell (i := 3) rfl 3
          have x4 := SY.out.blk_cell (i := 3) rfl 4
          have x5 := SY.out.blk_cell (i := 3) rfl 5
          rw [HAX.out] at x0 x1 x2 x3 x4 x5
          have t6 : ((1 : Int) == 1) = true := by simp
          go_wp2_with (at_builtin; refine wpList_append_st eltM rfl _ _ rfl rfl (SY.out.alloc _) (k := 1) rfl rfl (rd_new wy #[.string xd, .int .i64 1, .string xp, .int .i64 xh, .int .i64 xs, .string xm] 69 (m := 1) (size := 6) rfl (by decide) (fun _ => True) trivial) (one_ms ⟨xd, 1, xp, xh, xs, xm⟩) (by omega) (by omega) ?_; intro v' w4 S4 _; simp only [List.set_cons_succ, List.set_cons_zero] at S4; have e4 := HTK.out; unfold MsI.cells at e4; simp only at e4; rw [e4] at S4; have HS4 := Lib.hid (S4.sub (L' := [_, _, _]) (List.sublist_append_left [_, _, _] [_])); clear S4 e4)
          go_roundw
          case rel => exact ⟨0 + 1, (m + 1), ng, (extT τ m 0), _, (1 + 1), by omega, by omega, by omega, by omega, by go_num, by go_num, HS4.out, Lib.hid HSH.out.take, HFT2⟩
          case measure => simp [intOf]; omega
        · have HFG := Lib.hid (HFN.out m (ng + 1) τ 0 hnn)
          clear HFT HFN
          have x0 := SY.out.blk_cell (i := 3) rfl 0
          have x1 := SY.out.blk_cell (i := 3) rfl 1
          have x2 := SY.out.blk_cell (i := 3) rfl 2
          have x3 := SY.out.blk_cell (i := 3) rfl 3
          have x4 := SY.out.blk_cell (i := 3) rfl 4
          have x5 := SY.out.blk_cell (i := 3) rfl 5
          rw [HAX.out] at x0 x1 x2 x3 x4 x5
          have t6 : (xn == 1) = false := by simpa using hnn
          go_wp2_with (at_builtin; refine wpList_append_st eltGap rfl _ _ rfl rfl (SY.out.alloc _) (k := 2) rfl rfl (rd_new wy #[.string xd, .int .i64 1] 139 (m := 1) (size := 2) rfl (by decide) (fun _ => True) trivial) (by intro u hu; simp only [List.mem_cons, List.not_mem_nil, or_false] at hu; rcases hu with rfl | rfl <;> rfl) (by omega) (by omega) ?_; intro v' w4 S4 _; simp only [List.set_cons_succ, List.set_cons_zero] at S4; have HS4 := Lib.hid (S4.sub (L' := [_, _, _]) (List.sublist_append_left [_, _, _] [_])); clear S4)
          go_roundw
          case rel => exact ⟨0 + 1, m, (ng + 1), τ, _, 0, by omega, by omega, by omega, by omega, by go_num, by go_num, HS4.out, Lib.hid HSH.out.skip, HFG⟩
          case measure => simp [intOf]; omega
      · obtain ⟨kp, hkp⟩ : ∃ kp, kp = k - 1 := ⟨_, rfl⟩
        have hkm : (k : Int) - 1 = (kp : Int) := by omega
        have hkw : IntKind.i64.wrap ((k : Int) - 1) = (kp : Int) := by rw [hkm]; exact IntWalk.i64_in _ (by omega)
        have hkn : kp < n := by omega
        have t1 : ((k : Int) == 0) = false := by simp; omega
        have t1' : (k == 0) = false := by simp; omega
        have HRP : Hid (∀ w, Below W.heap.size W w → w.cell? ⟨b, o + kp * 6, none⟩ = some (.string (Y kp).dev)) := Lib.hid (fun w hb => by
          obtain ⟨b', o', e, _, hc⟩ := HRK.out kp hkn w hb
          cases e
          exact hc.1)
        have hnx : nxt Y k nx = if (Y kp).dev = (Y k).dev then nx else 1 := by unfold nxt; rw [if_neg (by omega), hkp]
        rw [hnx] at HFT HFN
        clear hnx HRK hkp
        generalize (Y kp).dev = zd at *
        generalize hyk : Y k = x at *
        by_cases hde : zd = x.dev
        · rw [if_pos hde] at HFT HFN
          have t2 : (zd.toList == x.dev.toList) = true := by rw [hde]; simp
          clear hde
          clear hyk
          obtain ⟨xd, xn, xp, xh, xs, xm⟩ := x
          simp only at c0 c1 c2 c3 c4 c5 hnb HTK HFT HFN t2
          obtain ⟨AX, hAX⟩ : ∃ A : Array Value, A = #[.string xd, .int .i64 xn, .string xp, .int .i64 xh, .int .i64 xs, .string xm] := ⟨_, rfl⟩
          have HAX := Lib.hid hAX
          have SA := S.blk_new AX 69
          simp only [List.cons_append, List.nil_append] at SA
          have HS := Lib.hid SA
          obtain ⟨bl1, cl1, rfl, _, _, _⟩ := (S.row_rd (i := 1) rfl).open_
          obtain ⟨bg1, cg1, rfl, _, _, _⟩ := (S.row_rd (i := 2) rfl).open_
          clear SA S
          go_wp2_with fail
          rw [← hAX]
          clear c0 c1 c2 c3 c4 c5 hAX
          generalize wr.heap.size = gx at *
          generalize wr.alloc (.cells AX 69) = w3 at *
          refine wp_cls 13 (fun w' => St W w' [blk g1 71 #[.slice (some ⟨b, o, none⟩) n c], row 69 6 (.slice bl1 m cl1) m (pcM (fun a => Y (τ a)) m), row 139 2 (.slice bg1 ng cg1) ng gs, blk gx 69 AX]) (by kernel_rfl) (by kernel_rfl) HS.out.drew ?_
          simp only [List.take_succ_cons, List.take_zero, List.drop_succ_cons, List.drop_zero]
          generalize hK : (fun w' => St W w' [blk g1 71 #[.slice (some ⟨b, o, none⟩) n c], row 69 6 (.slice bl1 m cl1) m (pcM (fun a => Y (τ a)) m), row 139 2 (.slice bg1 ng cg1) ng gs, blk gx 69 AX]) = K
          intro hne
          have kS : ∀ y : Wd K, St W y.w [blk g1 71 #[.slice (some ⟨b, o, none⟩) n c], row 69 6 (.slice bl1 m cl1) m (pcM (fun a => Y (τ a)) m), row 139 2 (.slice bg1 ng cg1) ng gs, blk gx 69 AX] := by subst hK; exact fun y => y.h
          have hK3 : ∀ w w' : World, K w → Below w.heap.size w w' → K w' := by subst hK; exact fun w w' h h' => h.ext h'
          have k0 : ∀ y : Wd K, y.w.cell? ⟨g1, 0, none⟩ = some (.slice (some ⟨b, o, none⟩) n c) := fun y => (kS y).blk_cell (i := 0) rfl 0
          have k1 : ∀ y : Wd K, y.w.cell? ⟨gx, 0, none⟩ = some (.string xd) := fun y => by have h := (kS y).blk_cell (i := 3) rfl 0; rw [HAX.out] at h; exact h
          have k2 : ∀ y : Wd K, y.w.cell? ⟨gx, 1, none⟩ = some (.int .i64 xn) := fun y => by have h := (kS y).blk_cell (i := 3) rfl 1; rw [HAX.out] at h; exact h
          have k3 : ∀ y : Wd K, y.w.cell? ⟨gx, 2, none⟩ = some (.string xp) := fun y => by have h := (kS y).blk_cell (i := 3) rfl 2; rw [HAX.out] at h; exact h
          have k4 : ∀ y : Wd K, y.w.cell? ⟨gx, 3, none⟩ = some (.int .i64 xh) := fun y => by have h := (kS y).blk_cell (i := 3) rfl 3; rw [HAX.out] at h; exact h
          have k5 : ∀ y : Wd K, y.w.cell? ⟨gx, 4, none⟩ = some (.int .i64 xs) := fun y => by have h := (kS y).blk_cell (i := 3) rfl 4; rw [HAX.out] at h; exact h
          have k6 : ∀ y : Wd K, y.w.cell? ⟨gx, 5, none⟩ = some (.string xm) := fun y => by have h := (kS y).blk_cell (i := 3) rfl 5; rw [HAX.out] at h; exact h
          have k7 : ∀ y : Wd K, y.w.cell? ⟨b, o + kp * 6, none⟩ = some (.string zd) := fun y => HRP.out y.w (kS y).bel
          have KS := Lib.hid kS
          have HKK := Lib.hid hK3
          clear hK kS hK3
          repeat (go_big_quiet_step ((fail)))
          refine wpQuiet_nil ?_
          intro y
          have SY := Lib.hid (KS.out y)
          clear k0 k1 k2 k3 k4 k5 k6 k7 KS HKK hne HS
          generalize y.w = wy at *
          by_cases h00 : nx = 0
          · subst h00
            have HFS := Lib.hid (HFN.out m ng τ 0 (by omega))
            clear HFT HFN
            have t5 : ((0 : Int) == 0) = true := by simp
            go_wp2_with fail
            go_roundw
            case rel => exact ⟨k + 1, m, ng, τ, _, 0, by omega, by omega, by omega, by omega, by go_num, by go_num, (SY.out.sub (L' := [_, _, _]) (List.sublist_append_left [_, _, _] [_])), Lib.hid HSH.out.skip, HFS⟩
            case measure => simp [intOf]; omega
          · have t5 : (nx == 0) = false := by simpa using h00
            by_cases hnn : xn = nx
            · have HFT2 := Lib.hid (HFT.out hnn)
              clear HFT HFN
              subst hnn
              have x0 := SY.out.blk_cell (i := 3) rfl 0
              have x1 := SY.out.blk_cell (i := 3) rfl 1
              have x2 := SY.out.blk_cell (i := 3) rfl 2
              have x3 := SY.out.blk_cell (i := 3) rfl 3
              have x4 := SY.out.blk_cell (i := 3) rfl 4
              have x5 := SY.out.blk_cell (i := 3) rfl 5
              rw [HAX.out] at x0 x1 x2 x3 x4 x5
              have t6 : ((xn : Int) == xn) = true := by simp
              go_wp2_with (at_builtin; refine wpList_append_st eltM rfl _ _ rfl rfl (SY.out.alloc _) (k := 1) rfl rfl (rd_new wy #[.string xd, .int .i64 xn, .string xp, .int .i64 xh, .int .i64 xs, .string xm] 69 (m := 1) (size := 6) rfl (by decide) (fun _ => True) trivial) (one_ms ⟨xd, xn, xp, xh, xs, xm⟩) (by omega) (by omega) ?_; intro v' w4 S4 _; simp only [List.set_cons_succ, List.set_cons_zero] at S4; have e4 := HTK.out; unfold MsI.cells at e4; simp only at e4; rw [e4] at S4; have HS4 := Lib.hid (S4.sub (L' := [_, _, _]) (List.sublist_append_left [_, _, _] [_])); clear S4 e4)
              go_roundw
              case rel => exact ⟨k + 1, (m + 1), ng, (extT τ m k), _, (xn + 1), by omega, by omega, by omega, by omega, by go_num, by go_num, HS4.out, Lib.hid HSH.out.take, HFT2⟩
              case measure => simp [intOf]; omega
            · have HFG := Lib.hid (HFN.out m (ng + 1) τ 0 hnn)
              clear HFT HFN
              have x0 := SY.out.blk_cell (i := 3) rfl 0
              have x1 := SY.out.blk_cell (i := 3) rfl 1
              have x2 := SY.out.blk_cell (i := 3) rfl 2
              have x3 := SY.out.blk_cell (i := 3) rfl 3
              have x4 := SY.out.blk_cell (i := 3) rfl 4
              have x5 := SY.out.blk_cell (i := 3) rfl 5
              rw [HAX.out] at x0 x1 x2 x3 x4 x5
              have t6 : (xn == nx) = false := by simpa using hnn
              go_wp2_with (at_builtin; refine wpList_append_st eltGap rfl _ _ rfl rfl (SY.out.alloc _) (k := 2) rfl rfl (rd_new wy #[.string xd, .int .i64 nx] 139 (m := 1) (size := 2) rfl (by decide) (fun _ => True) trivial) (by intro u hu; simp only [List.mem_cons, List.not_mem_nil, or_false] at hu; rcases hu with rfl | rfl <;> rfl) (by omega) (by omega) ?_; intro v' w4 S4 _; simp only [List.set_cons_succ, List.set_cons_zero] at S4; have HS4 := Lib.hid (S4.sub (L' := [_, _, _]) (List.sublist_append_left [_, _, _] [_])); clear S4)
              go_roundw
              case rel => exact ⟨k + 1, m, (ng + 1), τ, _, 0, by omega, by omega, by omega, by omega, by go_num, by go_num, HS4.out, Lib.hid HSH.out.skip, HFG⟩
              case measure => simp [intOf]; omega
        · rw [if_neg hde] at HFT HFN
          have t2 := bytes_neU hde
          clear hde
          clear hyk
          obtain ⟨xd, xn, xp, xh, xs, xm⟩ := x
          simp only at c0 c1 c2 c3 c4 c5 hnb HTK HFT HFN t2
          obtain ⟨AX, hAX⟩ : ∃ A : Array Value, A = #[.string xd, .int .i64 xn, .string xp, .int .i64 xh, .int .i64 xs, .string xm] := ⟨_, rfl⟩
          have HAX := Lib.hid hAX
          have SA := S.blk_new AX 69
          simp only [List.cons_append, List.nil_append] at SA
          have HS := Lib.hid SA
          obtain ⟨bl1, cl1, rfl, _, _, _⟩ := (S.row_rd (i := 1) rfl).open_
          obtain ⟨bg1, cg1, rfl, _, _, _⟩ := (S.row_rd (i := 2) rfl).open_
          clear SA S
          go_wp2_with fail
          rw [← hAX]
          clear c0 c1 c2 c3 c4 c5 hAX
          generalize wr.heap.size = gx at *
          generalize wr.alloc (.cells AX 69) = w3 at *
          refine wp_cls 13 (fun w' => St W w' [blk g1 71 #[.slice (some ⟨b, o, none⟩) n c], row 69 6 (.slice bl1 m cl1) m (pcM (fun a => Y (τ a)) m), row 139 2 (.slice bg1 ng cg1) ng gs, blk gx 69 AX]) (by kernel_rfl) (by kernel_rfl) HS.out.drew ?_
          simp only [List.take_succ_cons, List.take_zero, List.drop_succ_cons, List.drop_zero]
          generalize hK : (fun w' => St W w' [blk g1 71 #[.slice (some ⟨b, o, none⟩) n c], row 69 6 (.slice bl1 m cl1) m (pcM (fun a => Y (τ a)) m), row 139 2 (.slice bg1 ng cg1) ng gs, blk gx 69 AX]) = K
          intro hne
          have kS : ∀ y : Wd K, St W y.w [blk g1 71 #[.slice (some ⟨b, o, none⟩) n c], row 69 6 (.slice bl1 m cl1) m (pcM (fun a => Y (τ a)) m), row 139 2 (.slice bg1 ng cg1) ng gs, blk gx 69 AX] := by subst hK; exact fun y => y.h
          have hK3 : ∀ w w' : World, K w → Below w.heap.size w w' → K w' := by subst hK; exact fun w w' h h' => h.ext h'
          have k0 : ∀ y : Wd K, y.w.cell? ⟨g1, 0, none⟩ = some (.slice (some ⟨b, o, none⟩) n c) := fun y => (kS y).blk_cell (i := 0) rfl 0
          have k1 : ∀ y : Wd K, y.w.cell? ⟨gx, 0, none⟩ = some (.string xd) := fun y => by have h := (kS y).blk_cell (i := 3) rfl 0; rw [HAX.out] at h; exact h
          have k2 : ∀ y : Wd K, y.w.cell? ⟨gx, 1, none⟩ = some (.int .i64 xn) := fun y => by have h := (kS y).blk_cell (i := 3) rfl 1; rw [HAX.out] at h; exact h
          have k3 : ∀ y : Wd K, y.w.cell? ⟨gx, 2, none⟩ = some (.string xp) := fun y => by have h := (kS y).blk_cell (i := 3) rfl 2; rw [HAX.out] at h; exact h
          have k4 : ∀ y : Wd K, y.w.cell? ⟨gx, 3, none⟩ = some (.int .i64 xh) := fun y => by have h := (kS y).blk_cell (i := 3) rfl 3; rw [HAX.out] at h; exact h
          have k5 : ∀ y : Wd K, y.w.cell? ⟨gx, 4, none⟩ = some (.int .i64 xs) := fun y => by have h := (kS y).blk_cell (i := 3) rfl 4; rw [HAX.out] at h; exact h
          have k6 : ∀ y : Wd K, y.w.cell? ⟨gx, 5, none⟩ = some (.string xm) := fun y => by have h := (kS y).blk_cell (i := 3) rfl 5; rw [HAX.out] at h; exact h
          have k7 : ∀ y : Wd K, y.w.cell? ⟨b, o + kp * 6, none⟩ = some (.string zd) := fun y => HRP.out y.w (kS y).bel
          have KS := Lib.hid kS
          have HKK := Lib.hid hK3
          clear hK kS hK3
          repeat (go_big_quiet_step ((fail)))
          refine wpQuiet_nil ?_
          intro y
          have SY := Lib.hid (KS.out y)
          clear k0 k1 k2 k3 k4 k5 k6 k7 KS HKK hne HS
          generalize y.w = wy at *
          by_cases hnn : xn = 1
          · have HFT2 := Lib.hid (HFT.out hnn)
            clear HFT HFN
            subst hnn
            have x0 := SY.out.blk_cell (i := 3) rfl 0
            have x1 := SY.out.blk_cell (i := 3) rfl 1
            have x2 := SY.out.blk_cell (i := 3) rfl 2
            have x3 := SY.out.blk_cell (i := 3) rfl 3
            have x4 := SY.out.blk_cell (i := 3) rfl 4
            have x5 := SY.out.blk_cell (i := 3) rfl 5
            rw [HAX.out] at x0 x1 x2 x3 x4 x5
            have t6 : ((1 : Int) == 1) = true := by simp
            go_wp2_with (at_builtin; refine wpList_append_st eltM rfl _ _ rfl rfl (SY.out.alloc _) (k := 1) rfl rfl (rd_new wy #[.string xd, .int .i64 1, .string xp, .int .i64 xh, .int .i64 xs, .string xm] 69 (m := 1) (size := 6) rfl (by decide) (fun _ => True) trivial) (one_ms ⟨xd, 1, xp, xh, xs, xm⟩) (by omega) (by omega) ?_; intro v' w4 S4 _; simp only [List.set_cons_succ, List.set_cons_zero] at S4; have e4 := HTK.out; unfold MsI.cells at e4; simp only at e4; rw [e4] at S4; have HS4 := Lib.hid (S4.sub (L' := [_, _, _]) (List.sublist_append_left [_, _, _] [_])); clear S4 e4)
            go_roundw
            case rel => exact ⟨k + 1, (m + 1), ng, (extT τ m k), _, (1 + 1), by omega, by omega, by omega, by omega, by go_num, by go_num, HS4.out, Lib.hid HSH.out.take, HFT2⟩
            case measure => simp [intOf]; omega
          · have HFG := Lib.hid (HFN.out m (ng + 1) τ 0 hnn)
            clear HFT HFN
            have x0 := SY.out.blk_cell (i := 3) rfl 0
            have x1 := SY.out.blk_cell (i := 3) rfl 1
            have x2 := SY.out.blk_cell (i := 3) rfl 2
            have x3 := SY.out.blk_cell (i := 3) rfl 3
            have x4 := SY.out.blk_cell (i := 3) rfl 4
            have x5 := SY.out.blk_cell (i := 3) rfl 5
            rw [HAX.out] at x0 x1 x2 x3 x4 x5
            have t6 : (xn == 1) = false := by simpa using hnn
            go_wp2_with (at_builtin; refine wpList_append_st eltGap rfl _ _ rfl rfl (SY.out.alloc _) (k := 2) rfl rfl (rd_new wy #[.string xd, .int .i64 1] 139 (m := 1) (size := 2) rfl (by decide) (fun _ => True) trivial) (by intro u hu; simp only [List.mem_cons, List.not_mem_nil, or_false] at hu; rcases hu with rfl | rfl <;> rfl) (by omega) (by omega) ?_; intro v' w4 S4 _; simp only [List.set_cons_succ, List.set_cons_zero] at S4; have HS4 := Lib.hid (S4.sub (L' := [_, _, _]) (List.sublist_append_left [_, _, _] [_])); clear S4)
            go_roundw
            case rel => exact ⟨k + 1, m, (ng + 1), τ, _, 0, by omega, by omega, by omega, by omega, by go_num, by go_num, HS4.out, Lib.hid HSH.out.skip, HFG⟩
            case measure => simp [intOf]; omega
    · obtain rfl : n = k := by omega
      have HM := Lib.hid S
      clear S hlt
      go_wp2_with fail
      simp only [go_sem]
      go_ret2
      exact ⟨_, m, τ, _, ng, gs, by first | rfl | trivial, HM.out.sub (List.sublist_cons_self _ _), HSH.out, fun hc => by obtain ⟨a1, a2, a3, _⟩ := HFU.out hc; exact ⟨a1, a2, fun a ha => a3 a (by omega)⟩⟩
end Go.Proofs.YtnaafefcijgpkaaGreatDoor
/- Messages: Shown, Gaps. -/
namespace Go.Proofs.YtnaafefcijgpkaaGreatDoor
open Go.RowKit Go.Mem Go.Sheet Go.Adj
def SnPost (W : World) (n : Nat) (Y : Nat → MsI) (e : Ending) (w' : World) : Prop := ∃ (A : Option Addr) (m c : Nat), e = .returned (.tuple #[.slice A m c, .int .i64 0]) ∧ Below W.heap.size W w' ∧ (Cmp Y n → m = n)
def GpPost (W : World) (n : Nat) (Y : Nat → MsI) (e : Ending) (w' : World) : Prop := ∃ (A : Option Addr) (m c : Nat), e = .returned (.tuple #[.slice A m c, .int .i64 0]) ∧ Below W.heap.size W w' ∧ (Cmp Y n → m = 0)
set_option maxRecDepth 100000 in
set_option maxHeartbeats 4000000 in
theorem uShown_any (W : World) (v : Value) (n : Nat) (Y : Nat → MsI) (hn : n ≤ 1000) (h : Rd W (· < W.heap.size) 6 v n (pcM Y n)) (ho : ∀ i j, i < j → j < n → ltM (Y i) (Y j)) (hg : ∀ i, i < n → GoodM (Y i)) :
    Calls Tryz.prog 16 #[.agg #[v]] W fun e w' => SnPost W n Y e w' := by
  have HCF : Hid (∀ w, Below W.heap.size W w → Calls Tryz.prog 33 #[.agg #[v]] w fun e w' => e = .returned (.int .i64 0) ∧ Below w.heap.size w w') := Lib.hid (fun w hw => uChkFol_ok w _ n Y (by omega) (h.later hw) hg (fun i hi => ho i (i + 1) (by omega) hi))
  have HSW : Hid (∀ w, Below W.heap.size W w → Calls Tryz.prog 36 #[.agg #[v]] w fun e w' => ShPost w n Y e w') := Lib.hid (fun w hw => shown_any w v n Y hn (h.later hw) (fun i hi => ⟨(hg i hi).n1, (hg i hi).n2⟩))
  obtain ⟨A, c, rfl, _, _, h⟩ := h.open_
  clear h hg ho
  have S0 := (St.refl W).blk_new #[.slice A n c] 71
  simp only [List.cons_append, List.nil_append] at S0
  go_enter Tryz.func16, Tryz.ntmps16
  have d0 := S0.blk_cell (i := 0) rfl 0
  have HS := Lib.hid S0
  clear S0
  go_wp2_with fail
  generalize W.heap.size = g1 at HS d0 ⊢
  generalize W.alloc (.cells #[.slice A n c] 71) = w1 at *
  refine (HCF.out w1 HS.out.bel).mono ?_
  rintro e w2 ⟨rfl, hb⟩
  have S2 := HS.out.ext hb
  clear d0 HS hb
  have d0 := S2.blk_cell (i := 0) rfl 0
  have HS := Lib.hid S2
  clear S2
  go_wp2_with fail
  refine (HSW.out w2 HS.out.bel).mono ?_
  rintro e w3 ⟨vl, m, τ, vg, ng, gs, rfl, S3, hsh, hfu⟩
  have S4 := HS.out.call S3
  simp only [List.cons_append, List.nil_append] at S4
  obtain ⟨A1, c1, rfl, _, _, _⟩ := (S4.row_rd (i := 1) rfl).open_
  obtain ⟨A2, c2, rfl, _, _, _⟩ := (S4.row_rd (i := 2) rfl).open_
  have HS4 := Lib.hid S4
  have HFU := Lib.hid hfu
  clear S4 S3 hfu HCF HSW HS
  go_wp2_with fail
  go_ret2
  exact ⟨A1, m, c1, by first | rfl | trivial, HS4.out.bel, fun hc => (HFU.out hc).1⟩
set_option maxRecDepth 100000 in
set_option maxHeartbeats 4000000 in
theorem uGaps_any (W : World) (v : Value) (n : Nat) (Y : Nat → MsI) (hn : n ≤ 1000) (h : Rd W (· < W.heap.size) 6 v n (pcM Y n)) (ho : ∀ i j, i < j → j < n → ltM (Y i) (Y j)) (hg : ∀ i, i < n → GoodM (Y i)) :
    Calls Tryz.prog 15 #[.agg #[v]] W fun e w' => GpPost W n Y e w' := by
  have HCF : Hid (∀ w, Below W.heap.size W w → Calls Tryz.prog 33 #[.agg #[v]] w fun e w' => e = .returned (.int .i64 0) ∧ Below w.heap.size w w') := Lib.hid (fun w hw => uChkFol_ok w _ n Y (by omega) (h.later hw) hg (fun i hi => ho i (i + 1) (by omega) hi))
  have HSW : Hid (∀ w, Below W.heap.size W w → Calls Tryz.prog 36 #[.agg #[v]] w fun e w' => ShPost w n Y e w') := Lib.hid (fun w hw => shown_any w v n Y hn (h.later hw) (fun i hi => ⟨(hg i hi).n1, (hg i hi).n2⟩))
  obtain ⟨A, c, rfl, _, _, h⟩ := h.open_
  clear h hg ho
  have S0 := (St.refl W).blk_new #[.slice A n c] 71
  simp only [List.cons_append, List.nil_append] at S0
  go_enter Tryz.func15, Tryz.ntmps15
  have d0 := S0.blk_cell (i := 0) rfl 0
  have HS := Lib.hid S0
  clear S0
  go_wp2_with fail
  generalize W.heap.size = g1 at HS d0 ⊢
  generalize W.alloc (.cells #[.slice A n c] 71) = w1 at *
  refine (HCF.out w1 HS.out.bel).mono ?_
  rintro e w2 ⟨rfl, hb⟩
  have S2 := HS.out.ext hb
  clear d0 HS hb
  have d0 := S2.blk_cell (i := 0) rfl 0
  have HS := Lib.hid S2
  clear S2
  go_wp2_with fail
  refine (HSW.out w2 HS.out.bel).mono ?_
  rintro e w3 ⟨vl, m, τ, vg, ng, gs, rfl, S3, hsh, hfu⟩
  have S4 := HS.out.call S3
  simp only [List.cons_append, List.nil_append] at S4
  obtain ⟨A1, c1, rfl, _, _, _⟩ := (S4.row_rd (i := 1) rfl).open_
  obtain ⟨A2, c2, rfl, _, _, _⟩ := (S4.row_rd (i := 2) rfl).open_
  have HS4 := Lib.hid S4
  have HFU := Lib.hid hfu
  clear S4 S3 hfu HCF HSW HS
  go_wp2_with fail
  go_ret2
  exact ⟨A2, ng, c2, by first | rfl | trivial, HS4.out.bel, fun hc => (HFU.out hc).2.1⟩
end Go.Proofs.YtnaafefcijgpkaaGreatDoor
/- The library's stable sort of messages, only that it permutes: swaps; the insertion sort. -/
namespace Go.Adj
open Go.RowKit Go.Mem
def swA (Y : Nat → MsI) (i j a : Nat) : MsI := if a = i then Y j else if a = j then Y i else Y a
theorem upM_swA (Y : Nat → MsI) {i j : Nat} (h : i ≠ j) : upM (upM Y i (Y j)) j (Y i) = swA Y i j := by
  funext a
  unfold upM swA
  by_cases h1 : a = j
  · rw [if_pos h1, if_neg (by omega), if_pos h1]
  · rw [if_neg h1]
    by_cases h2 : a = i
    · rw [if_pos h2, if_pos h2]
    · rw [if_neg h2, if_neg h2, if_neg h1]
theorem PermG.swA {Y Y' : Nat → MsI} {q i j : Nat} (h : PermG Y Y' q) (hi : i < q) (hj : j < q) : PermG Y (swA Y' i j) q := by
  obtain ⟨π, h1, h2, h3⟩ := h
  refine ⟨fun a => if a = i then π j else if a = j then π i else π a, fun a ha => ?_, fun a b ha hb e => ?_, fun a => ?_⟩
  · show (if a = i then π j else if a = j then π i else π a) < q
    split
    · exact h1 _ hj
    · split
      · exact h1 _ hi
      · exact h1 _ ha
  · simp only at e
    by_cases a1 : a = i <;> by_cases a2 : a = j <;> by_cases b1 : b = i <;> by_cases b2 : b = j <;> simp only [a1, a2, b1, b2, if_true, if_false] at e
    all_goals first
      | omega
      | (split at e <;> first | omega | (have := h2 _ _ (by omega) (by omega) e; omega))
      | (have := h2 _ _ (by omega) (by omega) e; omega)
  · show (if a = i then Y' j else if a = j then Y' i else Y' a) = Y (if a = i then π j else if a = j then π i else π a)
    split
    · exact h3 _
    · split
      · exact h3 _
      · exact h3 _
theorem PermG.trans {α : Type} {Y Y' Y2 : Nat → α} {q : Nat} (h : PermG Y Y' q) (k : PermG Y' Y2 q) : PermG Y Y2 q := by
  obtain ⟨π, h1, h2, h3⟩ := h
  obtain ⟨ρ, k1, k2, k3⟩ := k
  exact ⟨fun a => π (ρ a), fun a ha => h1 _ (k1 _ ha), fun a b ha hb e => k2 _ _ ha hb (h2 _ _ (k1 _ ha) (k1 _ hb) e), fun a => by rw [k3, h3]⟩
theorem set_self {α : Type} (L : List α) (k : Nat) (A : α) (h : L[k]? = some A) : L.set k A = L := by
  apply List.ext_getElem?
  intro i
  rw [List.getElem?_set]
  split
  · rename_i h'; subst h'; split
    · exact h.symm
    · rename_i h2; rw [List.getElem?_eq_none (by omega)] at h; cases h
  · rfl
end Go.Adj
namespace Go.Proofs.YtnaafefcijgpkaaGreatDoor
open Go.RowKit Go.Mem Go.Sheet Go.Adj
theorem ix_row (L : List Asr) (k0 g c q : Nat) (Y : Nat → MsI) (hL : L[k0]? = some (row 69 6 (.slice (some ⟨g, 0, none⟩) q c) q (pcM Y q))) (Y' : Nat → MsI) : (L.set k0 (row 69 6 (.slice (some ⟨g, 0, none⟩) q c) q (pcM Y' q)))[k0]? = some (row 69 6 (.slice (some ⟨g, 0, none⟩) q c) q (pcM Y' q)) := by
  rw [List.getElem?_set, if_pos rfl, if_pos (List.getElem?_eq_some_iff.1 hL).1]
set_option maxRecDepth 100000 in
set_option maxHeartbeats 16000000 in
theorem insM_any (lo hi : Nat) (W w : World) (L : List Asr) (k0 g c q : Nat) (Y : Nat → MsI) (hq : q ≤ 1000) (S : St W w L) (hL : L[k0]? = some (row 69 6 (.slice (some ⟨g, 0, none⟩) q c) q (pcM Y q))) (hlo : lo ≤ hi) (hhi : hi ≤ q) :
    Calls Tryz.prog 100 #[.slice (some ⟨g, 0, none⟩) q c, .int .i64 lo, .int .i64 hi, .func (.func 38) #[] #[]] w fun e w' => e = .returned (.tuple #[]) ∧ ∃ Y', PermG Y Y' q ∧ St W w' (L.set k0 (row 69 6 (.slice (some ⟨g, 0, none⟩) q c) q (pcM Y' q))) := by
  have HIX := Lib.hid (ix_row L k0 g c q Y hL)
  have HSS : Hid (∀ A B : Asr, (L.set k0 A).set k0 B = L.set k0 B) := fun A B => List.set_set ..
  have S0 : St W w (L.set k0 (row 69 6 (.slice (some ⟨g, 0, none⟩) q c) q (pcM Y q))) := by rw [set_self L k0 _ hL]; exact S
  clear S hL
  have hE := enters Tryz.func38 (by kernel_rfl) rfl
  unfold Enters at hE
  go_enter Tryz.func100, Tryz.ntmps100
  go_wp2
  go_loopw [8] (fun i w' => ∃ (k : Nat) (Y' : Nat → MsI), lo + 1 ≤ k ∧ k ≤ q + 1 ∧ i = .int .i64 k ∧ Hid (PermG Y Y' q) ∧ St W w' (L.set k0 (row 69 6 (.slice (some ⟨g, 0, none⟩) q c) q (pcM Y' q)))) (fun i _ => q + 1 - (intOf i).toNat)
  case atStart => exact ⟨lo + 1, Y, Nat.le_refl _, by omega, by go_num, PermG.refl Y q, S0⟩
  case round =>
    obtain ⟨k, Y1, hk1, hkq, rfl, hp1, S1⟩ := hrel
    clear S0
    have HS1 := Lib.hid S1
    clear S1
    by_cases hlt : k < hi
    · go_wp2_with fail
      go_loopw [9] (fun i w' => ∃ (j : Nat) (Y' : Nat → MsI), lo ≤ j ∧ j ≤ k ∧ i = .int .i64 j ∧ Hid (PermG Y Y' q) ∧ St W w' (L.set k0 (row 69 6 (.slice (some ⟨g, 0, none⟩) q c) q (pcM Y' q)))) (fun i _ => (intOf i).toNat)
      case atStart => exact ⟨k, Y1, by omega, Nat.le_refl _, rfl, hp1, HS1.out⟩
      case round =>
        obtain ⟨j, Y2, hlj, hjk, rfl, hp2, S2⟩ := hrel
        clear HS1 hp1
        have hjq : j < q := by omega
        have HS2 := Lib.hid S2
        clear S2
        obtain ⟨LY, hLY⟩ : ∃ LY, LY = L.set k0 (row 69 6 (.slice (some ⟨g, 0, none⟩) q c) q (pcM Y2 q)) := ⟨_, rfl⟩
        rw [← hLY] at HS2
        have HLY := Lib.hid hLY
        clear hLY
        by_cases hj0 : j = lo
        · have t0 : decide ((lo : Int) < (j : Int)) = false := by simp; omega
          have t0' : decide (lo < j) = false := by simp; omega
          go_wp2_with fail
          refine wp_cls 16 (fun w' => ∃ n, w' = wr.drewN n) (by kernel_rfl) (by kernel_rfl) ⟨1, rfl⟩ ?_
          simp only [List.take_succ_cons, List.take_zero, List.drop_succ_cons, List.drop_zero]
          generalize hK : (fun w' => ∃ n, w' = wr.drewN n) = K
          intro hne
          have kw : ∀ y : Wd K, ∃ n, y.w = wr.drewN n := by subst hK; exact fun y => y.h
          clear hK
          repeat (go_big_quiet_step ((fail)))
          refine wpQuiet_nil ?_
          intro y
          obtain ⟨nn, hyn⟩ := kw y
          have HSY := HS2.out.drewN nn
          rw [← hyn, HLY.out] at HSY
          clear kw hyn hne
          have HSF := Lib.hid HSY
          clear HSY
          generalize y.w = w3 at *
          go_wp2_with fail
          go_roundw
          case rel => exact ⟨k + 1, Y2, by omega, by omega, by go_num, hp2, HSF.out⟩
          case measure => simp [intOf]; omega
        · obtain ⟨jp, hjp⟩ : ∃ jp, jp = j - 1 := ⟨_, rfl⟩
          have hjm : (j : Int) - 1 = (jp : Int) := by omega
          have hjw : IntKind.i64.wrap ((j : Int) - 1) = (jp : Int) := by rw [hjm]; exact IntWalk.i64_in _ (by omega)
          have hjpq : jp < q := by omega
          have HNE : Hid (j ≠ jp) := Lib.hid (by omega)
          have HJ1 : Hid (jp + 1 = j) := Lib.hid (by omega)
          have HLJ : Hid (lo ≤ jp) := Lib.hid (by omega)
          have t0 : decide ((lo : Int) < (j : Int)) = true := by simp; omega
          have t0' : decide (lo < j) = true := by simp; omega
          have HCL := Lib.hid (fun w => cmpF_any (Y2 j) (Y2 jp) w)
          have HPN := Lib.hid (PermG.swA hp2.out hjq hjpq)
          have HCJ : Hid (∀ w', St W w' LY → (w'.cell? ⟨g, j * 6, none⟩ = some (.string (Y2 j).dev) ∧ w'.cell? ⟨g, j * 6 + 1, none⟩ = some (.int .i64 (Y2 j).num) ∧ w'.cell? ⟨g, j * 6 + 2, none⟩ = some (.string (Y2 j).plr) ∧ w'.cell? ⟨g, j * 6 + 3, none⟩ = some (.int .i64 (Y2 j).hole) ∧ w'.cell? ⟨g, j * 6 + 4, none⟩ = some (.int .i64 (Y2 j).s) ∧ w'.cell? ⟨g, j * 6 + 5, none⟩ = some (.string (Y2 j).m)) ∧ ∀ k, w'.frozen? ⟨g, k, none⟩ = false) := Lib.hid (fun w' h => by
            rw [HLY.out] at h
            exact row_pcM h (HIX.out Y2) hjq)
          have HCK : Hid (∀ w', St W w' LY → (w'.cell? ⟨g, jp * 6, none⟩ = some (.string (Y2 jp).dev) ∧ w'.cell? ⟨g, jp * 6 + 1, none⟩ = some (.int .i64 (Y2 jp).num) ∧ w'.cell? ⟨g, jp * 6 + 2, none⟩ = some (.string (Y2 jp).plr) ∧ w'.cell? ⟨g, jp * 6 + 3, none⟩ = some (.int .i64 (Y2 jp).hole) ∧ w'.cell? ⟨g, jp * 6 + 4, none⟩ = some (.int .i64 (Y2 jp).s) ∧ w'.cell? ⟨g, jp * 6 + 5, none⟩ = some (.string (Y2 jp).m)) ∧ ∀ k, w'.frozen? ⟨g, k, none⟩ = false) := Lib.hid (fun w' h => by
            rw [HLY.out] at h
            exact row_pcM h (HIX.out Y2) hjpq)
          have HST : Hid (∀ w', St W w' LY → St W ((((((((((((w'.setCell ⟨g, j * 6, none⟩ (.string (Y2 jp).dev)).setCell ⟨g, j * 6 + 1, none⟩ (.int .i64 (Y2 jp).num)).setCell ⟨g, j * 6 + 2, none⟩ (.string (Y2 jp).plr)).setCell ⟨g, j * 6 + 3, none⟩ (.int .i64 (Y2 jp).hole)).setCell ⟨g, j * 6 + 4, none⟩ (.int .i64 (Y2 jp).s)).setCell ⟨g, j * 6 + 5, none⟩ (.string (Y2 jp).m)).setCell ⟨g, jp * 6, none⟩ (.string (Y2 j).dev)).setCell ⟨g, jp * 6 + 1, none⟩ (.int .i64 (Y2 j).num)).setCell ⟨g, jp * 6 + 2, none⟩ (.string (Y2 j).plr)).setCell ⟨g, jp * 6 + 3, none⟩ (.int .i64 (Y2 j).hole)).setCell ⟨g, jp * 6 + 4, none⟩ (.int .i64 (Y2 j).s)).setCell ⟨g, jp * 6 + 5, none⟩ (.string (Y2 j).m)) (L.set k0 (row 69 6 (.slice (some ⟨g, 0, none⟩) q c) q (pcM (swA Y2 j jp) q)))) := Lib.hid (fun w' h => by
            rw [HLY.out] at h
            have h1 := row_pcMset h (HIX.out Y2) hjq (Y2 jp)
            rw [HSS.out] at h1
            have h2 := row_pcMset h1 (HIX.out _) hjpq (Y2 j)
            rw [HSS.out, upM_swA Y2 HNE.out] at h2
            exact h2)
          obtain ⟨Y3, hY3⟩ : ∃ Y3, Y3 = swA Y2 j jp := ⟨_, rfl⟩
          rw [← hY3] at HST HPN
          clear hjp hY3
          generalize cmpN (Y2 j).num (Y2 jp).num = cv at *
          generalize hya : Y2 j = ya at *
          generalize hyb : Y2 jp = yb at *
          clear hya hyb
          obtain ⟨a0, a1, a2, a3, a4, a5⟩ := ya
          obtain ⟨b0, b1, b2, b3, b4, b5⟩ := yb
          unfold MsI.val at HCL
          simp only at HCL HCJ HCK HST
          cases hlo2 : decide (cv < 0) with
          | true =>
            go_wp2_with fail
            refine wp_cls 16 (fun w' => St W w' LY) (by kernel_rfl) (by kernel_rfl) HS2.out.drew ?_
            simp only [List.take_succ_cons, List.take_zero, List.drop_succ_cons, List.drop_zero]
            generalize hK : (fun w' => St W w' LY) = K
            intro hne
            have kS : ∀ y : Wd K, St W y.w LY := by subst hK; exact fun y => y.h
            have hK3 : ∀ w w' : World, K w → Below w.heap.size w w' → K w' := by subst hK; exact fun w w' h h' => h.ext h'
            have HC3 : Hid (∀ y : Wd K, Calls Tryz.prog 38 #[.agg #[.string a0, .int .i64 a1, .string a2, .int .i64 a3, .int .i64 a4, .string a5], .agg #[.string b0, .int .i64 b1, .string b2, .int .i64 b3, .int .i64 b4, .string b5]] y.w fun e w2 => e = .returned (.int .i64 cv) ∧ ∃ z : Wd K, w2 = z.w) := fun y => cls_below hK3 (HCL.out _)
            have y0 : ∀ y : Wd K, y.w.cell? ⟨g, j * 6, none⟩ = some (.string a0) := fun y => (HCJ.out _ (kS y)).1.1
            have y1 : ∀ y : Wd K, y.w.cell? ⟨g, j * 6 + 1, none⟩ = some (.int .i64 a1) := fun y => (HCJ.out _ (kS y)).1.2.1
            have y2 : ∀ y : Wd K, y.w.cell? ⟨g, j * 6 + 2, none⟩ = some (.string a2) := fun y => (HCJ.out _ (kS y)).1.2.2.1
            have y3 : ∀ y : Wd K, y.w.cell? ⟨g, j * 6 + 3, none⟩ = some (.int .i64 a3) := fun y => (HCJ.out _ (kS y)).1.2.2.2.1
            have y4 : ∀ y : Wd K, y.w.cell? ⟨g, j * 6 + 4, none⟩ = some (.int .i64 a4) := fun y => (HCJ.out _ (kS y)).1.2.2.2.2.1
            have y5 : ∀ y : Wd K, y.w.cell? ⟨g, j * 6 + 5, none⟩ = some (.string a5) := fun y => (HCJ.out _ (kS y)).1.2.2.2.2.2
            have y6 : ∀ y : Wd K, y.w.cell? ⟨g, jp * 6, none⟩ = some (.string b0) := fun y => (HCK.out _ (kS y)).1.1
            have y7 : ∀ y : Wd K, y.w.cell? ⟨g, jp * 6 + 1, none⟩ = some (.int .i64 b1) := fun y => (HCK.out _ (kS y)).1.2.1
            have y8 : ∀ y : Wd K, y.w.cell? ⟨g, jp * 6 + 2, none⟩ = some (.string b2) := fun y => (HCK.out _ (kS y)).1.2.2.1
            have y9 : ∀ y : Wd K, y.w.cell? ⟨g, jp * 6 + 3, none⟩ = some (.int .i64 b3) := fun y => (HCK.out _ (kS y)).1.2.2.2.1
            have y10 : ∀ y : Wd K, y.w.cell? ⟨g, jp * 6 + 4, none⟩ = some (.int .i64 b4) := fun y => (HCK.out _ (kS y)).1.2.2.2.2.1
            have y11 : ∀ y : Wd K, y.w.cell? ⟨g, jp * 6 + 5, none⟩ = some (.string b5) := fun y => (HCK.out _ (kS y)).1.2.2.2.2.2
            have KS := Lib.hid kS
            clear hK kS
            go_big_quiet_step ((fail))
            go_big_quiet_step ((fail))
            go_big_quiet_step ((fail))
            go_big_quiet_step ((fail))
            go_big_quiet_step ((fail))
            go_big_quiet_step ((fail))
            go_big_quiet_step ((fail))
            go_big_quiet_step ((fail))
            go_big_quiet_step ((fail))
            go_big_quiet_step ((fail))
            go_big_quiet_step ((fail))
            go_big_quiet_step ((fail))
            go_big_quiet_step ((fail))
            go_big_quiet_step ((fail))
            go_big_quiet_step ((exact HC3.out _))
            go_big_quiet_step ((fail))
            refine wpQuiet_nil ?_
            intro y
            have HSY := Lib.hid (KS.out y)
            clear y0 y1 y2 y3 y4 y5 y6 y7 y8 y9 y10 y11 hK3 HC3 hne KS HS2
            generalize y.w = w3 at *
            go_wp2_with fail
            refine wp_pre_tail 5 15 (fun w' => ∃ n, w' = w3.drewN n) (by kernel_rfl) (by kernel_rfl) ⟨1, rfl⟩ ?_
            simp only [List.take_succ_cons, List.take_zero, List.drop_succ_cons, List.drop_zero, Nat.reduceSub]
            generalize hK : (fun w' => ∃ n, w' = w3.drewN n) = K
            intro hne
            have kS : ∀ y : Wd K, St W y.w LY := by subst hK; exact fun y => by obtain ⟨n, e⟩ := y.h; rw [e]; exact HSY.out.drewN n
            have y0 : ∀ y : Wd K, y.w.cell? ⟨g, j * 6, none⟩ = some (.string a0) := fun y => (HCJ.out _ (kS y)).1.1
            have y1 : ∀ y : Wd K, y.w.cell? ⟨g, j * 6 + 1, none⟩ = some (.int .i64 a1) := fun y => (HCJ.out _ (kS y)).1.2.1
            have y2 : ∀ y : Wd K, y.w.cell? ⟨g, j * 6 + 2, none⟩ = some (.string a2) := fun y => (HCJ.out _ (kS y)).1.2.2.1
            have y3 : ∀ y : Wd K, y.w.cell? ⟨g, j * 6 + 3, none⟩ = some (.int .i64 a3) := fun y => (HCJ.out _ (kS y)).1.2.2.2.1
            have y4 : ∀ y : Wd K, y.w.cell? ⟨g, j * 6 + 4, none⟩ = some (.int .i64 a4) := fun y => (HCJ.out _ (kS y)).1.2.2.2.2.1
            have y5 : ∀ y : Wd K, y.w.cell? ⟨g, j * 6 + 5, none⟩ = some (.string a5) := fun y => (HCJ.out _ (kS y)).1.2.2.2.2.2
            have y6 : ∀ y : Wd K, y.w.cell? ⟨g, jp * 6, none⟩ = some (.string b0) := fun y => (HCK.out _ (kS y)).1.1
            have y7 : ∀ y : Wd K, y.w.cell? ⟨g, jp * 6 + 1, none⟩ = some (.int .i64 b1) := fun y => (HCK.out _ (kS y)).1.2.1
            have y8 : ∀ y : Wd K, y.w.cell? ⟨g, jp * 6 + 2, none⟩ = some (.string b2) := fun y => (HCK.out _ (kS y)).1.2.2.1
            have y9 : ∀ y : Wd K, y.w.cell? ⟨g, jp * 6 + 3, none⟩ = some (.int .i64 b3) := fun y => (HCK.out _ (kS y)).1.2.2.2.1
            have y10 : ∀ y : Wd K, y.w.cell? ⟨g, jp * 6 + 4, none⟩ = some (.int .i64 b4) := fun y => (HCK.out _ (kS y)).1.2.2.2.2.1
            have y11 : ∀ y : Wd K, y.w.cell? ⟨g, jp * 6 + 5, none⟩ = some (.string b5) := fun y => (HCK.out _ (kS y)).1.2.2.2.2.2
            have KS := Lib.hid kS
            clear hK kS
            change wpQuiet _ _ _ _ (_ :: _ :: _ :: _ :: _ :: []) _
            iterate 5 (go_big_quiet_step ((fail)))
            refine wpQuiet_nil ?_
            repeat (go_big_quiet_step ((fail)))
            refine wpQuiet_nil ?_
            intro y
            have hsy := KS.out y
            clear y0 y1 y2 y3 y4 y5 y6 y7 y8 y9 y10 y11 hne KS HSY
            generalize y.w = w4 at *
            obtain ⟨⟨c0, c1, c2, c3, c4, c5⟩, f0⟩ := HCJ.out _ hsy
            obtain ⟨⟨d0, d1, d2, d3, d4, d5⟩, _⟩ := HCK.out _ hsy
            have f00 := f0 (j * 6)
            have f01 := f0 (j * 6 + 1)
            have f02 := f0 (j * 6 + 2)
            have f03 := f0 (j * 6 + 3)
            have f04 := f0 (j * 6 + 4)
            have f05 := f0 (j * 6 + 5)
            have f10 := f0 (jp * 6)
            have f11 := f0 (jp * 6 + 1)
            have f12 := f0 (jp * 6 + 2)
            have f13 := f0 (jp * 6 + 3)
            have f14 := f0 (jp * 6 + 4)
            have f15 := f0 (jp * 6 + 5)
            have HSG := Lib.hid (HST.out _ hsy)
            have hne9 := HNE.out
            have n0_0 : j * 6 ≠ jp * 6 := by omega
            have n0_1 : j * 6 ≠ jp * 6 + 1 := by omega
            have n0_2 : j * 6 ≠ jp * 6 + 2 := by omega
            have n0_3 : j * 6 ≠ jp * 6 + 3 := by omega
            have n0_4 : j * 6 ≠ jp * 6 + 4 := by omega
            have n0_5 : j * 6 ≠ jp * 6 + 5 := by omega
            have n1_0 : j * 6 + 1 ≠ jp * 6 := by omega
            have n1_1 : j * 6 + 1 ≠ jp * 6 + 1 := by omega
            have n1_2 : j * 6 + 1 ≠ jp * 6 + 2 := by omega
            have n1_3 : j * 6 + 1 ≠ jp * 6 + 3 := by omega
            have n1_4 : j * 6 + 1 ≠ jp * 6 + 4 := by omega
            have n1_5 : j * 6 + 1 ≠ jp * 6 + 5 := by omega
            have n2_0 : j * 6 + 2 ≠ jp * 6 := by omega
            have n2_1 : j * 6 + 2 ≠ jp * 6 + 1 := by omega
            have n2_2 : j * 6 + 2 ≠ jp * 6 + 2 := by omega
            have n2_3 : j * 6 + 2 ≠ jp * 6 + 3 := by omega
            have n2_4 : j * 6 + 2 ≠ jp * 6 + 4 := by omega
            have n2_5 : j * 6 + 2 ≠ jp * 6 + 5 := by omega
            have n3_0 : j * 6 + 3 ≠ jp * 6 := by omega
            have n3_1 : j * 6 + 3 ≠ jp * 6 + 1 := by omega
            have n3_2 : j * 6 + 3 ≠ jp * 6 + 2 := by omega
            have n3_3 : j * 6 + 3 ≠ jp * 6 + 3 := by omega
            have n3_4 : j * 6 + 3 ≠ jp * 6 + 4 := by omega
            have n3_5 : j * 6 + 3 ≠ jp * 6 + 5 := by omega
            have n4_0 : j * 6 + 4 ≠ jp * 6 := by omega
            have n4_1 : j * 6 + 4 ≠ jp * 6 + 1 := by omega
            have n4_2 : j * 6 + 4 ≠ jp * 6 + 2 := by omega
            have n4_3 : j * 6 + 4 ≠ jp * 6 + 3 := by omega
            have n4_4 : j * 6 + 4 ≠ jp * 6 + 4 := by omega
            have n4_5 : j * 6 + 4 ≠ jp * 6 + 5 := by omega
            have n5_0 : j * 6 + 5 ≠ jp * 6 := by omega
            have n5_1 : j * 6 + 5 ≠ jp * 6 + 1 := by omega
            have n5_2 : j * 6 + 5 ≠ jp * 6 + 2 := by omega
            have n5_3 : j * 6 + 5 ≠ jp * 6 + 3 := by omega
            have n5_4 : j * 6 + 5 ≠ jp * 6 + 4 := by omega
            have n5_5 : j * 6 + 5 ≠ jp * 6 + 5 := by omega
            clear hsy f0 hne9
            go_wp2_with fail
            refine NoPanic.normal ?_
            go_wp2_with fail
            go_roundw
            case rel => exact ⟨jp, Y3, HLJ.out, by have := HJ1.out; omega, by go_num, HPN, HSG.out⟩
            case measure => have := HJ1.out; simp [intOf]; omega
          | false =>
            go_wp2_with fail
            refine wp_cls 16 (fun w' => St W w' LY) (by kernel_rfl) (by kernel_rfl) HS2.out.drew ?_
            simp only [List.take_succ_cons, List.take_zero, List.drop_succ_cons, List.drop_zero]
            generalize hK : (fun w' => St W w' LY) = K
            intro hne
            have kS : ∀ y : Wd K, St W y.w LY := by subst hK; exact fun y => y.h
            have hK3 : ∀ w w' : World, K w → Below w.heap.size w w' → K w' := by subst hK; exact fun w w' h h' => h.ext h'
            have HC3 : Hid (∀ y : Wd K, Calls Tryz.prog 38 #[.agg #[.string a0, .int .i64 a1, .string a2, .int .i64 a3, .int .i64 a4, .string a5], .agg #[.string b0, .int .i64 b1, .string b2, .int .i64 b3, .int .i64 b4, .string b5]] y.w fun e w2 => e = .returned (.int .i64 cv) ∧ ∃ z : Wd K, w2 = z.w) := fun y => cls_below hK3 (HCL.out _)
            have y0 : ∀ y : Wd K, y.w.cell? ⟨g, j * 6, none⟩ = some (.string a0) := fun y => (HCJ.out _ (kS y)).1.1
            have y1 : ∀ y : Wd K, y.w.cell? ⟨g, j * 6 + 1, none⟩ = some (.int .i64 a1) := fun y => (HCJ.out _ (kS y)).1.2.1
            have y2 : ∀ y : Wd K, y.w.cell? ⟨g, j * 6 + 2, none⟩ = some (.string a2) := fun y => (HCJ.out _ (kS y)).1.2.2.1
            have y3 : ∀ y : Wd K, y.w.cell? ⟨g, j * 6 + 3, none⟩ = some (.int .i64 a3) := fun y => (HCJ.out _ (kS y)).1.2.2.2.1
            have y4 : ∀ y : Wd K, y.w.cell? ⟨g, j * 6 + 4, none⟩ = some (.int .i64 a4) := fun y => (HCJ.out _ (kS y)).1.2.2.2.2.1
            have y5 : ∀ y : Wd K, y.w.cell? ⟨g, j * 6 + 5, none⟩ = some (.string a5) := fun y => (HCJ.out _ (kS y)).1.2.2.2.2.2
            have y6 : ∀ y : Wd K, y.w.cell? ⟨g, jp * 6, none⟩ = some (.string b0) := fun y => (HCK.out _ (kS y)).1.1
            have y7 : ∀ y : Wd K, y.w.cell? ⟨g, jp * 6 + 1, none⟩ = some (.int .i64 b1) := fun y => (HCK.out _ (kS y)).1.2.1
            have y8 : ∀ y : Wd K, y.w.cell? ⟨g, jp * 6 + 2, none⟩ = some (.string b2) := fun y => (HCK.out _ (kS y)).1.2.2.1
            have y9 : ∀ y : Wd K, y.w.cell? ⟨g, jp * 6 + 3, none⟩ = some (.int .i64 b3) := fun y => (HCK.out _ (kS y)).1.2.2.2.1
            have y10 : ∀ y : Wd K, y.w.cell? ⟨g, jp * 6 + 4, none⟩ = some (.int .i64 b4) := fun y => (HCK.out _ (kS y)).1.2.2.2.2.1
            have y11 : ∀ y : Wd K, y.w.cell? ⟨g, jp * 6 + 5, none⟩ = some (.string b5) := fun y => (HCK.out _ (kS y)).1.2.2.2.2.2
            have KS := Lib.hid kS
            clear hK kS
            go_big_quiet_step ((fail))
            go_big_quiet_step ((fail))
            go_big_quiet_step ((fail))
            go_big_quiet_step ((fail))
            go_big_quiet_step ((fail))
            go_big_quiet_step ((fail))
            go_big_quiet_step ((fail))
            go_big_quiet_step ((fail))
            go_big_quiet_step ((fail))
            go_big_quiet_step ((fail))
            go_big_quiet_step ((fail))
            go_big_quiet_step ((fail))
            go_big_quiet_step ((fail))
            go_big_quiet_step ((fail))
            go_big_quiet_step ((exact HC3.out _))
            go_big_quiet_step ((fail))
            refine wpQuiet_nil ?_
            intro y
            have HSY := Lib.hid (KS.out y)
            clear y0 y1 y2 y3 y4 y5 y6 y7 y8 y9 y10 y11 hK3 HC3 hne KS HS2
            generalize y.w = w3 at *
            have hsy := HSY.out
            rw [HLY.out] at hsy
            have HSF := Lib.hid hsy
            clear hsy HSY
            go_wp2_with fail
            go_roundw
            case rel => exact ⟨k + 1, Y2, by omega, by omega, by go_num, hp2, HSF.out⟩
            case measure => simp [intOf]; omega
    · go_wp2_with fail
      go_end0
      exact ⟨rfl, Y1, hp1.out, HS1.out⟩
end Go.Proofs.YtnaafefcijgpkaaGreatDoor
