/- Part 13 of the walks of the golf union's program: WM1. -/
import Derived.Test.YtlffgdmljioaoaaGreatDoorD11
import Derived.Test.YtlffgdmljioaoaaGreatDoorD12
import Derived.Outline
set_option linter.unusedVariables false
set_option linter.unusedSimpArgs false
set_option linter.unusedSectionVars false
set_option linter.constructorNameAsVariable false
/- Walks: (*matching).add. -/
namespace Go.Proofs.YtlffgdmljioaoaaGreatDoor
open Go.RowKit Go.Mem Go.Sheet
theorem zc191 : Tryz.zeroCells180 = (intsV (List.replicate 218 0)).toArray := by kernel_rfl
theorem zc191n : Tryz.zeroCells180 = (natsV (List.replicate 218 0)).toArray := by kernel_rfl
theorem zc258 : Tryz.zeroCells207 = (boolsV (List.replicate 218 false)).toArray := by kernel_rfl
/-- what add holds -/
def adL (g la wy rc : Nat) (M : Mt) (least : List Int) (way : List Nat) (re : List Bool) (L : List Asr) : List Asr :=
  blk g 184 (cellsM M).toArray :: blk la 180 (intsV least).toArray :: blk wy 180 (natsV way).toArray :: blk rc 207 (boolsV re).toArray :: L
section
variable {W w : World} {g la wy rc : Nat} {M : Mt} {least : List Int} {way : List Nat} {re : List Bool} {L : List Asr}
theorem adL_taken (S : St W w (adL g la wy rc M least way re L)) (Ls : MLens M) {k : Nat} (h : k < 218) : w.cell? ⟨g, 5913 + k, none⟩ = some (.int .i64 (M.taken.getD k 0 : Nat)) := by
  rw [S.blk_cell (i := 0) rfl, List.getElem?_toArray, cM_taken Ls h]
theorem adL_row (S : St W w (adL g la wy rc M least way re L)) (Ls : MLens M) {k : Nat} (h : k < 25) : w.cell? ⟨g, 5670 + k, none⟩ = some (.int .i64 (M.row.getD k 0)) := by
  rw [S.blk_cell (i := 0) rfl, List.getElem?_toArray, cM_row Ls h]
theorem adL_col (S : St W w (adL g la wy rc M least way re L)) (Ls : MLens M) {k : Nat} (h : k < 218) : w.cell? ⟨g, 5695 + k, none⟩ = some (.int .i64 (M.col.getD k 0)) := by
  rw [S.blk_cell (i := 0) rfl, List.getElem?_toArray, cM_col Ls h]
theorem adL_worth (S : St W w (adL g la wy rc M least way re L)) {r k : Nat} (hr : r < 25) (h : k < 218) : w.cell? ⟨g, r * 218 + k, none⟩ = some (.int .i64 (M.worth r k)) := by
  rw [S.blk_cell (i := 0) rfl, List.getElem?_toArray, cM_worth M hr h]
theorem adL_n (S : St W w (adL g la wy rc M least way re L)) : w.cell? ⟨g, 5669, none⟩ = some (.int .i64 M.n) := by
  rw [S.blk_cell (i := 0) rfl, List.getElem?_toArray, cM_n M]
theorem adL_g (S : St W w (adL g la wy rc M least way re L)) (k : Nat) : w.frozen? ⟨g, k, none⟩ = false := S.blk_frozen (i := 0) rfl k
theorem adL_least (S : St W w (adL g la wy rc M least way re L)) (hl : least.length = 218) {k : Nat} (h : k < 218) : w.cell? ⟨la, k, none⟩ = some (.int .i64 (least.getD k 0)) := by
  rw [S.blk_cell (i := 1) rfl, List.getElem?_toArray, intsV_at _ _ (by omega)]
theorem adL_la (S : St W w (adL g la wy rc M least way re L)) (k : Nat) : w.frozen? ⟨la, k, none⟩ = false := S.blk_frozen (i := 1) rfl k
theorem adL_way (S : St W w (adL g la wy rc M least way re L)) (hl : way.length = 218) {k : Nat} (h : k < 218) : w.cell? ⟨wy, k, none⟩ = some (.int .i64 (way.getD k 0 : Nat)) := by
  rw [S.blk_cell (i := 2) rfl, List.getElem?_toArray, natsV_at _ _ (by omega)]
theorem adL_wy (S : St W w (adL g la wy rc M least way re L)) (k : Nat) : w.frozen? ⟨wy, k, none⟩ = false := S.blk_frozen (i := 2) rfl k
theorem adL_re (S : St W w (adL g la wy rc M least way re L)) (hl : re.length = 218) {k : Nat} (h : k < 218) : w.cell? ⟨rc, k, none⟩ = some (.bool (re.getD k false)) := by
  rw [S.blk_cell (i := 3) rfl, List.getElem?_toArray, boolsV_at _ _ (by omega)]
theorem adL_rc (S : St W w (adL g la wy rc M least way re L)) (k : Nat) : w.frozen? ⟨rc, k, none⟩ = false := S.blk_frozen (i := 3) rfl k
theorem adS_least (S : St W w (adL g la wy rc M least way re L)) (k : Nat) (x : Int) : St W (w.setCell ⟨la, k, none⟩ (.int .i64 x)) (adL g la wy rc M (least.set k x) way re L) := by
  have := S.blk_set (i := 1) rfl k (.int .i64 x)
  simpa only [adL, List.set_cons_zero, List.set_cons_succ, List.setIfInBounds_toArray, intsV_set] using this
theorem adS_way (S : St W w (adL g la wy rc M least way re L)) (k : Nat) (x : Nat) : St W (w.setCell ⟨wy, k, none⟩ (.int .i64 (x : Int))) (adL g la wy rc M least (way.set k x) re L) := by
  have := S.blk_set (i := 2) rfl k (.int .i64 (x : Int))
  simpa only [adL, List.set_cons_zero, List.set_cons_succ, List.setIfInBounds_toArray, natsV_set] using this
theorem adS_re (S : St W w (adL g la wy rc M least way re L)) (k : Nat) (x : Bool) : St W (w.setCell ⟨rc, k, none⟩ (.bool x)) (adL g la wy rc M least way (re.set k x) L) := by
  have := S.blk_set (i := 3) rfl k (.bool x)
  simpa only [adL, List.set_cons_zero, List.set_cons_succ, List.setIfInBounds_toArray, boolsV_set] using this
theorem adS_taken (S : St W w (adL g la wy rc M least way re L)) (Ls : MLens M) (k x : Nat) : St W (w.setCell ⟨g, 5913 + k, none⟩ (.int .i64 (x : Int))) (adL g la wy rc { M with taken := M.taken.set k x } least way re L) := by
  have := S.blk_set (i := 0) rfl (5913 + k) (.int .i64 (x : Int))
  simpa only [adL, List.set_cons_zero, List.set_cons_succ, List.setIfInBounds_toArray, sM_taken Ls] using this
theorem adS_row (S : St W w (adL g la wy rc M least way re L)) (Ls : MLens M) {k : Nat} (h : k < 25) (x : Int) : St W (w.setCell ⟨g, 5670 + k, none⟩ (.int .i64 x)) (adL g la wy rc { M with row := M.row.set k x } least way re L) := by
  have := S.blk_set (i := 0) rfl (5670 + k) (.int .i64 x)
  simpa only [adL, List.set_cons_zero, List.set_cons_succ, List.setIfInBounds_toArray, sM_row Ls h] using this
theorem adS_col (S : St W w (adL g la wy rc M least way re L)) (Ls : MLens M) {k : Nat} (h : k < 218) (x : Int) : St W (w.setCell ⟨g, 5695 + k, none⟩ (.int .i64 x)) (adL g la wy rc { M with col := M.col.set k x } least way re L) := by
  have := S.blk_set (i := 0) rfl (5695 + k) (.int .i64 x)
  simpa only [adL, List.set_cons_zero, List.set_cons_succ, List.setIfInBounds_toArray, sM_col Ls h] using this
end
theorem fill_step (k : Nat) (h : k < 218) : (List.replicate k far4 ++ List.replicate (218 - k) 0).set k far4 = List.replicate (k + 1) far4 ++ List.replicate (218 - (k + 1)) 0 := by
  have e := app_set (a := List.replicate k far4) (b := List.replicate (218 - k) 0) (n := k) List.length_replicate 0 far4
  rw [Nat.add_zero] at e
  rw [e, show 218 - k = (218 - (k + 1)) + 1 by omega, List.replicate_succ, List.set_cons_zero, List.replicate_succ', List.append_assoc]
  rfl
theorem perm3 {α : Type} (a b c : α) (L : List α) : (a :: b :: c :: L).Perm (c :: b :: a :: L) :=
  (List.Perm.swap b a (c :: L)).trans ((List.Perm.cons b (List.Perm.swap c a L)).trans (List.Perm.swap c b (a :: L)))
theorem W64_eq (n : Int) : W64 n = wrap64 n := by unfold W64 wrap64; rfl
theorem scan_pos {d : Nat → Int} {at_ k : Nat} {s : Scan} {D xl : Int} (hd : D = d k) (hl : s.least.getD k 0 = xl) (hk : k < s.least.length) (h : D < xl) :
    scanB k (scanA (d k) at_ k s) = if D < s.delta then ⟨s.least.set k D, s.way.set k at_, D, k⟩ else ⟨s.least.set k D, s.way.set k at_, s.delta, s.next⟩ := by
  rw [scanA, if_pos (by rw [hl, ← hd]; exact h), scanB]
  simp only [getD_set, ← hd, true_and, if_pos hk]
theorem scan_neg {d : Nat → Int} {at_ k : Nat} {s : Scan} {D xl : Int} (hd : D = d k) (hl : s.least.getD k 0 = xl) (h : ¬ D < xl) :
    scanB k (scanA (d k) at_ k s) = if xl < s.delta then ⟨s.least, s.way, xl, k⟩ else s := by
  rw [scanA, if_neg (by rw [hl, ← hd]; exact h), scanB, hl]
theorem way_set {n : Nat} {way : List Nat} (h : ∀ j, way.getD j 0 ≤ n) (k : Nat) {a : Nat} (ha : a ≤ n) : ∀ j, (way.set k a).getD j 0 ≤ n := by
  intro j
  rw [getD_set]
  split
  · exact ha
  · exact h j
structure AdOk (n : Nat) (A : Ad) : Prop where
  len : Lens A
  at_ : A.at_ ≤ n
  way : ∀ k, A.way.getD k 0 ≤ n
structure TkOk (n : Nat) (tk : List Nat) : Prop where
  len : tk.length = 218
  le : ∀ k, k ≤ n → tk.getD k 0 ≤ 24
def adM (M : Mt) (tk : List Nat) (row col : List Int) : Mt := { M with row := row, col := col, taken := tk }
def AddR (W0 : World) (g la wy rc : Nat) (M : Mt) (tk : List Nat) (Z : Ad) (L : List Asr) (f : Nat) (at_ : Value) (w' : World) : Prop :=
  ∃ A : Ad, at_ = .int .i64 A.at_ ∧ AdOk M.n A ∧ St W0 w' (adL g la wy rc (adM M tk A.row A.col) A.least A.way A.re L) ∧ addLoop M.worth M.n tk f A = some Z
def ScanR (W0 : World) (g la wy rc : Nat) (M : Mt) (n : Nat) (re : List Bool) (L : List Asr) (d : Nat → Int) (at_ : Nat) (T : Scan) (dl nx kk : Value) (w' : World) : Prop :=
  ∃ (k : Nat) (s : Scan), 1 ≤ k ∧ k ≤ n + 1 ∧ dl = .int .i64 s.delta ∧ nx = .int .i64 s.next ∧ kk = .int .i64 k ∧ s.next ≤ n ∧ s.least.length = 218 ∧ s.way.length = 218 ∧ (∀ j, s.way.getD j 0 ≤ n) ∧
    St W0 w' (adL g la wy rc M s.least s.way re L) ∧ scan d at_ re (n + 1 - k) k s = T
def UpdR (W0 : World) (g la wy rc : Nat) (M : Mt) (n : Nat) (tk : List Nat) (way : List Nat) (re : List Bool) (L : List Asr) (dl : Int) (T : Upd) (kk : Value) (w' : World) : Prop :=
  ∃ (k : Nat) (s : Upd), k ≤ n + 1 ∧ kk = .int .i64 k ∧ s.row.length = 25 ∧ s.col.length = 218 ∧ s.least.length = 218 ∧ St W0 w' (adL g la wy rc (adM M tk s.row s.col) s.least way re L) ∧ upd tk re dl (n + 1 - k) k s = T
def BackR (W0 : World) (g la wy rc : Nat) (M : Mt) (n : Nat) (least : List Int) (way : List Nat) (re : List Bool) (L : List Asr) (Q : List Nat) (f : Nat) (at_ : Value) (w' : World) : Prop :=
  ∃ (q : List Nat) (c : Nat), at_ = .int .i64 c ∧ c ≤ n ∧ TkOk n q ∧ St W0 w' (adL g la wy rc { M with taken := q } least way re L) ∧ back way f q c = some Q
set_option maxRecDepth 100000 in
set_option maxHeartbeats 4000000 in
theorem add_run (W0 w : World) (g : Nat) (i : Nat) (M : Mt) (L : List Asr) (S : St W0 w (blk g 184 (cellsM M).toArray :: L)) (Ls : MLens M) (hn : M.n ≤ 217) (htk : TkOk M.n (M.taken.set 0 i)) (Z : Ad) (hZ : addLoop M.worth M.n (M.taken.set 0 i) (M.n + 1) (ad0 M.row M.col) = some Z) (Q : List Nat) (hQ : back Z.way (M.n + 1) (M.taken.set 0 i) Z.at_ = some Q) :
    Calls Tryz.prog 130 #[.pointer (some ⟨g, 0, none⟩), .int .i64 i] w fun e w' => e = .returned (.tuple #[]) ∧ St W0 w' (blk g 184 (cellsM { M with row := Z.row, col := Z.col, taken := Q }).toArray :: L) := by
  have S3 : St W0 (((w.alloc (.cells Tryz.zeroCells180 180)).alloc (.cells Tryz.zeroCells180 180)).alloc (.cells Tryz.zeroCells207 207)) (adL g w.heap.size (w.heap.size + 1) (w.heap.size + 1 + 1) M (List.replicate 0 far4 ++ List.replicate (218 - 0) 0) (List.replicate 218 0) (List.replicate 218 false) L) := by
    have := ((S.blk_new2 Tryz.zeroCells180 180).blk_new2 Tryz.zeroCells180 180).blk_new2 Tryz.zeroCells207 207
    simp only [World.size_alloc] at this
    have e : adL g w.heap.size (w.heap.size + 1) (w.heap.size + 1 + 1) M (List.replicate 0 far4 ++ List.replicate (218 - 0) 0) (List.replicate 218 0) (List.replicate 218 false) L =
        blk g 184 (cellsM M).toArray :: blk w.heap.size 180 Tryz.zeroCells180 :: blk (w.heap.size + 1) 180 Tryz.zeroCells180 :: blk (w.heap.size + 1 + 1) 207 Tryz.zeroCells207 :: L := by
      rw [adL, List.replicate_zero, List.nil_append, Nat.sub_zero, ← zc191n, ← zc191, ← zc258]
    rw [e]
    exact this.perm (.cons _ (perm3 _ _ _ _))
  have HZ := Lib.hid hZ
  have HQ := Lib.hid hQ
  clear hZ S hQ
  obtain ⟨mu, hmu⟩ := least
  go_enter Tryz.func130, Tryz.ntmps130
  go_wp2
  generalize ((w.alloc (.cells Tryz.zeroCells180 180)).alloc (.cells Tryz.zeroCells180 180)).alloc (.cells Tryz.zeroCells207 207) = w3 at *
  generalize w.heap.size = la at *
  go_loopw [15] (fun i w' => ∃ k : Nat, k ≤ 218 ∧ i = .int .i64 k ∧ St W0 w' (adL g la (la + 1) (la + 1 + 1) M (List.replicate k far4 ++ List.replicate (218 - k) 0) (List.replicate 218 0) (List.replicate 218 false) L)) (fun i _ => 218 - (intOf i).toNat)
  case atStart => exact ⟨0, Nat.zero_le _, rfl, S3⟩
  case round =>
    obtain ⟨k, hk, rfl, S4⟩ := hrel
    clear S3
    by_cases hlt : k < 218
    · have c0 := adL_least S4 (by simp; omega) hlt
      have z0 := adL_la S4 k
      have S5 := adS_least S4 k far4
      rw [fill_step k hlt] at S5
      have HS := Lib.hid S5
      clear S5 S4
      go_wp2
      go_roundw
      case rel => exact ⟨k + 1, by omega, by go_num, HS.out⟩
      case measure => simp [intOf]; omega
    · have hkk : k = 218 := by omega
      obtain ⟨c218, h218⟩ : ∃ c : Int, c = (k : Int) := ⟨_, rfl⟩
      rw [← h218]
      rw [hkk] at S4
      have hc218 : 218 ≤ c218 := by omega
      clear h218 hkk hlt hk
      have c0 := adL_taken S4 Ls (k := 0) (by omega)
      have z0 := adL_g S4 5913
      rw [Nat.add_zero] at c0
      have S5 := adS_taken S4 Ls 0 i
      rw [Nat.add_zero, Nat.sub_self, List.replicate_zero, List.append_nil] at S5
      have HR : Hid (AddR W0 g la (la + 1) (la + 1 + 1) M (M.taken.set 0 i) Z L (M.n + 1) (.int .i64 0) (wr.setCell ⟨g, 5913, none⟩ (.int .i64 i))) :=
        ⟨ad0 M.row M.col, rfl, ⟨⟨Ls.row, Ls.col, List.length_replicate, List.length_replicate, List.length_replicate⟩, Nat.zero_le _, fun k => by rw [show (ad0 M.row M.col).way = List.replicate 218 0 from rfl, rep0]; exact Nat.zero_le _⟩, S5, HZ.out⟩
      clear S5 S4 HZ
      generalize M.taken.set 0 i = tk at *
      go_wp2
      go_loopw [8] (fun at_ w' => ∃ f, AddR W0 g la (la + 1) (la + 1 + 1) M tk Z L f at_ w') (fun at_ w' => mu fun f => AddR W0 g la (la + 1) (la + 1 + 1) M tk Z L f at_ w')
      case atStart => exact ⟨M.n + 1, HR.out⟩
      case round =>
        clear HR c0 z0
        have hR0 := (hmu _ hrel).1
        generalize hm : mu (fun f => AddR W0 g la (la + 1) (la + 1 + 1) M tk Z L f u8 wr) = f0 at hR0
        have HM := Lib.hid hm
        clear hm hrel
        obtain ⟨A, rfl, hA, S, hL⟩ := hR0
        have hatN := hA.at_
        have hat8 : A.at_ < 218 := by omega
        have Lm : MLens (adM M tk A.row A.col) := ⟨hA.len.row, hA.len.col, htk.len⟩
        have c1 := adL_taken S Lm hat8
        have hr24 := htk.le A.at_ hatN
        have HTK : Hid ((adM M tk A.row A.col).taken.getD A.at_ 0 = tk.getD A.at_ 0) := rfl
        rw [HTK.out] at c1
        generalize hr : tk.getD A.at_ 0 = r at c1 hr24
        have HRR := Lib.hid hr
        clear hr HTK
        have HLL := Lib.hid hL
        clear hL
        by_cases hr0 : r = 0
        · have hb : ((r : Int) != 0) = false := by simpa using hr0
          have hZA : Hid (Z = A) := by
            show Z = A
            have h := HLL.out
            have h2 := HRR.out
            rw [hr0] at h2
            cases f0 with
            | zero => rw [addLoop, if_pos h2] at h; exact (Option.some.inj h).symm
            | succ f => rw [addLoop, if_pos h2] at h; exact (Option.some.inj h).symm
          have hZA2 := hZA.out
          subst hZA2
          have hK : Hid (BackR W0 g la (la + 1) (la + 1 + 1) (adM M tk Z.row Z.col) M.n Z.least Z.way Z.re L Q (M.n + 1) (.int .i64 Z.at_) wr) :=
            ⟨tk, Z.at_, rfl, hatN, htk, S, HQ.out⟩
          clear S HLL hZA
          go_wp2
          obtain ⟨wo, rfl⟩ : ∃ wo : World, wo = wr := ⟨_, rfl⟩
          clear c1
          go_loopw [8] (fun at_ w' => ∃ f, BackR W0 g la (la + 1) (la + 1 + 1) (adM M tk Z.row Z.col) M.n Z.least Z.way Z.re L Q f at_ w') (fun at_ w' => mu fun f => BackR W0 g la (la + 1) (la + 1 + 1) (adM M tk Z.row Z.col) M.n Z.least Z.way Z.re L Q f at_ w')
          case atStart => exact ⟨M.n + 1, hK.out⟩
          case round =>
            clear hK
            have hR0 := (hmu _ hrel).1
            generalize hm : mu (fun f => BackR W0 g la (la + 1) (la + 1 + 1) (adM M tk Z.row Z.col) M.n Z.least Z.way Z.re L Q f u8 wr) = f0 at hR0
            have HM := Lib.hid hm
            clear hm hrel
            obtain ⟨q, c, rfl, hcN, hq, S, hB⟩ := hR0
            have HB := Lib.hid hB
            clear hB
            by_cases hc0 : c = 0
            · have hb2 : ((c : Int) != 0) = false := by simpa using hc0
              have hQ : Hid (q = Q) := by
                show q = Q
                have h := HB.out
                cases f0 with
                | zero => rw [back, if_pos hc0] at h; exact Option.some.inj h
                | succ f => rw [back, if_pos hc0] at h; exact Option.some.inj h
              have HS := Lib.hid (S.sub (L' := blk g 184 (cellsM { adM M tk Z.row Z.col with taken := q }).toArray :: L) (.cons_cons _ (.cons _ (.cons _ (.cons _ (List.Sublist.refl _))))))
              rw [hQ.out] at HS
              clear S HB
              go_wp2
              go_end0
              exact ⟨rfl, HS.out⟩
            · have hb2 : ((c : Int) != 0) = true := by simpa using hc0
              obtain ⟨f, rfl⟩ : ∃ f, f0 = f + 1 := by
                cases f0 with
                | zero => exfalso; have h := HB.out; rw [back, if_neg hc0] at h; cases h
                | succ f => exact ⟨f, rfl⟩
              have h := HB.out
              rw [back, if_neg hc0] at h
              have hc8 : c < 218 := by omega
              have cy := adL_way S hA.len.way hc8
              have hdN := hA.way c
              generalize hdd : Z.way.getD c 0 = d at *
              have HDD := Lib.hid hdd
              clear hdd
              have hd8 : d < 218 := by omega
              have Lq : MLens { adM M tk Z.row Z.col with taken := q } := ⟨Lm.row, Lm.col, hq.len⟩
              have cd := adL_taken S Lq hd8
              have hx24 := hq.le d hdN
              rw [show ({ adM M tk Z.row Z.col with taken := q } : Mt).taken.getD d 0 = q.getD d 0 from rfl] at cd
              have zg := adL_g S (5913 + c)
              have cc := adL_taken S Lq hc8
              have S1 := adS_taken S Lq c (q.getD d 0)
              have hq' : TkOk M.n (q.set c (q.getD d 0)) := ⟨by rw [List.length_set]; exact hq.len, fun k hk => by
                rw [getD_set]
                split
                · exact hx24
                · exact hq.le k hk⟩
              have HN : Hid (BackR W0 g la (la + 1) (la + 1 + 1) (adM M tk Z.row Z.col) M.n Z.least Z.way Z.re L Q f (.int .i64 d) (wr.setCell ⟨g, 5913 + c, none⟩ (.int .i64 ((q.getD d 0 : Nat) : Int))).drew) :=
                ⟨q.set c (q.getD d 0), d, rfl, hdN, hq', S1.drew, h⟩
              have cy2 : (wr.setCell ⟨g, 5913 + c, none⟩ (.int .i64 ((q.getD d 0 : Nat) : Int))).cell? ⟨la + 1, c, none⟩ = some (.int .i64 (d : Int)) := by
                have := adL_way S1 hA.len.way hc8
                rwa [HDD.out] at this
              clear h HB S S1
              generalize q.getD d 0 = x at *
              go_wp2
              go_region
              go_wp2
              go_roundw
              case rel => exact ⟨f, HN.out⟩
              case measure => exact hmu.lt HN.out (by rw [HM.out]; exact Nat.lt_succ_self f)
        · have hb : ((r : Int) != 0) = true := by simpa using hr0
          obtain ⟨f, rfl⟩ : ∃ f, f0 = f + 1 := by
            cases f0 with
            | zero => exfalso; have h := HLL.out; rw [addLoop, if_neg (by rw [HRR.out]; exact hr0)] at h; cases h
            | succ f => exact ⟨f, rfl⟩
          have HLR : Hid (addLoop M.worth M.n tk f (Go.Sheet.round M.worth M.n tk A) = some Z) := by
            have h := HLL.out
            rw [addLoop_succ (by rw [HRR.out]; exact hr0)] at h
            exact h
          have cr := adL_re S hA.len.re hat8
          have zr := adL_rc S A.at_
          have S1 := adS_re S A.at_ true
          have c1' : (wr.setCell ⟨la + 1 + 1, A.at_, none⟩ (.bool true)).cell? ⟨g, 5913 + A.at_, none⟩ = some (.int .i64 (r : Int)) := by
            have := adL_taken S1 Lm hat8
            rwa [show (adM M tk A.row A.col).taken.getD A.at_ 0 = r from HRR.out] at this
          have h1 : Hid (ScanR W0 g la (la + 1) (la + 1 + 1) (adM M tk A.row A.col) M.n (A.re.set A.at_ true) L (scanD M.worth A.row A.col r) A.at_ (roundS M.worth M.n tk A) (.int .i64 far4) (.int .i64 0) (.int .i64 1) (wr.setCell ⟨la + 1 + 1, A.at_, none⟩ (.bool true))) :=
            ⟨1, ⟨A.least, A.way, far4, 0⟩, Nat.le_refl _, by omega, rfl, rfl, rfl, Nat.zero_le _, hA.len.least, hA.len.way, hA.way, S1, by rw [roundS, HRR.out]; rfl⟩
          clear S HLL
          go_wp2
          obtain ⟨wo, rfl⟩ : ∃ wo : World, wo = wr := ⟨_, rfl⟩
          generalize wo.setCell ⟨la + 1 + 1, A.at_, none⟩ (.bool true) = w5 at *
          have hre : (A.re.set A.at_ true).length = 218 := by rw [List.length_set]; exact hA.len.re
          generalize hrs : A.re.set A.at_ true = re at *
          have HRS := Lib.hid hrs
          have HRE := Lib.hid hre
          clear hrs hre cr zr S1 c1 c1'
          go_loopw [10, 11, 12] (fun dl nx kk w' => ScanR W0 g la (la + 1) (la + 1 + 1) (adM M tk A.row A.col) M.n re L (scanD M.worth A.row A.col r) A.at_ (roundS M.worth M.n tk A) dl nx kk w') (fun _ _ kk _ => M.n + 1 - (intOf kk).toNat)
          case atStart => exact h1.out
          case round =>
            clear h1
            obtain ⟨k, s, hk1, hkn, rfl, rfl, rfl, hsn, hsl, hsw, hway, S, hs⟩ := hrel
            have HS := Lib.hid hs
            have HSL := Lib.hid hsl
            have HSW := Lib.hid hsw
            have HWAY := Lib.hid hway
            clear hs hsl hsw hway
            have cn := adL_n S
            rw [show (adM M tk A.row A.col).n = M.n from rfl] at cn
            by_cases hlt : k ≤ M.n
            · have hk8 : k < 218 := by omega
              have hr25 : r < 25 := by omega
              have hle : decide ((k : Int) ≤ M.n) = true := by simpa using hlt
              have cr := adL_re S HRE.out hk8
              have hst : M.n + 1 - k = (M.n + 1 - (k + 1)) + 1 := by omega
              have hs2 := HS.out
              rw [hst, scan] at hs2
              have HS2 := Lib.hid hs2
              clear hst hs2 HS
              cases hb2 : re.getD k false with
              | true =>
                rw [hb2] at cr
                have hs3 := HS2.out
                rw [scan1, if_pos hb2] at hs3
                have HS3 := Lib.hid hs3
                have HSS := Lib.hid S
                clear hs3 HS2 hb2 S
                go_wp2
                go_roundw
                case rel => exact ⟨k + 1, s, by omega, by omega, rfl, rfl, by go_num, hsn, HSL.out, HSW.out, HWAY.out, HSS.out, HS3.out⟩
                case measure => simp [intOf]; omega
              | false =>
                rw [hb2] at cr
                have hs3 := HS2.out
                rw [scan1, if_neg (by rw [hb2]; decide)] at hs3
                have HS3 := Lib.hid hs3
                have cu := adL_row S Lm hr25
                have cv := adL_col S Lm hk8
                have cw := adL_worth S hr25 hk8
                have cl := adL_least S HSL.out hk8
                rw [show (adM M tk A.row A.col).row = A.row from rfl] at cu
                rw [show (adM M tk A.row A.col).col = A.col from rfl] at cv
                rw [show (adM M tk A.row A.col).worth = M.worth from rfl] at cw
                generalize hd : scanD M.worth A.row A.col r = d at *
                have HD : Hid (W64 (W64 (A.row.getD r 0 + A.col.getD k 0) - M.worth r k) = d k) := by rw [← hd]; rfl
                clear hs3 HS2 hb2 hd
                generalize A.row.getD r 0 = xu at *
                generalize A.col.getD k 0 = xv at *
                generalize M.worth r k = xw at *
                generalize hsk : s.least.getD k 0 = xl at *
                have HSK := Lib.hid hsk
                clear hsk
                have zl := adL_la S k
                have zw := adL_wy S k
                have cwy := adL_way S HSW.out hk8
                have HDE := Lib.hid (show wrap64 (wrap64 (xu + xv) - xw) = d k by rw [← W64_eq, ← W64_eq]; exact HD.out)
                by_cases h1 : wrap64 (wrap64 (xu + xv) - xw) < xl
                · have e1 := scan_pos (at_ := A.at_) HDE.out HSK.out (by rw [HSL.out]; exact hk8) h1
                  by_cases h2 : wrap64 (wrap64 (xu + xv) - xw) < s.delta
                  · rw [if_pos h2] at e1
                    have HE := Lib.hid e1
                    clear e1
                    go_wp2
                    go_quiet (fail)
                    have HS1 := Lib.hid (adS_way (adS_least (S.drewN nq) k (wrap64 (wrap64 (xu + xv) - xw))) k A.at_)
                    clear S
                    go_wp2
                    go_roundw
                    case rel => exact ⟨k + 1, ⟨s.least.set k (wrap64 (wrap64 (xu + xv) - xw)), s.way.set k A.at_, wrap64 (wrap64 (xu + xv) - xw), k⟩, by omega, by omega, rfl, rfl, by go_num, hlt, by rw [List.length_set]; exact HSL.out, by rw [List.length_set]; exact HSW.out, way_set HWAY.out k hatN, HS1.out, by rw [← HE.out]; exact HS3.out⟩
                    case measure => simp [intOf]; omega
                  · rw [if_neg h2] at e1
                    have HE := Lib.hid e1
                    clear e1
                    go_wp2
                    go_quiet (fail)
                    have HS1 := Lib.hid (adS_way (adS_least (S.drewN nq) k (wrap64 (wrap64 (xu + xv) - xw))) k A.at_)
                    clear S
                    go_wp2
                    go_roundw
                    case rel => exact ⟨k + 1, ⟨s.least.set k (wrap64 (wrap64 (xu + xv) - xw)), s.way.set k A.at_, s.delta, s.next⟩, by omega, by omega, rfl, rfl, by go_num, hsn, by rw [List.length_set]; exact HSL.out, by rw [List.length_set]; exact HSW.out, way_set HWAY.out k hatN, HS1.out, by rw [← HE.out]; exact HS3.out⟩
                    case measure => simp [intOf]; omega
                · have e1 := scan_neg (at_ := A.at_) HDE.out HSK.out h1
                  by_cases h2 : xl < s.delta
                  · rw [if_pos h2] at e1
                    have HE := Lib.hid e1
                    clear e1
                    go_wp2
                    go_quiet (fail)
                    have HS1 := Lib.hid (S.drewN nq)
                    clear S
                    go_wp2
                    go_roundw
                    case rel => exact ⟨k + 1, ⟨s.least, s.way, xl, k⟩, by omega, by omega, rfl, rfl, by go_num, hlt, HSL.out, HSW.out, HWAY.out, HS1.out, by rw [← HE.out]; exact HS3.out⟩
                    case measure => simp [intOf]; omega
                  · rw [if_neg h2] at e1
                    have HE := Lib.hid e1
                    clear e1
                    go_wp2
                    go_quiet (fail)
                    have HS1 := Lib.hid (S.drewN nq)
                    clear S
                    go_wp2
                    go_roundw
                    case rel => exact ⟨k + 1, s, by omega, by omega, rfl, rfl, by go_num, hsn, HSL.out, HSW.out, HWAY.out, HS1.out, by rw [← HE.out]; exact HS3.out⟩
                    case measure => simp [intOf]; omega
            · have hle : decide ((k : Int) ≤ M.n) = false := by simp; omega
              obtain rfl : k = M.n + 1 := by omega
              have hs2 := HS.out
              rw [Nat.sub_self, scan] at hs2
              subst hs2
              obtain ⟨T, hT⟩ : ∃ T, T = roundS M.worth M.n tk A := ⟨_, rfl⟩
              rw [← hT] at hsn S HSL HSW HWAY ⊢
              have h2 : Hid (UpdR W0 g la (la + 1) (la + 1 + 1) M M.n tk T.way re L T.delta (roundU M.worth M.n tk A) (.int .i64 0) wr) :=
                ⟨0, ⟨A.row, A.col, T.least⟩, Nat.zero_le _, rfl, hA.len.row, hA.len.col, HSL.out, S, by rw [roundU, ← hT, HRS.out]; rfl⟩
              have HT := Lib.hid hT
              clear hT S HS HSL
              go_wp2
              obtain ⟨wo2, rfl⟩ : ∃ wo2 : World, wo2 = wr := ⟨_, rfl⟩
              clear cn
              go_loopw [14] (fun kk w' => UpdR W0 g la (la + 1) (la + 1 + 1) M M.n tk T.way re L T.delta (roundU M.worth M.n tk A) kk w') (fun kk _ => M.n + 1 - (intOf kk).toNat)
              case atStart => exact h2.out
              case round =>
                clear h2
                obtain ⟨k, s, hkn, rfl, hsr, hsc, hsl, S, hs⟩ := hrel
                have HS := Lib.hid hs
                have Lm2 : MLens (adM M tk s.row s.col) := ⟨hsr, hsc, htk.len⟩
                have HSR := Lib.hid hsr
                have HSC := Lib.hid hsc
                have HSL := Lib.hid hsl
                clear hs hsr hsc hsl
                have cn := adL_n S
                rw [show (adM M tk s.row s.col).n = M.n from rfl] at cn
                by_cases hlt : k ≤ M.n
                · have hk8 : k < 218 := by omega
                  have hle : decide ((k : Int) ≤ M.n) = true := by simpa using hlt
                  have cr := adL_re S HRE.out hk8
                  have hst : M.n + 1 - k = (M.n + 1 - (k + 1)) + 1 := by omega
                  have hs2 := HS.out
                  rw [hst, upd] at hs2
                  have HS2 := Lib.hid hs2
                  clear hst hs2 HS
                  cases hb2 : re.getD k false with
                  | true =>
                    rw [hb2] at cr
                    have hs3 := HS2.out
                    rw [upd1, if_pos hb2] at hs3
                    have HTK2 : Hid ((adM M tk s.row s.col).taken.getD k 0 = tk.getD k 0) := rfl
                    have ct := adL_taken S Lm2 hk8
                    rw [HTK2.out] at ct
                    have ht24 := htk.le k hlt
                    generalize tk.getD k 0 = t at *
                    have ht25 : t < 25 := by omega
                    have cu := adL_row S Lm2 ht25
                    rw [show (adM M tk s.row s.col).row = s.row from rfl] at cu
                    generalize s.row.getD t 0 = xu at *
                    generalize hxv : s.col.getD k 0 = xv at *
                    have HXV := Lib.hid hxv
                    have HS3 := Lib.hid hs3
                    have zg := adL_g S
                    have z1 := zg (5670 + t)
                    have z2 := zg (5695 + k)
                    have S1 := adS_row S Lm2 ht25 (wrap64 (xu - T.delta))
                    have cv := adL_col S1 ⟨by show (s.row.set t _).length = 25; rw [List.length_set]; exact HSR.out, HSC.out, htk.len⟩ hk8
                    rw [show (adM M tk s.row s.col).col.getD k 0 = xv from HXV.out] at cv
                    clear hs3 HS2 hb2 hxv HTK2 zg S
                    go_wp2
                    go_region
                    go_wp2
                    go_region
                    have HF := Lib.hid (adS_col S1 (k := k) ⟨by show (s.row.set t _).length = 25; rw [List.length_set]; exact HSR.out, HSC.out, htk.len⟩ hk8 (wrap64 (xv + T.delta)))
                    rw [W64_eq, W64_eq] at HS3
                    clear S1
                    go_wp2
                    go_roundw
                    case rel => exact ⟨k + 1, ⟨s.row.set t (wrap64 (xu - T.delta)), s.col.set k (wrap64 (xv + T.delta)), s.least⟩, by omega, by go_num, by rw [List.length_set]; exact HSR.out, by rw [List.length_set]; exact HSC.out, HSL.out, HF.out.drew.drew, HS3.out⟩
                    case measure => simp [intOf]; omega
                  | false =>
                    rw [hb2] at cr
                    have hs3 := HS2.out
                    rw [upd1, if_neg (by rw [hb2]; decide)] at hs3
                    have cl := adL_least S HSL.out hk8
                    have zl := adL_la S k
                    generalize hxl : s.least.getD k 0 = xl at *
                    have HS3 := Lib.hid hs3
                    rw [W64_eq] at HS3
                    have HF := Lib.hid (adS_least S k (wrap64 (xl - T.delta)))
                    clear hs3 HS2 hb2 hxl S
                    go_wp2
                    go_roundw
                    case rel => exact ⟨k + 1, ⟨s.row, s.col, s.least.set k (wrap64 (xl - T.delta))⟩, by omega, by go_num, HSR.out, HSC.out, by rw [List.length_set]; exact HSL.out, HF.out, HS3.out⟩
                    case measure => simp [intOf]; omega
                · have hle : decide ((k : Int) ≤ M.n) = false := by simp; omega
                  obtain rfl : k = M.n + 1 := by omega
                  have hs2 := HS.out
                  rw [Nat.sub_self, upd] at hs2
                  have HNEW : Hid (AddR W0 g la (la + 1) (la + 1 + 1) M tk Z L f (.int .i64 T.next) wr) := by
                    show AddR _ _ _ _ _ _ _ _ _ _ _ _
                    refine ⟨Go.Sheet.round M.worth M.n tk A, ?_, ⟨⟨?_, ?_, ?_, ?_, ?_⟩, ?_, ?_⟩, ?_, HLR.out⟩
                    · show _ = Value.int .i64 (roundS M.worth M.n tk A).next
                      rw [HT.out]
                    · show (roundU M.worth M.n tk A).row.length = 25
                      rw [← hs2]; exact HSR.out
                    · show (roundU M.worth M.n tk A).col.length = 218
                      rw [← hs2]; exact HSC.out
                    · show (roundU M.worth M.n tk A).least.length = 218
                      rw [← hs2]; exact HSL.out
                    · show (roundS M.worth M.n tk A).way.length = 218
                      rw [← HT.out]; exact HSW.out
                    · show (A.re.set A.at_ true).length = 218
                      rw [HRS.out]; exact HRE.out
                    · show (roundS M.worth M.n tk A).next ≤ M.n
                      rw [← HT.out]; exact hsn
                    · show ∀ k, (roundS M.worth M.n tk A).way.getD k 0 ≤ M.n
                      rw [← HT.out]; exact HWAY.out
                    · show St W0 wr (adL g la (la + 1) (la + 1 + 1) (adM M tk (roundU M.worth M.n tk A).row (roundU M.worth M.n tk A).col) (roundU M.worth M.n tk A).least (roundS M.worth M.n tk A).way (A.re.set A.at_ true) L)
                      rw [← hs2, ← HT.out, HRS.out]; exact S
                  clear hs2 S
                  go_wp2
                  go_roundw
                  case rel => exact ⟨f, HNEW.out⟩
                  case measure => exact hmu.lt HNEW.out (by rw [HM.out]; exact Nat.lt_succ_self f)
theorem add_any (W0 w : World) (g : Nat) (i : Nat) (M M' : Mt) (L : List Asr) (S : St W0 w (blk g 184 (cellsM M).toArray :: L)) (Ls : MLens M) (hn : M.n ≤ 217) (hi : i ≤ 24) (htk : ∀ k, 1 ≤ k → k ≤ M.n → M.taken.getD k 0 ≤ 24) (h : add M i = some M') :
    Calls Tryz.prog 130 #[.pointer (some ⟨g, 0, none⟩), .int .i64 i] w fun e w' => e = .returned (.tuple #[]) ∧ St W0 w' (blk g 184 (cellsM M').toArray :: L) := by
  rw [add] at h
  cases hZ : addLoop M.worth M.n (M.taken.set 0 i) (M.n + 1) (ad0 M.row M.col) with
  | none => rw [hZ] at h; cases h
  | some Z =>
    rw [hZ] at h
    simp only at h
    cases hQ : back Z.way (M.n + 1) (M.taken.set 0 i) Z.at_ with
    | none => rw [hQ] at h; cases h
    | some Q =>
      rw [hQ] at h
      simp only [Option.some.injEq] at h
      subst h
      refine add_run W0 w g i M L S Ls hn ⟨by rw [List.length_set]; exact Ls.taken, fun k hk => ?_⟩ Z hZ Q hQ
      rw [getD_set]
      split
      · exact hi
      · by_cases h0 : k = 0
        · subst h0
          rename_i hne
          exact absurd ⟨rfl, by rw [Ls.taken]; omega⟩ hne
        · exact htk k (by omega) hk
end Go.Proofs.YtlffgdmljioaoaaGreatDoor
