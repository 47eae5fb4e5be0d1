/- Part 6 of the walks of the golf union's program: L8. -/
import Derived.Test.YtnaafefcijgpkaaGreatDoorB05
set_option linter.unusedVariables false
set_option linter.unusedSimpArgs false
set_option linter.unusedSectionVars false
set_option linter.constructorNameAsVariable false
/- Chapter 5: the strokes given, the limits of holes. -/
namespace Go.Proofs.YtnaafefcijgpkaaGreatDoor
open Go.RowKit Go.Mem Go.Sheet Go.Adj
theorem rd_one {w : World} {u : Value} {t : TypeId} {g : Nat} (hg : w.heap.size = g) : Rd (w.alloc (.cells #[u] t)) (fun _ => True) 1 (.slice (some ⟨g, 0, none⟩) 1 1) 1 [u] :=
  hg ▸ rd_new (m := 1) w #[u] t rfl (by omega) (fun _ => True) trivial
theorem rd_two {w : World} {a b : Value} {t : TypeId} {g : Nat} (hg : w.heap.size = g) : Rd (w.alloc (.cells #[a, b] t)) (fun _ => True) 2 (.slice (some ⟨g, 0, none⟩) 1 1) 1 [a, b] :=
  hg ▸ rd_new (m := 1) w #[a, b] t rfl (by omega) (fun _ => True) trivial
theorem one_int (k : IntKind) (x : Int) : ∀ u ∈ [Value.int k x], u.oneCell' = true := by simp [Value.oneCell']
theorem one_net (k : IntKind) (x : Int) (m : ByteArray) : ∀ u ∈ [Value.int k x, Value.string m], u.oneCell' = true := by simp [Value.oneCell']
theorem rd_cellI {w : World} {S : Nat → Prop} {b o m c n k : Nat} {l : List Int} {x : Int} (h : Rd w S 1 (.slice (some ⟨b, o, none⟩) m c) n (intsI l)) (hx : l[k]? = some x) : w.cell? ⟨b, o + k, none⟩ = some (.int .i64 x) := by
  have hk : k < n := by
    have h1 := h.count1
    have h2 := (List.getElem?_eq_some_iff.1 hx).1
    omega
  obtain ⟨b', o', x', hA, hx', hc⟩ := Rd.int h hk
  cases hA
  cases Option.some.inj (hx'.symm.trans hx)
  exact hc
/-- the first k of what a function says -/
def gl (f : Nat → Int) (k : Nat) : List Int := (List.range k).map f
theorem gl_snoc (f : Nat → Int) (k : Nat) : gl f (k + 1) = gl f k ++ [f k] := by unfold gl; rw [List.range_succ, List.map_append]; rfl
theorem gl_at (f : Nat → Int) {n k : Nat} (h : k < n) : (gl f n)[k]? = some (f k) := by unfold gl; rw [List.getElem?_map, List.getElem?_range h]; rfl
theorem gl_len (f : Nat → Int) (k : Nat) : (gl f k).length = k := by simp [gl]
set_option maxRecDepth 100000 in
set_option maxHeartbeats 4000000 in
theorem given_any (W : World) (v : Value) (n : Nat) (hs : List HI) (co : Int) (hco : -99 ≤ co ∧ co ≤ 99) (h : Rd W (· < W.heap.size) 2 v n (hs.flatMap HI.cells)) (hg : GoodH hs) :
    Calls Tryz.prog 93 #[v, .int .i64 co] W fun e w' => ∃ v', e = .returned v' ∧ St W w' [row 3 1 v' n (intsI (gl (givF hs co) n))] := by
  have hl : n = hs.length := h.count (f := HI.cells) (size := 2) (fun _ => rfl) (by decide)
  have hn := hg.len
  rw [← hl] at hn
  have hq := q_bd hg.len hco
  have hr := rest_bd hg.len.1 co
  have hre : restF hs co = co - qF hs co * hs.length := rfl
  have hqe : qF hs co = floorF co n := by unfold qF; rw [hl]
  rw [← hl] at hr hre
  have HGV : Hid (∀ k, givF hs co k = if (hAt hs k).idx ≤ restF hs co then qF hs co + 1 else qF hs co) := fun _ => rfl
  have HID : Hid (∀ k, k < n → 1 ≤ (hAt hs k).idx ∧ (hAt hs k).idx ≤ n) := fun k hk => by
    have := hg.idx k (by omega)
    rwa [← hl] at this
  have HFL : Hid (∀ w, Calls Tryz.prog 115 #[.int .i64 co, .int .i64 n] w fun r w' => r = .returned (.int .i64 (qF hs co)) ∧ w = w') := fun w => by rw [hqe]; exact floor_any co n w (by omega) (by omega)
  generalize qF hs co = q at *
  generalize restF hs co = r at *
  generalize givF hs co = G at *
  have hqn : q * (n : Int) = co - r := by omega
  have H := Lib.hid h
  obtain ⟨A, c, rfl, _, _, _⟩ := h.open_
  clear h hg hl hre hqe
  have S0 := (St.refl W).row_nil 3 1
  have hsub : co - (co - r) = r := by omega
  go_enter Tryz.func93, Tryz.ntmps93
  go_wp2_with (go_at_call 115; refine (HFL.out _).mono ?_; rintro e w' ⟨rfl, rfl⟩)
  clear hsub hqn
  go_loopw [23, 7] (fun i v w' => ∃ k : Nat, k ≤ n ∧ i = .int .i64 k ∧ St W w' [row 3 1 v k (intsI (gl G k))]) (fun i _ _ => n - (intOf i).toNat)
  case atStart => exact ⟨0, Nat.zero_le _, rfl, S0⟩
  case round =>
    obtain ⟨k, hk, rfl, S⟩ := hrel
    clear S0
    by_cases hlt : k < n
    · obtain ⟨b, o, x, rfl, hx, c0, c1⟩ := (H.out.below S.bel).elem2 (k := k) (fun s : HI => .int .i64 s.par) (fun s : HI => .int .i64 s.idx) (fun _ => rfl) hlt
      have hxi := HID.out k hlt
      have hgk := HGV.out k
      rw [hAt_eq hx] at hxi hgk
      obtain ⟨par, idx⟩ := x
      simp only at c0 c1 hxi hgk
      clear hx
      by_cases hle : idx ≤ r
      · rw [if_pos hle] at hgk
        have HGK := Lib.hid hgk
        clear hgk
        go_wp2_with (at_builtin; refine wpList_append_st eltI rfl _ _ rfl rfl ((S.alloc _).alloc _) (k := 0) rfl rfl (rd_one (by simp)) (one_int _ _) (by omega) (by omega) ?_; intro v' w' S' _)
        go_roundw
        case rel => exact ⟨k + 1, by omega, by go_num, by rw [gl_snoc, HGK.out]; simpa [intsI] using S'⟩
        case measure => simp [intOf]; omega
      · rw [if_neg hle] at hgk
        have HGK := Lib.hid hgk
        clear hgk
        go_wp2_with (at_builtin; refine wpList_append_st eltI rfl _ _ rfl rfl ((S.alloc _).alloc _) (k := 0) rfl rfl (rd_one (by simp)) (one_int _ _) (by omega) (by omega) ?_; intro v' w' S' _)
        go_roundw
        case rel => exact ⟨k + 1, by omega, by go_num, by rw [gl_snoc, HGK.out]; simpa [intsI] using S'⟩
        case measure => simp [intOf]; omega
    · have HS := Lib.hid S
      clear S
      obtain rfl : k = n := by omega
      go_wp2
      go_ret
      exact ⟨_, rfl, HS.out⟩
theorem row_some {W w : World} {L : List Asr} {i : Nat} {e : TypeId} {n : Nat} {v : Value} {xs : List Value} (h : St W w L) (hi : L[i]? = some (row e 1 v n xs)) (hn : 1 ≤ n) : ∃ b c, v = .slice (some ⟨b, 0, none⟩) n c := by
  obtain ⟨g', cap', hv', _, _, _, _, _⟩ := h.row_form hi (by omega)
  exact ⟨_, _, hv'⟩
theorem good_bd {x : EI} (h : GoodE x) : 0 ≤ x.s ∧ x.s ≤ 99 := by
  rcases h with ⟨_, h⟩ | ⟨_, h⟩ <;> omega
end Go.Proofs.YtnaafefcijgpkaaGreatDoor
